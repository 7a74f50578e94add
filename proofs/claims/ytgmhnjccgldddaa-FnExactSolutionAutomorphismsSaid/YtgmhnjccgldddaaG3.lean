/-
  A list of lists kept in ascending order: a list put in at its place, in plain words and as cells of a row.
-/
import Derived.Test.YtgmhnjccgldddaaG1
import Derived.Test.YtgmhnjccgldddaaS2a
namespace Go.Proofs.Ytgmhnjccgldddaa
set_option linter.unusedVariables false
set_option linter.unusedSimpArgs false
open Go Go.RowKit

/-- The place of p in an ascending list: what lies ahead of it is less, what lies behind is not. -/
structure PutAt (S : List (List Int)) (p : List Int) (lo hi : Nat) : Prop where
  le : lo ≤ hi
  len : hi ≤ S.length
  less : ∀ i : Nat, i < lo → lexB (row S i) p = true
  more : ∀ i : Nat, hi ≤ i → i < S.length → lexB (row S i) p = false
theorem ascR_lt {S : List (List Int)} (h : AscR S) {i j : Nat} (hij : i < j) (hj : j < S.length) : lexB (row S i) (row S j) = true := by
  rw [row_nat _ _ (by omega), row_nat _ _ hj]
  exact List.pairwise_iff_getElem.1 h i j (by omega) hj hij
theorem PutAt.start (S : List (List Int)) (p : List Int) : PutAt S p 0 S.length := ⟨Nat.zero_le _, Nat.le_refl _, fun i h => by omega, fun i h1 h2 => by omega⟩
theorem PutAt.up {S : List (List Int)} {p : List Int} {lo hi at' : Nat} (h : PutAt S p lo hi) (hs : AscR S) (h2 : at' < hi) (hl : lexB (row S at') p = true) : PutAt S p (at' + 1) hi := by
  refine ⟨h2, h.len, fun i hi' => ?_, h.more⟩
  rcases Nat.lt_or_ge i at' with e | e
  · exact lexB_trans (ascR_lt hs e (Nat.lt_of_lt_of_le h2 h.len)) hl
  · have : i = at' := by omega
    rw [this]; exact hl
theorem PutAt.down {S : List (List Int)} {p : List Int} {lo hi at' : Nat} (h : PutAt S p lo hi) (hs : AscR S) (h1 : lo ≤ at') (h2 : at' < hi) (hl : lexB (row S at') p = false) : PutAt S p lo at' := by
  refine ⟨h1, Nat.le_of_lt (Nat.lt_of_lt_of_le h2 h.len), h.less, fun i hi' hi2 => ?_⟩
  rcases Nat.lt_or_ge at' i with e | e
  · cases e3 : lexB (row S i) p
    · rfl
    · rw [lexB_trans (ascR_lt hs e hi2) e3] at hl; cases hl
  · have : i = at' := by omega
    rw [this]; exact hl
theorem put_in {S : List (List Int)} {p : List Int} {k : Nat} (hk : k < S.length) (e : row S k = p) : p ∈ S := by
  rw [← e]; exact row_mem (by omega) (by omega)
theorem put_new {S : List (List Int)} {p : List Int} {k : Nat} (h : PutAt S p k k) (hs : AscR S) (hne : ¬ (k < S.length ∧ row S k = p)) : p ∉ S ∧ AscR (S.take k ++ p :: S.drop k) ∧ (S.take k ++ p :: S.drop k).Perm (S ++ [p]) := by
  have hni : p ∉ S := by
    intro hp
    obtain ⟨i, hi, e⟩ := List.getElem_of_mem hp
    have e' : row S i = p := by rw [row_nat _ _ hi]; exact e
    rcases Nat.lt_trichotomy i k with g | g | g
    · have := h.less i g
      rw [e', lexB_irrefl] at this; cases this
    · subst g; exact hne ⟨hi, e'⟩
    · have h1 := h.more k (Nat.le_refl _) (by omega)
      have h2 := ascR_lt hs g hi
      rw [e'] at h2
      rw [h2] at h1; cases h1
  refine ⟨hni, ?_, ?_⟩
  · have hs' : (S.take k ++ S.drop k).Pairwise fun p q => lexB p q = true := by rw [List.take_append_drop]; exact hs
    obtain ⟨p1, p2, p3⟩ := List.pairwise_append.1 hs'
    refine List.pairwise_append.2 ⟨p1, List.pairwise_cons.2 ⟨fun b hb => ?_, p2⟩, fun a ha b hb => ?_⟩
    · obtain ⟨j, hj, e⟩ := List.getElem_of_mem hb
      rw [List.getElem_drop] at e
      simp only [List.length_drop] at hj
      have h1 := h.more (k + j) (by omega) (by omega)
      rw [row_nat _ _ (show k + j < S.length by omega), e] at h1
      exact lexB_total (fun e2 => hni (by rw [← e2]; exact List.mem_of_mem_drop hb)) h1
    · rcases List.mem_cons.1 hb with rfl | hb
      · obtain ⟨j, hj, e⟩ := List.getElem_of_mem ha
        rw [List.getElem_take] at e
        simp only [List.length_take] at hj
        have h1 := h.less j (by omega)
        rwa [row_nat _ _ (show j < S.length by omega), e] at h1
      · exact p3 a ha b hb
  · refine (List.perm_middle (a := p) (l₁ := S.take k) (l₂ := S.drop k)).trans ?_
    rw [List.take_append_drop]
    exact (List.perm_append_singleton p S).symm

/-! The cells: the new one at the end, then moved up to its place. -/
def shf (us : List Value) (u : Value) (k : Nat) : List Value := (us ++ [u]).take (k + 1) ++ us.drop k
theorem shf_end (us : List Value) (u : Value) : shf us u us.length = us ++ [u] := by simp [shf, List.take_of_length_le]
theorem shf_len (us : List Value) (u : Value) {k : Nat} (h : k ≤ us.length) : (shf us u k).length = us.length + 1 := by simp [shf]; omega
theorem shf_at (us : List Value) (u : Value) {k j : Nat} (h : j ≤ k) (hk : j < us.length) : (shf us u k)[j]? = us[j]? := by
  unfold shf
  rw [List.getElem?_append_left (by simp; omega), List.getElem?_take, if_pos (by omega), List.getElem?_append_left hk]
theorem shf_step (us : List Value) (u : Value) {k : Nat} (h1 : k < us.length) : (shf us u (k + 1)).set (k + 1) us[k] = shf us u k := by
  apply List.ext_getElem?
  intro j
  unfold shf
  rw [List.getElem?_set]
  by_cases e : k + 1 = j
  · subst e
    simp only [if_true]
    have h3 : k + 1 < ((us ++ [u]).take (k + 1 + 1) ++ us.drop (k + 1)).length := by simp; omega
    rw [if_pos h3, List.getElem?_append_right (by simp; omega)]
    have h4 : ((us ++ [u]).take (k + 1)).length = k + 1 := by simp; omega
    rw [h4, Nat.sub_self, List.getElem?_drop]
    simp [h1]
  · rw [if_neg e]
    rcases Nat.lt_or_ge j (k + 1) with h | h
    · rw [List.getElem?_append_left (by simp; omega), List.getElem?_append_left (by simp; omega), List.getElem?_take, List.getElem?_take, if_pos (by omega), if_pos (by omega)]
    · have h4 : ((us ++ [u]).take (k + 1)).length = k + 1 := by simp; omega
      have h5 : ((us ++ [u]).take (k + 1 + 1)).length = k + 2 := by simp; omega
      rw [List.getElem?_append_right (by rw [h5]; omega), List.getElem?_append_right (by rw [h4]; omega), h4, h5, List.getElem?_drop, List.getElem?_drop]
      congr 1; omega
theorem shf_done (us : List Value) (u : Value) {k : Nat} (h : k ≤ us.length) : (shf us u k).set k u = us.take k ++ u :: us.drop k := by
  apply List.ext_getElem?
  intro j
  unfold shf
  have h4 : ((us ++ [u]).take (k + 1)).length = k + 1 := by simp; omega
  have h5 : (us.take k).length = k := by simp; omega
  rw [List.getElem?_set]
  by_cases e : k = j
  · subst e
    rw [if_pos rfl, if_pos (by simp; omega), List.getElem?_append_right (by rw [h5]; exact Nat.le_refl _), h5, Nat.sub_self]
    rfl
  · rw [if_neg e]
    rcases Nat.lt_or_ge j k with h' | h'
    · rw [List.getElem?_append_left (by rw [h4]; omega), List.getElem?_append_left (by rw [h5]; omega), List.getElem?_take, List.getElem?_take, if_pos (by omega), if_pos (by omega), List.getElem?_append_left (by omega)]
    · rw [List.getElem?_append_right (by rw [h4]; omega), List.getElem?_append_right (by rw [h5]; omega), h4, h5]
      obtain ⟨i, rfl⟩ : ∃ i, j = k + 1 + i := ⟨j - (k + 1), by omega⟩
      rw [show k + 1 + i - k = i + 1 by omega, show k + 1 + i - (k + 1) = i by omega, List.getElem?_cons_succ]

/-- A row of one-cell values that nobody else holds, opened. -/
theorem ownsRow_open {B : Nat} {w : World} {t : TypeId} {v : Value} {us : List Value} (h : w.ownsRow B t 1 v us.length us) :
    (v = .slice none 0 0 ∧ us = []) ∨ ∃ g cs, v = .slice (some ⟨g, 0, none⟩) us.length (us.length + cs.length) ∧ B ≤ g ∧ Blk w g t (us ++ cs) ∧ us.length + cs.length ≤ maxLen := by
  obtain ⟨hl, h | ⟨g, cap, cur, rfl, hb, hg, hc, hm, hs, ht⟩⟩ := h
  · exact .inl ⟨h.1, List.eq_nil_of_length_eq_zero h.2⟩
  · have e : us ++ cur.toList.drop us.length = cur.toList := by
      rw [Nat.mul_one] at ht
      conv => lhs; lhs; rw [← ht]
      exact List.take_append_drop _ _
    refine .inr ⟨g, cur.toList.drop us.length, ?_, hb, ?_, ?_⟩
    · congr 1; simp; omega
    · unfold Blk
      rw [hg, e]
    · simp; omega
theorem ownsRow_shut {B : Nat} {w : World} {t : TypeId} {g : Nat} {us cs : List Value} (h : Blk w g t (us ++ cs)) (hB : B ≤ g) (hm : us.length + cs.length ≤ maxLen) {n m : Nat} (hn : n = us.length) (hm' : m = us.length + cs.length) :
    w.ownsRow B t 1 (.slice (some ⟨g, 0, none⟩) n m) us.length us := by
  subst hn; subst hm'
  refine ⟨by simp, .inr ⟨g, _, _, rfl, hB, h, by omega, hm, by simp, ?_⟩⟩
  simp only [Nat.mul_one]
  rw [List.take_append_of_le_length (by simp), List.take_of_length_le (by simp)]
/-- The rows in another order. -/
theorem RowVals.perm2 {B : Nat} {w : World} {us us2 : List Value} {X Y : List (List Int)} (h : RowVals B w us X) (hp : (us2.zip Y).Perm (us.zip X)) (hl : us2.length = Y.length) : RowVals B w us2 Y := by
  have hz : ∀ i (h1 : i < us2.length) (h2 : i < Y.length), ∃ j, ∃ (h3 : j < us.length) (h4 : j < X.length), us2[i] = us[j] ∧ Y[i] = X[j] := by
    intro i h1 h2
    have h3 : i < (us2.zip Y).length := by simp; omega
    have hm : (us2.zip Y)[i] ∈ us.zip X := hp.mem_iff.1 (List.getElem_mem h3)
    obtain ⟨j, hj, e⟩ := List.getElem_of_mem hm
    rw [List.getElem_zip, List.getElem_zip] at e
    simp only [List.length_zip] at hj
    exact ⟨j, by omega, by omega, (congrArg Prod.fst e).symm, (congrArg Prod.snd e).symm⟩
  refine ⟨hl, fun i h1 h2 => ?_, ?_⟩
  · obtain ⟨j, h3, h4, e1, e2⟩ := hz i h1 h2
    rw [e1, e2]; exact h.own j h3 h4
  · have hu : us2.Perm us := by
      have := hp.map Prod.fst
      rwa [List.map_fst_zip (by omega), List.map_fst_zip (by have := h.len; omega)] at this
    refine (List.Perm.pairwise_iff ?_ hu).2 h.apart
    intro a b hab
    rcases hab with e | e
    · by_cases hb : b.ownBlock = none
      · exact .inl hb
      · exact .inr (by rw [e]; exact fun e2 => hb e2)
    · exact .inr (Ne.symm e)
end Go.Proofs.Ytgmhnjccgldddaa
