/-
  Contracts of the laws' own helpers for slices of slices of integers: size, copy, compare, mark, held. No condition but sizes.
-/
import Derived.Test.YtnbhghgkjcfcmaaDoorLawA
namespace Go.Proofs.YtnbhghgkjcfcmaaDoor
set_option linter.unusedVariables false
set_option linter.unusedSimpArgs false
open Go.RowKit

/-- How many numbers a list of lists holds. -/
def total : List (List Int) → Nat
  | [] => 0
  | r :: rs => r.length + total rs
theorem total_append (a b : List (List Int)) : total (a ++ b) = total a + total b := by
  induction a with
  | nil => simp [total]
  | cons r rs ih => simp [total, ih]; omega
theorem total_snoc (t : List (List Int)) (k : Nat) (h : k < t.length) : total (t.take (k+1)) = total (t.take k) + (row t k).length := by
  rw [take_snoc_row t k h, total_append]; simp [total]
theorem total_take (t : List (List Int)) (k : Nat) : total (t.take k) ≤ total t := by
  have := total_append (t.take k) (t.drop k)
  rw [List.take_append_drop] at this; omega

/-- What is left of a budget, or -1. -/
def leftI (n : Nat) (left : Int) : Int := if (n : Int) ≤ left then left - n else -1
def leftR (t : List (List Int)) (left : Int) : Int := if (t.length : Int) + (total t : Int) ≤ left then left - t.length - total t else -1

theorem le_total {t : List (List Int)} {r : List Int} (h : r ∈ t) : r.length ≤ total t := by
  induction t with
  | nil => cases h
  | cons a rs ih =>
    rcases List.mem_cons.1 h with rfl | h
    · simp [total]
    · have := ih h; simp [total]; omega
theorem leftR_fits {t : List (List Int)} {left : Int} (h0 : 0 ≤ left) (h1 : left ≤ 1048576) (h : ¬ leftR t left < 0) :
    t.length ≤ 1048576 ∧ (∀ r ∈ t, r.length ≤ 1048576) ∧ total t ≤ 1048576 ∧ 0 ≤ leftR t left ∧ leftR t left ≤ 1048576 := by
  unfold leftR at h ⊢
  split at h
  · rename_i hf
    rw [if_pos hf]
    exact ⟨by omega, fun r hr => by have := le_total hr; omega, by omega, by omega, by omega⟩
  · omega
/-- What a mark of blocks beyond leaves. -/
theorem below_keep {lo hi : Nat} {w w1 w2 : World} (h : Below w.heap.size w w1) (hk : Keep (fun b => lo ≤ b ∧ b < hi) w1 w2) (hlo : w.heap.size ≤ lo) : Below w.heap.size w w2 :=
  h.trans (hk.below fun k hk' => ⟨Nat.lt_of_lt_of_le hk' h.size, fun e => by omega⟩)



theorem vals_setB (us : List Value) (n : Nat) (z u : Value) (k : Nat) (hl : us.length = k) (hk : k < n) :
    (us ++ (List.replicate n z).drop k).set k u = us ++ [u] ++ (List.replicate n z).drop (k+1) := by
  rw [List.set_append, if_neg (by omega), hl, Nat.sub_self, List.drop_eq_getElem_cons (by simpa using hk)]
  simp only [List.set_cons_zero, List.append_assoc, List.cons_append, List.nil_append]



/-- The marks of a list of lists, row after row. -/
def marks2 (k : Int) : List (List Int) → List (List Int)
  | [] => []
  | r :: rs => marks k r.length :: marks2 (k + r.length) rs
theorem marks2_append (k : Int) (a b : List (List Int)) : marks2 k (a ++ b) = marks2 k a ++ marks2 (k + total a) b := by
  induction a generalizing k with
  | nil => simp [marks2, total]
  | cons r rs ih => simp [marks2, total, ih, Int.add_assoc]
@[simp] theorem marks2_length (k : Int) (a : List (List Int)) : (marks2 k a).length = a.length := by
  induction a generalizing k with
  | nil => rfl
  | cons r rs ih => simp [marks2, ih]
theorem marks2_snoc (k : Int) (t : List (List Int)) (i : Nat) (h : i < t.length) : marks2 k (t.take (i+1)) = marks2 k (t.take i) ++ [marks (k + total (t.take i)) (row t i).length] := by
  rw [take_snoc_row _ _ h, marks2_append]; rfl
theorem marks2_row (k : Int) (t : List (List Int)) (i : Nat) (h : i < t.length) : row (marks2 k t) i = marks (k + total (t.take i)) (row t i).length := by
  have e : marks2 k t = marks2 k (t.take (i+1)) ++ marks2 (k + total (t.take (i+1))) (t.drop (i+1)) := by
    rw [← marks2_append, List.take_append_drop]
  rw [e, marks2_snoc _ _ _ h]
  unfold row
  simp only [Int.toNat_natCast]
  have hl : i = (marks2 k (t.take i)).length := by simp; omega
  generalize hA : marks2 k (t.take i) = A at *
  rw [List.append_assoc, List.getD_eq_getElem?_getD, List.getElem?_append_right (by omega)]
  simp [← hl]
/-- Half marked. -/
def half (k : Int) (t : List (List Int)) (i : Nat) : List (List Int) := marks2 k (t.take i) ++ t.drop i
theorem half_zero (k : Int) (t : List (List Int)) : half k t 0 = t := by simp [half, marks2]
theorem half_all (k : Int) (t : List (List Int)) : half k t t.length = marks2 k t := by simp [half]
@[simp] theorem half_length (k : Int) (t : List (List Int)) (i : Nat) : (half k t i).length = t.length := by simp [half]; omega
theorem half_set (k : Int) (t : List (List Int)) (i : Nat) (h : i < t.length) : (half k t i).set i (marks (k + total (t.take i)) (row t i).length) = half k t (i+1) := by
  unfold half
  have hl : (marks2 k (t.take i)).length = i := by simp; omega
  rw [List.set_append, if_neg (by omega), hl, Nat.sub_self, List.drop_eq_getElem_cons h, marks2_snoc _ _ _ h]
  simp only [List.set_cons_zero, List.append_assoc, List.cons_append, List.nil_append]
theorem half_row (k : Int) (t : List (List Int)) (i : Nat) (h : i < t.length) (h' : i < (half k t i).length) : (half k t i)[i] = row t i := by
  unfold half at h' ⊢
  have hl : (marks2 k (t.take i)).length = i := by simp; omega
  rw [List.getElem_append_right (by omega)]
  simp [hl, row_nat _ _ h]

theorem RowVals.turn {B : Nat} {w w' : World} {us : List Value} {xss : List (List Int)} (h : RowVals B w us xss) {k : Nat} (hk : k < us.length) {ys : List Int} (ho : Own B w' us[k] ys) (hkeep : Keep (fun b => us[k].ownBlock = some b) w w') :
    RowVals B w' us (xss.set k ys) := by
  refine ⟨by simp [h.len], fun i hi hi' => ?_, h.apart⟩
  rw [List.getElem_set]
  by_cases e : k = i
  · subst e; simpa using ho
  · rw [if_neg e]
    have h0 := h.own i hi (by simpa using hi')
    obtain ⟨hl, hn | ⟨g, cap, cur, hv, hb, hg, r⟩⟩ := h0
    · exact ⟨hl, .inl hn⟩
    · refine ⟨hl, .inr ⟨g, cap, cur, hv, hb, ?_, r⟩⟩
      rw [hkeep.block g (Array.getElem?_eq_some_iff.1 hg).1 ?_]; exact hg
      intro e2
      have h1 : (us[i]).ownBlock = some g := by rw [hv]; rfl
      rcases Nat.lt_or_gt_of_ne e with hlt | hlt
      · have := List.pairwise_iff_getElem.1 h.apart k i hk hi hlt
        rcases this with h3 | h3
        · rw [h3] at e2; cases e2
        · exact h3 (e2.trans h1.symm)
      · have := List.pairwise_iff_getElem.1 h.apart i k hi hk hlt
        rcases this with h3 | h3
        · rw [h3] at h1; cases h1
        · exact h3 (h1.trans e2.symm)

theorem ownsRow_ne {B B' : Nat} {w w' : World} {v u : Value} {us : List Value} {xs : List Int} (h : w.ownsRow B 32 1 v us.length us) (hu : Own B' w u xs) (hkeep : Keep (fun b => u.ownBlock = some b) w w') : w'.ownsRow B 32 1 v us.length us := by
  obtain ⟨hl, hn | ⟨g, cap, cur, hv, hb, hg, r⟩⟩ := h
  · exact ⟨hl, .inl hn⟩
  · refine ⟨hl, .inr ⟨g, cap, cur, hv, hb, ?_, r⟩⟩
    rw [hkeep.block g (Array.getElem?_eq_some_iff.1 hg).1 ?_]; exact hg
    have := hu.ne (g := g) (t := 32) (cs := cur.toList) (by unfold Blk; simpa using hg) (by decide)
    exact this

/-- A table of the call's own, all its blocks from lo up to hi. -/
def OwnRowsIn (lo hi : Nat) (w : World) (v : Value) (t : List (List Int)) : Prop :=
  ∃ us, w.ownsRow lo 32 1 v us.length us ∧ RowVals lo w us t ∧ (∀ k, v.ownBlock = some k → k < hi) ∧ ∀ i (h : i < us.length) k, us[i].ownBlock = some k → k < hi
theorem OwnRows.inn {lo : Nat} {w : World} {v : Value} {t : List (List Int)} (h : OwnRows lo w v t) : OwnRowsIn lo w.heap.size w v t := by
  obtain ⟨us, h1, h2⟩ := h
  exact ⟨us, h1, h2, fun k hk => (World.ownsRow.lt h1 k hk).2, fun i hi k hk => ((h2.own i hi (by rw [← h2.len]; exact hi)).lt hk).2⟩
theorem OwnRowsIn.out {lo hi : Nat} {w : World} {v : Value} {t : List (List Int)} (h : OwnRowsIn lo hi w v t) : OwnRows lo w v t := by
  obtain ⟨us, h1, h2, _⟩ := h
  exact ⟨us, h1, h2⟩
theorem OwnRowsIn.rows {lo hi : Nat} {w : World} {v : Value} {t : List (List Int)} (h : OwnRowsIn lo hi w v t) : Rows w v t := h.out.rows
theorem OwnRowsIn.keep {lo hi : Nat} {S : Nat → Prop} {w w' : World} {v : Value} {t : List (List Int)} (h : OwnRowsIn lo hi w v t) (k : Keep S w w') (hs : ∀ b, lo ≤ b → b < hi → ¬ S b) : OwnRowsIn lo hi w' v t := by
  obtain ⟨us, h1, h2, h3, h4⟩ := h
  refine ⟨us, ?_, ⟨h2.len, fun i hi hi' => ?_, h2.apart⟩, h3, h4⟩
  · obtain ⟨hl, hn | ⟨g, cap, cur, hv, hb, hg, r⟩⟩ := h1
    · exact ⟨hl, .inl hn⟩
    · exact ⟨hl, .inr ⟨g, cap, cur, hv, hb, by rw [k.block g (Array.getElem?_eq_some_iff.1 hg).1 (hs g hb (h3 g (by rw [hv]; rfl)))]; exact hg, r⟩⟩
  · exact (OwnIn.keep ⟨h2.own i hi hi', h4 i hi⟩ k hs).1
theorem OwnRowsIn.under {lo hi : Nat} {w w' : World} {v : Value} {t : List (List Int)} (h : OwnRowsIn lo hi w v t) (hb : Below w.heap.size w w') : OwnRowsIn lo hi w' v t := by
  obtain ⟨us, h1, h2, h3, h4⟩ := h
  exact ⟨us, ownsRow_keep h1 (Keep.of_below hb) (fun b _ hlt => by omega), h2.under hb, h3, h4⟩


end Go.Proofs.YtnbhghgkjcfcmaaDoor
