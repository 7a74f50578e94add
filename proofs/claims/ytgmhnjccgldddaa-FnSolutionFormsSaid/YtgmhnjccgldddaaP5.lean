/-
  All permutations of n elements in lexicographic order; the one that is next after one. No program here.
-/
import Derived.Test.YtgmhnjccgldddaaI3
namespace Go.Proofs.Ytgmhnjccgldddaa
set_option linter.unusedVariables false
set_option linter.unusedSimpArgs false

/-- Is a list lexicographically less than another one? -/
def lexB : List Int → List Int → Bool
  | _, [] => false
  | [], _ :: _ => true
  | a :: p, b :: q => decide (a < b) || (decide (a = b) && lexB p q)
theorem lexB_irrefl : ∀ l, lexB l l = false
  | [] => rfl
  | a :: p => by simp [lexB, lexB_irrefl p]
theorem lexB_trans : ∀ {a b c : List Int}, lexB a b = true → lexB b c = true → lexB a c = true
  | [], [], _, h, _ => by simp [lexB] at h
  | _ :: _, [], _, h, _ => by simp [lexB] at h
  | _, _ :: _, [], _, h => by simp [lexB] at h
  | [], _ :: _, _ :: _, _, _ => rfl
  | a :: p, b :: q, c :: r, h, k => by
    simp only [lexB, Bool.or_eq_true, Bool.and_eq_true, decide_eq_true_eq] at h k ⊢
    rcases h with h | ⟨rfl, h⟩
    · rcases k with k | ⟨rfl, k⟩
      · exact .inl (by omega)
      · exact .inl h
    · rcases k with k | ⟨rfl, k⟩
      · exact .inl k
      · exact .inr ⟨rfl, lexB_trans h k⟩
theorem lexB_asymm {a b : List Int} (h : lexB a b = true) : lexB b a = false := by
  cases e : lexB b a with
  | false => rfl
  | true => have := lexB_trans h e; rw [lexB_irrefl] at this; cases this
theorem lexB_append : ∀ (u x y : List Int), lexB (u ++ x) (u ++ y) = lexB x y
  | [], _, _ => rfl
  | a :: u, x, y => by simp [lexB, lexB_append u x y]
theorem lexB_between : ∀ {u x y r : List Int}, lexB (u ++ x) r = true → lexB r (u ++ y) = true → ∃ r', r = u ++ r' ∧ lexB x r' = true ∧ lexB r' y = true
  | [], x, y, r, h, k => ⟨r, rfl, h, k⟩
  | a :: u, x, y, [], h, k => by simp [lexB] at h
  | a :: u, x, y, e :: r, h, k => by
    simp only [List.cons_append, lexB, Bool.or_eq_true, Bool.and_eq_true, decide_eq_true_eq] at h k
    have he : a = e := by omega
    subst he
    rcases h with h | ⟨_, h⟩
    · omega
    rcases k with k | ⟨_, k⟩
    · omega
    obtain ⟨r', rfl, h1, h2⟩ := lexB_between h k
    exact ⟨r', rfl, h1, h2⟩

def Desc (l : List Int) : Prop := l.Pairwise (· > ·)
def Asc (l : List Int) : Prop := l.Pairwise (· < ·)
theorem desc_max : ∀ {p r : List Int}, Desc p → r.Perm p → lexB p r = true → False
  | [], r, _, hp, h => by
    have := hp.eq_nil; subst this; simp [lexB] at h
  | c :: p, [], _, hp, _ => by have := hp.symm.eq_nil; simp at this
  | c :: p, y :: r, hd, hp, h => by
    have hd' := List.pairwise_cons.1 hd
    simp only [lexB, Bool.or_eq_true, Bool.and_eq_true, decide_eq_true_eq] at h
    have hy : y ∈ c :: p := hp.subset (by simp)
    have hle : y ≤ c := by
      rcases List.mem_cons.1 hy with e | e
      · omega
      · have := hd'.1 y e; omega
    rcases h with h | ⟨rfl, h⟩
    · omega
    · exact desc_max hd'.2 hp.cons_inv h
theorem asc_min : ∀ {p r : List Int}, Asc p → r.Perm p → lexB r p = true → False
  | [], r, _, hp, h => by
    have := hp.eq_nil; subst this; simp [lexB] at h
  | c :: p, [], _, hp, _ => by have := hp.symm.eq_nil; simp at this
  | c :: p, y :: r, hd, hp, h => by
    have hd' := List.pairwise_cons.1 hd
    simp only [lexB, Bool.or_eq_true, Bool.and_eq_true, decide_eq_true_eq] at h
    have hy : y ∈ c :: p := hp.subset (by simp)
    have hle : c ≤ y := by
      rcases List.mem_cons.1 hy with e | e
      · omega
      · have := hd'.1 y e; omega
    rcases h with h | ⟨rfl, h⟩
    · omega
    · exact asc_min hd'.2 hp.cons_inv h

/-- q comes next after p. -/
def IsNext (p q : List Int) : Prop :=
  ∃ (u d1 d2 : List Int) (a b : Int), p = u ++ a :: (d1 ++ b :: d2) ∧ q = u ++ b :: (d1 ++ a :: d2).reverse ∧ Desc (d1 ++ b :: d2) ∧ a < b ∧ ∀ x ∈ d2, x < a
theorem swap_perm (a b : Int) (d1 d2 : List Int) : (a :: (d1 ++ b :: d2)).Perm (b :: (d1 ++ a :: d2)) := by
  have h1 : (a :: (d1 ++ b :: d2)).Perm (a :: b :: (d1 ++ d2)) := List.Perm.cons a List.perm_middle
  have h2 : (b :: (d1 ++ a :: d2)).Perm (b :: a :: (d1 ++ d2)) := List.Perm.cons b List.perm_middle
  exact h1.trans ((List.Perm.swap b a _).trans h2.symm)
theorem IsNext.perm {p q : List Int} (h : IsNext p q) : q.Perm p := by
  obtain ⟨u, d1, d2, a, b, rfl, rfl, _, _, _⟩ := h
  refine List.Perm.append_left u ?_
  exact ((List.reverse_perm _).cons b).trans (swap_perm a b d1 d2).symm
theorem IsNext.gt {p q : List Int} (h : IsNext p q) : lexB p q = true := by
  obtain ⟨u, d1, d2, a, b, rfl, rfl, _, hab, _⟩ := h
  rw [lexB_append]
  simp [lexB, hab]
theorem IsNext.gap {p q r : List Int} (h : IsNext p q) (hr : r.Perm p) (h1 : lexB p r = true) (h2 : lexB r q = true) : False := by
  obtain ⟨u, d1, d2, a, b, rfl, rfl, hd, hab, hlt⟩ := h
  obtain ⟨r', rfl, k1, k2⟩ := lexB_between h1 h2
  have hp : r'.Perm (a :: (d1 ++ b :: d2)) := (List.perm_append_left_iff u).1 hr
  cases r' with
  | nil => have := hp.symm.eq_nil; simp at this
  | cons y r'' =>
    have hd0 := List.pairwise_append.1 hd
    have hd1 := List.pairwise_cons.1 hd0.2.1
    have hy : y ∈ a :: (d1 ++ b :: d2) := hp.subset (by simp)
    simp only [lexB, Bool.or_eq_true, Bool.and_eq_true, decide_eq_true_eq] at k1 k2
    rcases k1 with k1 | ⟨rfl, k1⟩
    · have hyb : y ≤ b := by rcases k2 with k2 | ⟨k2, _⟩ <;> omega
      have hy' : y = b := by
        rcases List.mem_cons.1 hy with e | e
        · omega
        · rcases List.mem_append.1 e with e | e
          · have := hd0.2.2 y e b (by simp); omega
          · rcases List.mem_cons.1 e with e | e
            · exact e
            · have := hlt y e; omega
      subst hy'
      rcases k2 with k2 | ⟨_, k2⟩
      · omega
      have hp2 : r''.Perm (d1 ++ a :: d2) := (hp.trans (swap_perm a y d1 d2)).cons_inv
      have hdesc : Desc (d1 ++ a :: d2) := by
        refine List.pairwise_append.2 ⟨hd0.1, List.pairwise_cons.2 ⟨fun x hx => hlt x hx, hd1.2⟩, fun x hx z hz => ?_⟩
        have hxb := hd0.2.2 x hx y (by simp)
        rcases List.mem_cons.1 hz with e | e
        · subst e; omega
        · have := hlt z e; omega
      have hasc : Asc (d1 ++ a :: d2).reverse := List.pairwise_reverse.2 hdesc
      exact asc_min hasc (hp2.trans (List.reverse_perm _).symm) k2
    · exact desc_max hd hp.cons_inv k1

/-- All lists that go on from 'start' with m further numbers below n, none twice, in lexicographic order. -/
def growL (n : Nat) : Nat → List Int → List (List Int)
  | 0, start => [start]
  | m + 1, start => ((iota n).filter fun x => decide (¬ x ∈ start)).flatMap fun x => growL n m (start ++ [x])
def allPerms (n : Nat) : List (List Int) := growL n n []
theorem mem_growL (n : Nat) : ∀ (m : Nat) (start q : List Int), q ∈ growL n m start ↔ ∃ t, q = start ++ t ∧ t.length = m ∧ t.Nodup ∧ ∀ x ∈ t, (0 ≤ x ∧ x < n) ∧ ¬ x ∈ start
  | 0, start, q => by
    simp only [growL, List.mem_singleton]
    constructor
    · rintro rfl; exact ⟨[], by simp, rfl, List.nodup_nil, by simp⟩
    · rintro ⟨t, rfl, ht, _⟩
      have := List.eq_nil_of_length_eq_zero ht; subst this; simp
  | m + 1, start, q => by
    simp only [growL, List.mem_flatMap, List.mem_filter, mem_iota, decide_eq_true_eq]
    constructor
    · rintro ⟨x, ⟨hx, hs⟩, hq⟩
      obtain ⟨t, rfl, ht, hn, hr⟩ := (mem_growL n m _ _).1 hq
      refine ⟨x :: t, by simp, by simp [ht], List.nodup_cons.2 ⟨fun h => (hr x h).2 (by simp), hn⟩, fun y hy => ?_⟩
      rcases List.mem_cons.1 hy with rfl | hy
      · exact ⟨hx, hs⟩
      · exact ⟨(hr y hy).1, fun h => (hr y hy).2 (by simp [h])⟩
    · rintro ⟨t, rfl, ht, hn, hr⟩
      cases t with
      | nil => simp at ht
      | cons x t =>
        have hn' := List.nodup_cons.1 hn
        refine ⟨x, hr x (by simp), (mem_growL n m _ _).2 ⟨t, by simp, by simpa using ht, hn'.2, fun y hy => ⟨(hr y (by simp [hy])).1, fun h => ?_⟩⟩⟩
        rcases List.mem_append.1 h with h | h
        · exact (hr y (by simp [hy])).2 h
        · simp at h; subst h; exact hn'.1 hy
theorem mem_allPerms {n : Nat} {q : List Int} : q ∈ allPerms n ↔ Permuted q ∧ q.length = n := by
  unfold allPerms
  rw [mem_growL]
  constructor
  · rintro ⟨t, rfl, ht, hn, hr⟩
    exact ⟨⟨hn, fun x hx => by rw [ht]; exact (hr x hx).1⟩, ht⟩
  · rintro ⟨h, hl⟩
    exact ⟨q, rfl, hl, h.1, fun x hx => ⟨by have := h.2 x hx; omega, by simp⟩⟩
theorem iota_asc (n : Nat) : Asc (iota n) := by
  unfold iota Asc
  exact List.pairwise_map.2 (List.pairwise_lt_range.imp fun h => by omega)
theorem growL_sorted (n : Nat) : ∀ (m : Nat) (start : List Int), (growL n m start).Pairwise fun p q => lexB p q = true
  | 0, start => by simp [growL]
  | m + 1, start => by
    simp only [growL]
    rw [List.pairwise_flatMap]
    refine ⟨fun x _ => growL_sorted n m _, ((iota_asc n).filter _).imp fun {x y} hxy p hp q hq => ?_⟩
    obtain ⟨t, rfl, _⟩ := (mem_growL n m _ _).1 hp
    obtain ⟨t', rfl, _⟩ := (mem_growL n m _ _).1 hq
    rw [List.append_assoc, List.append_assoc, lexB_append]
    simp [lexB, hxy]
theorem allPerms_lt {n i j : Nat} (hij : i < j) (hj : j < (allPerms n).length) : lexB (row (allPerms n) i) (row (allPerms n) j) = true := by
  rw [row_nat _ _ (by omega), row_nat _ _ hj]
  exact List.pairwise_iff_getElem.1 (growL_sorted n n []) i j (Nat.lt_trans hij hj) hj hij
theorem allPerms_at {n : Nat} {q : List Int} (h : Permuted q) (hl : q.length = n) : ∃ j, j < (allPerms n).length ∧ row (allPerms n) j = q := by
  obtain ⟨j, hj, e⟩ := List.getElem_of_mem (mem_allPerms.2 ⟨h, hl⟩)
  exact ⟨j, hj, by rw [row_nat _ _ hj]; exact e⟩
theorem allPerms_row {n k : Nat} (h : k < (allPerms n).length) : Permuted (row (allPerms n) k) ∧ (row (allPerms n) k).length = n :=
  mem_allPerms.1 (by rw [row_nat _ _ h]; exact List.getElem_mem h)
theorem permuted_of_perm {p q : List Int} (h : q.Perm p) (hp : Permuted p) : Permuted q :=
  ⟨h.nodup_iff.2 hp.1, fun x hx => by have := hp.2 x (h.mem_iff.1 hx); rw [h.length_eq]; exact this⟩
theorem perm_of_permuted {p q : List Int} (hp : Permuted p) (hq : Permuted q) (hl : q.length = p.length) : q.Perm p := by
  have h1 := hp.perm; have h2 := hq.perm; rw [hl] at h2; exact h2.trans h1.symm
theorem allPerms_next {n k : Nat} (h : k < (allPerms n).length) {q : List Int} (hn : IsNext (row (allPerms n) k) q) : k + 1 < (allPerms n).length ∧ row (allPerms n) (k + 1 : Nat) = q := by
  obtain ⟨hp, hl⟩ := allPerms_row h
  have hq := permuted_of_perm hn.perm hp
  obtain ⟨j, hj, e⟩ := allPerms_at (n := n) hq (by rw [hn.perm.length_eq]; exact hl)
  have hgt := hn.gt
  rw [← e] at hgt
  have hkj : k < j := by
    rcases Nat.lt_trichotomy k j with h1 | h1 | h1
    · exact h1
    · subst h1; rw [lexB_irrefl] at hgt; cases hgt
    · have := lexB_asymm (allPerms_lt h1 h); rw [hgt] at this; cases this
  have hj1 : j = k + 1 := by
    rcases Nat.lt_or_ge (k + 1) j with h1 | h1
    · obtain ⟨hp1, hl1⟩ := allPerms_row (n := n) (k := k + 1) (by omega)
      exact (hn.gap (perm_of_permuted hp hp1 (by omega)) (allPerms_lt (Nat.lt_succ_self k) (by omega)) (by rw [← e]; exact allPerms_lt h1 hj)).elim
    · omega
  subst hj1
  exact ⟨hj, e⟩
theorem allPerms_last {n k : Nat} (h : k < (allPerms n).length) (hd : Desc (row (allPerms n) k)) : k + 1 = (allPerms n).length := by
  rcases Nat.lt_or_ge (k + 1) (allPerms n).length with h1 | h1
  · obtain ⟨hp, hl⟩ := allPerms_row h
    obtain ⟨hp1, hl1⟩ := allPerms_row h1
    exact (desc_max hd (perm_of_permuted hp hp1 (by omega)) (allPerms_lt (Nat.lt_succ_self k) h1)).elim
  · omega
theorem permuted_iota (n : Nat) : Permuted (iota n) := ⟨iota_nodup n, fun x hx => by simpa using (mem_iota n x).1 hx⟩
theorem allPerms_first (n : Nat) : 0 < (allPerms n).length ∧ row (allPerms n) (0 : Nat) = iota n := by
  obtain ⟨j, hj, e⟩ := allPerms_at (permuted_iota n) (iota_length n)
  have h0 : 0 < (allPerms n).length := by omega
  refine ⟨h0, ?_⟩
  by_cases hz : j = 0
  · subst hz; exact e
  · obtain ⟨hp, hl⟩ := allPerms_row h0
    have hlt := allPerms_lt (n := n) (i := 0) (j := j) (by omega) hj
    rw [e] at hlt
    exact (asc_min (iota_asc n) (perm_of_permuted (permuted_iota n) hp (by rw [hl]; simp)) hlt).elim
end Go.Proofs.Ytgmhnjccgldddaa
