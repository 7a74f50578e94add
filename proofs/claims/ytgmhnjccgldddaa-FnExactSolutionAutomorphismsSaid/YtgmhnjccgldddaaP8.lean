/-
  Sorting small numbers by counting; the list of the orbits' sizes. No program here.
-/
import Derived.Test.YtgmhnjccgldddaaP6
namespace Go.Proofs.Ytgmhnjccgldddaa
set_option linter.unusedVariables false
set_option linter.unusedSimpArgs false

theorem sorted_eq : ∀ {l m : List Int}, l.Perm m → l.Pairwise (· ≤ ·) → m.Pairwise (· ≤ ·) → l = m
  | [], m, h, _, _ => (h.nil_eq)
  | a :: l, [], h, _, _ => by have := h.length_eq; simp at this
  | a :: l, b :: m, h, hl, hm => by
    rw [List.pairwise_cons] at hl hm
    have h1 : a ∈ b :: m := h.subset (by simp)
    have h2 : b ∈ a :: l := h.symm.subset (by simp)
    have e : a = b := by
      rcases List.mem_cons.1 h1 with h1 | h1
      · exact h1
      · rcases List.mem_cons.1 h2 with h2 | h2
        · exact h2.symm
        · have := hm.1 a h1; have := hl.1 b h2; omega
    subst e
    rw [sorted_eq h.cons_inv hl.2 hm.2]

/-- The numbers 0 to n - 1 of M in ascending order. -/
def csort (n : Nat) (M : List Int) : List Int := (List.range n).flatMap fun (s : Nat) => List.replicate (M.count (s : Int)) (s : Int)
/-- The numbers 1 to n of M in ascending order. -/
def cycS (n : Nat) (M : List Int) : List Int := (List.range n).flatMap fun (s : Nat) => List.replicate (M.count ((s : Int) + 1)) ((s : Int) + 1)
theorem csort_succ (n : Nat) (M : List Int) : csort (n + 1) M = csort n M ++ List.replicate (M.count (n : Int)) (n : Int) := by
  simp [csort, List.range_succ]
theorem cycS_succ (n : Nat) (M : List Int) : cycS (n + 1) M = cycS n M ++ List.replicate (M.count ((n : Int) + 1)) ((n : Int) + 1) := by
  simp [cycS, List.range_succ]
theorem csort_cyc (M : List Int) : ∀ n, csort (n + 1) M = List.replicate (M.count 0) 0 ++ cycS n M
  | 0 => by simp [csort, cycS]
  | n + 1 => by rw [csort_succ, csort_cyc M n, cycS_succ]; simp
theorem count_csort (M : List Int) (x : Int) : ∀ n : Nat, (csort n M).count x = if 0 ≤ x ∧ x < n then M.count x else 0
  | 0 => by
    rw [if_neg (by omega)]; simp [csort]
  | n + 1 => by
    rw [csort_succ, List.count_append, count_csort M x n, List.count_replicate]
    by_cases e : x = n
    · subst e; simp; omega
    · have e' : ¬ ((n : Int) == x) = true := by simp; omega
      rw [if_neg e']
      by_cases h : 0 ≤ x ∧ x < n
      · rw [if_pos h, if_pos (by omega)]; rfl
      · rw [if_neg h, if_neg (by omega)]
theorem mem_csort {M : List Int} {x : Int} : ∀ {n : Nat}, x ∈ csort n M → 0 ≤ x ∧ x < n := by
  intro n h
  have := List.count_pos_iff.2 h
  rw [count_csort] at this
  by_cases e : 0 ≤ x ∧ x < n
  · exact e
  · rw [if_neg e] at this; omega
theorem csort_sorted (M : List Int) : ∀ n : Nat, (csort n M).Pairwise (· ≤ ·)
  | 0 => by simp [csort]
  | n + 1 => by
    rw [csort_succ, List.pairwise_append]
    refine ⟨csort_sorted M n, ?_, ?_⟩
    · rw [List.pairwise_replicate]; exact .inr (by omega)
    · intro a ha b hb
      have h1 := mem_csort ha
      have h2 := List.eq_of_mem_replicate hb
      omega
theorem csort_perm {M : List Int} {n : Nat} (h : ∀ x ∈ M, 0 ≤ x ∧ x < n) : (csort n M).Perm M := by
  rw [List.perm_iff_count]
  intro x
  rw [count_csort]
  by_cases e : 0 ≤ x ∧ x < n
  · rw [if_pos e]
  · rw [if_neg e]
    exact (List.count_eq_zero.2 fun hm => e (h x hm)).symm
/-- What sorting makes of M. -/
theorem sort_is {M S : List Int} {n : Nat} (h : ∀ x ∈ M, 0 ≤ x ∧ x < n) (hp : S.Perm M) (hs : S.Pairwise (· ≤ ·)) : S = csort n M :=
  sorted_eq (hp.trans (csort_perm h).symm) hs (csort_sorted M n)
theorem cycS_pos {M : List Int} {n : Nat} {x : Int} (h : x ∈ cycS n M) : 0 < x := by
  simp only [cycS, List.mem_flatMap] at h
  obtain ⟨s, _, hs⟩ := h
  have := List.eq_of_mem_replicate hs
  omega
theorem cycS_sum (M : List Int) : ∀ n : Nat, (cycS n M).sum = ((List.range n).map fun (s : Nat) => (M.count ((s : Int) + 1) : Int) * ((s : Int) + 1)).sum
  | 0 => rfl
  | n + 1 => by
    rw [cycS_succ, List.sum_append, cycS_sum M n, List.range_succ, List.map_append, List.sum_append]
    simp
theorem cycS_length (M : List Int) (n : Nat) : (cycS n M).length ≤ M.length := by
  have h : (csort (n + 1) M).length ≤ M.length := by
    have : ∀ k : Nat, (csort k M).length ≤ (M.filter fun (x : Int) => decide (0 ≤ x ∧ x < (k : Int))).length := by
      intro k
      induction k with
      | zero => simp [csort]
      | succ k ih =>
        rw [csort_succ, List.length_append, List.length_replicate]
        have e : (M.filter fun (x : Int) => decide (0 ≤ x ∧ x < ((k + 1 : Nat) : Int))).length = (M.filter fun (x : Int) => decide (0 ≤ x ∧ x < (k : Int))).length + M.count (k : Int) := by
          clear ih
          induction M with
          | nil => rfl
          | cons a M ih =>
            simp only [List.filter_cons, List.count_cons]
            by_cases h1 : 0 ≤ a ∧ a < (k : Int)
            · have h2 : 0 ≤ a ∧ a < ((k + 1 : Nat) : Int) := by omega
              have h3 : ¬ (a == (k : Int)) = true := by simp; omega
              rw [if_pos (by simpa using h2), if_pos (by simpa using h1), if_neg h3, List.length_cons, List.length_cons, ih]; omega
            · by_cases h4 : a = k
              · have h2 : 0 ≤ a ∧ a < ((k + 1 : Nat) : Int) := by omega
                have h3 : (a == (k : Int)) = true := by simp [h4]
                rw [if_pos (by simpa using h2), if_neg (by simpa using h1), if_pos h3, List.length_cons, ih]; omega
              · have h2 : ¬ (0 ≤ a ∧ a < ((k + 1 : Nat) : Int)) := by omega
                have h3 : ¬ (a == (k : Int)) = true := by simpa using h4
                rw [if_neg (by simpa using h2), if_neg (by simpa using h1), if_neg h3, ih]; rfl
        rw [e]; omega
    exact Nat.le_trans (this (n + 1)) (List.length_filter_le _ _)
  rw [csort_cyc, List.length_append] at h
  omega
end Go.Proofs.Ytgmhnjccgldddaa
