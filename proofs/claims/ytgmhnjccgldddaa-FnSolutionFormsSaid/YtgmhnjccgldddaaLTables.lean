/-
  What the exported functions on tables return (rows, latin, transposed, renamed): the program's and the reference's.
-/
import Derived.Test.YtgmhnjccgldddaaI3c
import Derived.Test.YtgmhnjccgldddaaI3d
import Derived.Test.YtgmhnjccgldddaaI1d
namespace Go.Proofs.Ytgmhnjccgldddaa
set_option linter.unusedVariables false
set_option linter.unusedSimpArgs false
open Go.RowKit

theorem c_l01TableV (v : Value) (t : List (List Int)) (w : World) (hx : Rows w v t) : Calls Try.prog 49 #[v] w (RVal w (.bool (isTab t))) :=
  (c_l01Table v t w hx).mono fun _ _ ⟨h1, h2⟩ => ⟨h1, h2 ▸ Below.refl _ _⟩


def hprRes (t : List (List Int)) : Bool := if isTab t then permRows t else false
def tabCode (t : List (List Int)) : Int := if isTab t then 0 else 1

def transRes (t : List (List Int)) : List (List Int) := if isTab t then transL t else []

theorem isTab_tabOf {n : Nat} {g : Int → Int → Int} (h1 : 1 ≤ n) (h2 : n ≤ 12) (h : ∀ x y : Nat, x < n → y < n → 0 ≤ g x y ∧ g x y < n) : isTab (tabOf n g) = true := by
  simp only [isTab, Bool.and_eq_true, Bool.not_eq_true', List.any_eq_false, tabOf_length]
  refine ⟨by simp [inR]; omega, fun r hr => ?_⟩
  obtain ⟨k, hk, rfl⟩ := List.getElem_of_mem hr
  have hk' : k < n := by simpa using hk
  rw [← row_nat _ _ hk, row_tabOf _ _ _ hk']
  simp only [rowBad, rowOf_length, ne_eq, not_true_eq_false, decide_false, Bool.false_or, Bool.not_eq_true, Bool.not_eq_false', List.all_eq_true]
  intro x hx
  obtain ⟨y, hy, rfl⟩ := List.getElem_of_mem hx
  have hy' : y < n := by simpa using hy
  have := h k y hk' hy'
  rw [← nth_nat _ _ hy, nth_rowOf _ _ _ hy']
  simp [inR]; omega
theorem isTab_transL {t : List (List Int)} (h : isTab t = true) : isTab (transL t) = true := by
  obtain ⟨h1, h2⟩ := isTab_len h
  exact isTab_tabOf h1 h2 fun x y hx hy => val2_lt h (by omega) (by omega) (by omega) (by omega)
theorem isTab_renL {t : List (List Int)} {p : List Int} (h : RenOk t p) : isTab (renL t p) = true := by
  obtain ⟨h1, h2⟩ := isTab_len h.1
  have hl := h.2.2
  refine isTab_tabOf h1 h2 fun x y hx hy => ?_
  have hu := invL_lt h.2.1 (y := x) (by omega) (by omega)
  have hv := invL_lt h.2.1 (y := y) (by omega) (by omega)
  have hw := val2_lt h.1 hu.1 (by omega) hv.1 (by omega)
  have := h.2.1.lt hw.1 (by omega)
  omega
def latRes (t : List (List Int)) : Bool := if isTab t then permRows t && permRows (transL t) else false



def renOkB (t : List (List Int)) (p : List Int) : Bool := isTab t && isPerm p && decide (p.length = t.length)
theorem renOkB_ok {t : List (List Int)} {p : List Int} (h : renOkB t p = true) : RenOk t p := by
  simp [renOkB, isPerm] at h
  exact ⟨h.1.1, h.1.2.2, h.2⟩
def renRes (t : List (List Int)) (p : List Int) : List (List Int) := if renOkB t p then renL t p else []
def renCode (t : List (List Int)) (p : List Int) : Int := if renOkB t p then 0 else 1



theorem total_map_const {α : Type} (l : List α) (f : α → List Int) (n : Nat) (h : ∀ x ∈ l, (f x).length = n) : total (l.map f) = l.length * n := by
  induction l with
  | nil => simp [total]
  | cons a l ih =>
    have h1 := h a (by simp)
    have h2 := ih fun x hx => h x (by simp [hx])
    simp [total, h1, h2, Nat.add_mul]; omega
theorem total_tabOf (n : Nat) (g : Int → Int → Int) : total (tabOf n g) = n * n := by
  unfold tabOf
  rw [total_map_const _ _ n (by simp)]
  simp
theorem total_tab_le {n : Nat} (g : Int → Int → Int) (h : n ≤ 12) : total (tabOf n g) ≤ 1152921504606846976 := by
  rw [total_tabOf]
  have := Nat.mul_le_mul h h
  omega
theorem total_transRes (t : List (List Int)) : total (transRes t) ≤ 1152921504606846976 := by
  unfold transRes
  split
  · rename_i h; exact total_tab_le _ (isTab_len h).2
  · simp [total]
theorem total_renRes (t : List (List Int)) (p : List Int) : total (renRes t p) ≤ 1152921504606846976 := by
  unfold renRes
  split
  · rename_i h; exact total_tab_le _ (isTab_len (renOkB_ok h).1).2
  · simp [total]
end Go.Proofs.Ytgmhnjccgldddaa
