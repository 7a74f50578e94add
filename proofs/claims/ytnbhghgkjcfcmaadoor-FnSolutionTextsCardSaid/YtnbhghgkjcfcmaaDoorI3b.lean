/-
  The renamed table: the program's and the reference's functions. Condition: a table and a permutation of its elements.
-/
import Derived.Test.YtnbhghgkjcfcmaaDoorI3
namespace Go.Proofs.YtnbhghgkjcfcmaaDoor
set_option linter.unusedVariables false
set_option linter.unusedSimpArgs false
open Go.RowKit

/-- The renamed table: at x and y what p makes of the value at the places that p leads there. -/
def renL (t : List (List Int)) (p : List Int) : List (List Int) := tabOf t.length fun x y => nth p (val2 t (nth (invL p) x) (nth (invL p) y))
@[simp] theorem renL_length (t : List (List Int)) (p : List Int) : (renL t p).length = t.length := by simp [renL]
/-- What renaming asks. -/
def RenOk (t : List (List Int)) (p : List Int) : Prop := isTab t = true ∧ Permuted p ∧ p.length = t.length

theorem val2_lt {t : List (List Int)} (h : isTab t = true) {x y : Int} (hx0 : 0 ≤ x) (hx : x < t.length) (hy0 : 0 ≤ y) (hy : y < t.length) : 0 ≤ val2 t x y ∧ val2 t x y < t.length :=
  isTab_val h (row_mem hx0 hx) (nth_mem hy0 (by rw [isTab_row h hx0 hx]; exact hy))

end Go.Proofs.YtnbhghgkjcfcmaaDoor
