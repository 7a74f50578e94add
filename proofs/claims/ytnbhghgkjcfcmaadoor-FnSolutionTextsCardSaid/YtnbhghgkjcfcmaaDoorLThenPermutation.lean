/-
  The law FnExactThenPermutation answers true, and leaves what was there as it was: at every two lists of integers.
-/
import Derived.Test.YtnbhghgkjcfcmaaDoorLawB
import Derived.Test.YtnbhghgkjcfcmaaDoorI1c
namespace Go.Proofs.YtnbhghgkjcfcmaaDoor
set_option linter.unusedVariables false
set_option linter.unusedSimpArgs false
open Go.RowKit

def okThen (p q : List Int) : Bool := isPerm p && isPerm q && decide (p.length = q.length)
def thenRes (p q : List Int) : List Int := if okThen p q then thenL p q else []
def thenCode (p q : List Int) : Int := if okThen p q then 0 else 1
theorem thenRes_length (p q : List Int) : (thenRes p q).length ≤ p.length := by unfold thenRes; split <;> simp
theorem perm_in {xs : List Int} (h : isPerm xs = true) : (∀ x ∈ xs, 0 ≤ x ∧ x < xs.length) ∧ xs.length ≤ 1048576 := by
  simp [isPerm, inR] at h; exact ⟨h.2.2, by omega⟩



end Go.Proofs.YtnbhghgkjcfcmaaDoor
