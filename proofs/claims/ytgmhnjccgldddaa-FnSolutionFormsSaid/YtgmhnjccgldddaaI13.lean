/-
  Whether a pair map is a solution: the program's and the reference's functions.
-/
import Derived.Test.YtgmhnjccgldddaaI12
namespace Go.Proofs.Ytgmhnjccgldddaa
set_option linter.unusedVariables false
set_option linter.unusedSimpArgs false
open Go.RowKit

def isSol (A B : List (List Int)) : Bool := isPM A B && decide (collL A B = []) && decide (yF A B = [])
theorem isSol_pm {A B : List (List Int)} (h : isSol A B = true) : isPM A B = true := by simp [isSol] at h; exact h.1.1
theorem isSol_coll {A B : List (List Int)} (h : isSol A B = true) : collL A B = [] := by simp [isSol] at h; exact h.1.2
theorem isSol_yF {A B : List (List Int)} (h : isSol A B = true) : yF A B = [] := by simp [isSol] at h; exact h.2
theorem eql_nil' (W : World) (a : Option Addr) (n c : Nat) : (binOp .eql 26 (.slice a n c) (.slice none 0 0)).run Try.prog W = .ok (.bool a.isNone) W := Lib.run_eql_slice_nil W _ _ a n c 0 0 Try.underlying26


end Go.Proofs.Ytgmhnjccgldddaa
