/-
  Systems of permutations: the program's and the reference's functions.
-/
import Derived.Test.YtgmhnjccgldddaaP6
import Derived.Test.YtgmhnjccgldddaaT1
import Derived.Test.YtgmhnjccgldddaaI1d
import Derived.Test.YtgmhnjccgldddaaI2
import Derived.Test.YtgmhnjccgldddaaS1
namespace Go.Proofs.Ytgmhnjccgldddaa
set_option linter.unusedVariables false
set_option linter.unusedSimpArgs false
open Go.RowKit

def sysR (n : Int) (p : List Int) : Bool := decide ((p.length : Int) = n) && isPerm p
def sysL (n : Int) (L : List (List Int)) : Bool := inR n 1 12 && (decide (L.length ≤ 16) && L.all (sysR n))
theorem sysL_n {n : Int} {L : List (List Int)} (h : sysL n L = true) : 1 ≤ n ∧ n ≤ 12 ∧ L.length ≤ 16 := by
  simp only [sysL, Bool.and_eq_true, inR, decide_eq_true_eq] at h; omega
theorem sysL_ok {n : Int} {L : List (List Int)} (h : sysL n L = true) : SysOk n.toNat L := by
  simp only [sysL, Bool.and_eq_true, List.all_eq_true, sysR, isPerm, decide_eq_true_eq] at h
  intro p hp
  have h2 := h.2.2 p hp
  exact ⟨h2.2.2, by omega⟩
theorem all_not_any (f : List Int → Bool) (L : List (List Int)) : L.all f = !(L.any fun r => !f r) := by
  induction L with
  | nil => rfl
  | cons a L ih => rw [List.all_cons, List.any_cons, ih]; cases f a <;> rfl


end Go.Proofs.Ytgmhnjccgldddaa
