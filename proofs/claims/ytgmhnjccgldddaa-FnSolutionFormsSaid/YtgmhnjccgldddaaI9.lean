/-
  The first list at which a pair map does not satisfy the equation: the program's function. Condition: a pair map.
-/
import Derived.Test.YtgmhnjccgldddaaI7
namespace Go.Proofs.Ytgmhnjccgldddaa
set_option linter.unusedVariables false
set_option linter.unusedSimpArgs false
open Go.RowKit

/-- The six values of both sides of the equation. -/
def yL (A B : List (List Int)) (x y z : Int) : List Int := [val2 A (val2 A x y) (val2 A (val2 B x y) z), val2 B (val2 A x y) (val2 A (val2 B x y) z), val2 B (val2 B x y) z]
def yR (A B : List (List Int)) (x y z : Int) : List Int := [val2 A x (val2 A y z), val2 A (val2 B x (val2 A y z)) (val2 B y z), val2 B (val2 B x (val2 A y z)) (val2 B y z)]
def yP (A B : List (List Int)) (x y z : Nat) : Bool := decide (yL A B x y z ≠ yR A B x y z)
def yF (A B : List (List Int)) : List Int := trip (find3 A.length (yP A B))

end Go.Proofs.Ytgmhnjccgldddaa
