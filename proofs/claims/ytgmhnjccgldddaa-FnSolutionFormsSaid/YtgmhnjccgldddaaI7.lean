/-
  The first fault of a table of a rack: the program's and the reference's functions. Condition: a table.
-/
import Derived.Test.YtgmhnjccgldddaaI6
namespace Go.Proofs.Ytgmhnjccgldddaa
set_option linter.unusedVariables false
set_option linter.unusedSimpArgs false
open Go.RowKit

def rkP (T : List (List Int)) (x y z : Nat) : Bool := decide (val2 T x (val2 T y z) ≠ val2 T (val2 T x y) (val2 T x z))
def trip : Option (Nat × Nat × Nat) → List Int
  | none => []
  | some (a, b, c) => [(a : Int), (b : Int), (c : Int)]
def rkL (T : List (List Int)) : List Int := trip (find3 T.length (rkP T))
theorem trip_length (x : Option (Nat × Nat × Nat)) : (trip x).length ≤ 3 := by
  unfold trip; split <;> simp


end Go.Proofs.Ytgmhnjccgldddaa
