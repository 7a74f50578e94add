/-
  Whether a pair map is nondegenerate: the program's and the reference's functions. Condition: a pair map.
-/
import Derived.Test.YtnbhghgkjcfcmaaDoorT1
import Derived.Test.YtnbhghgkjcfcmaaDoorLTables
namespace Go.Proofs.YtnbhghgkjcfcmaaDoor
set_option linter.unusedVariables false
set_option linter.unusedSimpArgs false
open Go.RowKit

def nondegL (A B : List (List Int)) : Bool := permRows A && permRows (transL B)


end Go.Proofs.YtnbhghgkjcfcmaaDoor
