/-
  Whether a pair map is nondegenerate: the program's and the reference's functions. Condition: a pair map.
-/
import Derived.Test.YtgmhnjccgldddaaT1
import Derived.Test.YtgmhnjccgldddaaLTables
namespace Go.Proofs.Ytgmhnjccgldddaa
set_option linter.unusedVariables false
set_option linter.unusedSimpArgs false
open Go.RowKit

def nondegL (A B : List (List Int)) : Bool := permRows A && permRows (transL B)


end Go.Proofs.Ytgmhnjccgldddaa
