/-
  Plain words on texts: the digit of an element, the text of a list. No program here.
-/
import Derived.Laws.BytesArg
import Derived.Laws.Concat
import Derived.Test.YtdhbleiioagmlaaP1
namespace Go.Proofs.Ytdhbleiioagmlaa

/-- The digit of an element, as a number. -/
def digit (x : Int) : Int := if x < 10 then 48 + x else 87 + x
/-- The text of a list. -/
def textOf (p : List Int) : ByteArray := strOfNums (p.map digit)
theorem strOfNums_append (a b : List Int) : strOfNums (a ++ b) = strOfNums a ++ strOfNums b := by
  unfold strOfNums
  rw [List.map_append, ByteArray.mk_append_mk]
end Go.Proofs.Ytdhbleiioagmlaa
