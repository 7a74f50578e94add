/-
  No cell of these rows narrows 'for every input' (looked for: loops, veiled, ifaces, maps, wideKeys, modest, calm, conditions, laid).
  DERIVED. THE GIVEN ROWS OF THIS SEAT. 4 by the template 'for every input the law returns true; each argument reads behind the call as it read before'; 0 by the template 'total and deterministic' (their statements: YtkghonhghbcdlaaTotals.lean).
  GIVEN WITH THE SEED: the statements are not yours to turn. If you find one false, say at which input.
  Laid BY PROGRAM, IN A SANDBOX (cutbox-rows.mjs): the forced cells as the released guide's own fill.sh prints them over the translation 8f2f751ebdb8f029… (all of the seat's roots in one cut). By AI agents, Wed Nov 11 2026. No macro, syntax, notation, axiom, sorry.
-/
import Derived.Test.YtkghonhghbcdlaaChecked
import GoSem.Claim
import GoSem.ClaimJoined
import GoSem.ClaimMapViews
import Derived.JoinedTies
import Derived.KernelRfl
namespace Go.Proofs.Ytkghonhghbcdlaa
/- THE CELL 'sum', in the pinned program and in every row, IS THE sha256 OF THE DUMP (.gsa) THAT YtkghonhghbcdlaaProg.lean LOADS. Nothing in Lean hashes anything: it is a label: what it is worth is what the hold of that sum in a sandbox is worth. -/
noncomputable def Try.pinned : Pinned := { name := "ytkghonhghbcdlaa", sum := "8f2f751ebdb8f0292d4d91992dac76a50f0557002641c346b673cc7dbdae9e8d", checked := Try.checked }
namespace Rows
def none {H : Type} : Left H := { results := [], args := [] }

/-- 'laws.FnClosedSets': WHATEVER THE INPUT: true; the input reads as it did. -/
def fnClosedSetsSpec : ChangeSpec := { name := "fnClosedSets", fn := fun _ => fun
  | [d] => { results := [.lit (.bool true)], args := [d] }
  | _ => none }
def fnClosedSetsRow : OpenClaim := { program := "ytkghonhghbcdlaa", sum := "8f2f751ebdb8f0292d4d91992dac76a50f0557002641c346b673cc7dbdae9e8d", func := "loop.example/g01119/laws.FnClosedSets", spec := "fnClosedSets", unfollowed := true, recurses := true, apart := false }
def FnClosedSetsSaid : Prop := fnClosedSetsRow.holds Try.pinned (OpenSpec.ofChange fnClosedSetsSpec)

/-- ITS FALSE NEIGHBOUR: 'it returns false'. Refute it at one input. -/
def fnClosedSetsWrong : ChangeSpec := { name := "fnClosedSets", fn := fun _ => fun
  | [d] => { results := [.lit (.bool false)], args := [d] }
  | _ => none }
def FnClosedSetsWrongFalsely : Prop := fnClosedSetsRow.holds Try.pinned (OpenSpec.ofChange fnClosedSetsWrong)

/-- 'laws.FnProductsOfSolutions': WHATEVER THE INPUT: true; the input reads as it did. -/
def fnProductsOfSolutionsSpec : ChangeSpec := { name := "fnProductsOfSolutions", fn := fun _ => fun
  | [d] => { results := [.lit (.bool true)], args := [d] }
  | _ => none }
def fnProductsOfSolutionsRow : OpenClaim := { program := "ytkghonhghbcdlaa", sum := "8f2f751ebdb8f0292d4d91992dac76a50f0557002641c346b673cc7dbdae9e8d", func := "loop.example/g01119/laws.FnProductsOfSolutions", spec := "fnProductsOfSolutions", unfollowed := true, recurses := true, apart := false }
def FnProductsOfSolutionsSaid : Prop := fnProductsOfSolutionsRow.holds Try.pinned (OpenSpec.ofChange fnProductsOfSolutionsSpec)

/-- ITS FALSE NEIGHBOUR: 'it returns false'. Refute it at one input. -/
def fnProductsOfSolutionsWrong : ChangeSpec := { name := "fnProductsOfSolutions", fn := fun _ => fun
  | [d] => { results := [.lit (.bool false)], args := [d] }
  | _ => none }
def FnProductsOfSolutionsWrongFalsely : Prop := fnProductsOfSolutionsRow.holds Try.pinned (OpenSpec.ofChange fnProductsOfSolutionsWrong)

/-- 'laws.FnExactGroupElements': WHATEVER THE INPUT: true; the input reads as it did. -/
def fnExactGroupElementsSpec : ChangeSpec := { name := "fnExactGroupElements", fn := fun _ => fun
  | [d1, d2] => { results := [.lit (.bool true)], args := [d1, d2] }
  | _ => none }
def fnExactGroupElementsRow : OpenClaim := { program := "ytkghonhghbcdlaa", sum := "8f2f751ebdb8f0292d4d91992dac76a50f0557002641c346b673cc7dbdae9e8d", func := "loop.example/g01119/laws.FnExactGroupElements", spec := "fnExactGroupElements", unfollowed := true, recurses := true, apart := false }
def FnExactGroupElementsSaid : Prop := fnExactGroupElementsRow.holds Try.pinned (OpenSpec.ofChange fnExactGroupElementsSpec)

/-- ITS FALSE NEIGHBOUR: 'it returns false'. Refute it at one input. -/
def fnExactGroupElementsWrong : ChangeSpec := { name := "fnExactGroupElements", fn := fun _ => fun
  | [d1, d2] => { results := [.lit (.bool false)], args := [d1, d2] }
  | _ => none }
def FnExactGroupElementsWrongFalsely : Prop := fnExactGroupElementsRow.holds Try.pinned (OpenSpec.ofChange fnExactGroupElementsWrong)

/-- 'laws.FnSystems': WHATEVER THE INPUT: true; the input reads as it did. -/
def fnSystemsSpec : ChangeSpec := { name := "fnSystems", fn := fun _ => fun
  | [d] => { results := [.lit (.bool true)], args := [d] }
  | _ => none }
def fnSystemsRow : OpenClaim := { program := "ytkghonhghbcdlaa", sum := "8f2f751ebdb8f0292d4d91992dac76a50f0557002641c346b673cc7dbdae9e8d", func := "loop.example/g01119/laws.FnSystems", spec := "fnSystems", unfollowed := true, recurses := true, apart := false }
def FnSystemsSaid : Prop := fnSystemsRow.holds Try.pinned (OpenSpec.ofChange fnSystemsSpec)

/-- ITS FALSE NEIGHBOUR: 'it returns false'. Refute it at one input. -/
def fnSystemsWrong : ChangeSpec := { name := "fnSystems", fn := fun _ => fun
  | [d] => { results := [.lit (.bool false)], args := [d] }
  | _ => none }
def FnSystemsWrongFalsely : Prop := fnSystemsRow.holds Try.pinned (OpenSpec.ofChange fnSystemsWrong)

/- THE SECOND FORM. 'bulk': how many values and letters a reading holds, each counted each time it is reached (what is shared counts as often as it is met; a slice's spare places count too). A statement '..UptoSaid' is the law's where the arguments, and the package variables that the reading takes, are together of bulk at most 1048576: NARROWER than '..Said'. Prove '..Said' where nothing that the law and all that it calls make is longer than what came in: it says more and counts as full. Else prove '..UptoSaid'. A law counts once. -/
mutual
def uptoBulk {H : Type} : DataW H → Nat
  | .lit (.string bytes) => bytes.length + 1
  | .lit _ => 1
  | .nil => 1
  | .ptr d => uptoBulk d + 1
  | .slice elems spare => uptoBulkAll elems + uptoBulkAll spare + 1
  | .agg parts => uptoBulkAll parts + 1
  | .iface _ d => uptoBulk d + 1
  | .map entries => uptoBulkEntries entries + 1
  | .held _ => 1
def uptoBulkAll {H : Type} : List (DataW H) → Nat
  | [] => 0
  | d :: r => uptoBulk d + uptoBulkAll r
def uptoBulkEntries {H : Type} : List (Lit × DataW H) → Nat
  | [] => 0
  | x :: r => uptoBulkEntry x + uptoBulkEntries r
def uptoBulkEntry {H : Type} : Lit × DataW H → Nat
  | (.string bytes, d) => bytes.length + uptoBulk d + 1
  | (_, d) => uptoBulk d + 1
 end
def uptoSmall : (H : Type) → List (DataW H) → Bool := fun _ ds => decide (uptoBulkAll ds ≤ 1048576)
def OpenSpec.upto (s : _root_.Go.ChangeSpec) : _root_.Go.OpenSpec := { _root_.Go.OpenSpec.ofChange s with cond := some uptoSmall }

/-- 'laws.FnClosedSets', WHERE WHAT IT READS IS OF BULK AT MOST 1048576: true; the input reads as it did. -/
def fnClosedSetsUptoRow : OpenClaim := { program := "ytkghonhghbcdlaa", sum := "8f2f751ebdb8f0292d4d91992dac76a50f0557002641c346b673cc7dbdae9e8d", func := "loop.example/g01119/laws.FnClosedSets", spec := "fnClosedSets", unfollowed := true, recurses := true, apart := false, narrowed := true }
def FnClosedSetsUptoSaid : Prop := fnClosedSetsUptoRow.holds Try.pinned (OpenSpec.upto fnClosedSetsSpec)

/-- 'laws.FnProductsOfSolutions', WHERE WHAT IT READS IS OF BULK AT MOST 1048576: true; the input reads as it did. -/
def fnProductsOfSolutionsUptoRow : OpenClaim := { program := "ytkghonhghbcdlaa", sum := "8f2f751ebdb8f0292d4d91992dac76a50f0557002641c346b673cc7dbdae9e8d", func := "loop.example/g01119/laws.FnProductsOfSolutions", spec := "fnProductsOfSolutions", unfollowed := true, recurses := true, apart := false, narrowed := true }
def FnProductsOfSolutionsUptoSaid : Prop := fnProductsOfSolutionsUptoRow.holds Try.pinned (OpenSpec.upto fnProductsOfSolutionsSpec)

/-- 'laws.FnExactGroupElements', WHERE WHAT IT READS IS OF BULK AT MOST 1048576: true; the input reads as it did. -/
def fnExactGroupElementsUptoRow : OpenClaim := { program := "ytkghonhghbcdlaa", sum := "8f2f751ebdb8f0292d4d91992dac76a50f0557002641c346b673cc7dbdae9e8d", func := "loop.example/g01119/laws.FnExactGroupElements", spec := "fnExactGroupElements", unfollowed := true, recurses := true, apart := false, narrowed := true }
def FnExactGroupElementsUptoSaid : Prop := fnExactGroupElementsUptoRow.holds Try.pinned (OpenSpec.upto fnExactGroupElementsSpec)

/-- 'laws.FnSystems', WHERE WHAT IT READS IS OF BULK AT MOST 1048576: true; the input reads as it did. -/
def fnSystemsUptoRow : OpenClaim := { program := "ytkghonhghbcdlaa", sum := "8f2f751ebdb8f0292d4d91992dac76a50f0557002641c346b673cc7dbdae9e8d", func := "loop.example/g01119/laws.FnSystems", spec := "fnSystems", unfollowed := true, recurses := true, apart := false, narrowed := true }
def FnSystemsUptoSaid : Prop := fnSystemsUptoRow.holds Try.pinned (OpenSpec.upto fnSystemsSpec)

end Rows
end Go.Proofs.Ytkghonhghbcdlaa
