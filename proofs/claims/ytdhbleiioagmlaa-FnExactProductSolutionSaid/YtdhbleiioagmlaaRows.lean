/-
  No cell of these rows narrows 'for every input' (looked for: loops, veiled, ifaces, maps, wideKeys, modest, calm, conditions, laid).
  DERIVED. THE GIVEN ROWS OF THIS SEAT. 12 by the template 'for every input the law returns true; each argument reads behind the call as it read before'; 0 by the template 'total and deterministic' (their statements: YtdhbleiioagmlaaTotals.lean).
  GIVEN WITH THE SEED: the statements are not yours to turn. If you find one false, say at which input.
  Laid BY PROGRAM, IN A SANDBOX (cutbox-rows.mjs): the forced cells as the released guide's own fill.sh prints them over the translation f8fc64d6937b83e1… (all of the seat's roots in one cut). By AI agents, Wed Nov 11 2026. No macro, syntax, notation, axiom, sorry.
-/
import Derived.Test.YtdhbleiioagmlaaChecked
import GoSem.Claim
import GoSem.ClaimJoined
import GoSem.ClaimMapViews
import Derived.JoinedTies
import Derived.KernelRfl
namespace Go.Proofs.Ytdhbleiioagmlaa
/- THE CELL 'sum', in the pinned program and in every row, IS THE sha256 OF THE DUMP (.gsa) THAT YtdhbleiioagmlaaProg.lean LOADS. Nothing in Lean hashes anything: it is a label: what it is worth is what the hold of that sum in a sandbox is worth. -/
noncomputable def Try.pinned : Pinned := { name := "ytdhbleiioagmlaa", sum := "f8fc64d6937b83e1316e602d8e86767d07e03c8766267a919675bfd55681beb4", checked := Try.checked }
namespace Rows
def none {H : Type} : Left H := { results := [], args := [] }

/-- 'laws.FnExactIsNondegenerate': WHATEVER THE INPUT: true; the input reads as it did. -/
def fnExactIsNondegenerateSpec : ChangeSpec := { name := "fnExactIsNondegenerate", fn := fun _ => fun
  | [d] => { results := [.lit (.bool true)], args := [d] }
  | _ => none }
def fnExactIsNondegenerateRow : OpenClaim := { program := "ytdhbleiioagmlaa", sum := "f8fc64d6937b83e1316e602d8e86767d07e03c8766267a919675bfd55681beb4", func := "loop.example/g01119/laws.FnExactIsNondegenerate", spec := "fnExactIsNondegenerate", unfollowed := true, recurses := true, apart := false }
def FnExactIsNondegenerateSaid : Prop := fnExactIsNondegenerateRow.holds Try.pinned (OpenSpec.ofChange fnExactIsNondegenerateSpec)

/-- ITS FALSE NEIGHBOUR: 'it returns false'. Refute it at one input. -/
def fnExactIsNondegenerateWrong : ChangeSpec := { name := "fnExactIsNondegenerate", fn := fun _ => fun
  | [d] => { results := [.lit (.bool false)], args := [d] }
  | _ => none }
def FnExactIsNondegenerateWrongFalsely : Prop := fnExactIsNondegenerateRow.holds Try.pinned (OpenSpec.ofChange fnExactIsNondegenerateWrong)

/-- 'laws.FnExactTableText': WHATEVER THE INPUT: true; the input reads as it did. -/
def fnExactTableTextSpec : ChangeSpec := { name := "fnExactTableText", fn := fun _ => fun
  | [d] => { results := [.lit (.bool true)], args := [d] }
  | _ => none }
def fnExactTableTextRow : OpenClaim := { program := "ytdhbleiioagmlaa", sum := "f8fc64d6937b83e1316e602d8e86767d07e03c8766267a919675bfd55681beb4", func := "loop.example/g01119/laws.FnExactTableText", spec := "fnExactTableText", inPlace := ["internal/abi.NoEscape", "internal/bytealg.MakeNoZero"], unfollowed := true, recurses := true, apart := false }
def FnExactTableTextSaid : Prop := fnExactTableTextRow.holds Try.pinned (OpenSpec.ofChange fnExactTableTextSpec)

/-- ITS FALSE NEIGHBOUR: 'it returns false'. Refute it at one input. -/
def fnExactTableTextWrong : ChangeSpec := { name := "fnExactTableText", fn := fun _ => fun
  | [d] => { results := [.lit (.bool false)], args := [d] }
  | _ => none }
def FnExactTableTextWrongFalsely : Prop := fnExactTableTextRow.holds Try.pinned (OpenSpec.ofChange fnExactTableTextWrong)

/-- 'laws.FnExactMirrorSolution': WHATEVER THE INPUT: true; the input reads as it did. -/
def fnExactMirrorSolutionSpec : ChangeSpec := { name := "fnExactMirrorSolution", fn := fun _ => fun
  | [d] => { results := [.lit (.bool true)], args := [d] }
  | _ => none }
def fnExactMirrorSolutionRow : OpenClaim := { program := "ytdhbleiioagmlaa", sum := "f8fc64d6937b83e1316e602d8e86767d07e03c8766267a919675bfd55681beb4", func := "loop.example/g01119/laws.FnExactMirrorSolution", spec := "fnExactMirrorSolution", unfollowed := true, recurses := true, apart := false }
def FnExactMirrorSolutionSaid : Prop := fnExactMirrorSolutionRow.holds Try.pinned (OpenSpec.ofChange fnExactMirrorSolutionSpec)

/-- ITS FALSE NEIGHBOUR: 'it returns false'. Refute it at one input. -/
def fnExactMirrorSolutionWrong : ChangeSpec := { name := "fnExactMirrorSolution", fn := fun _ => fun
  | [d] => { results := [.lit (.bool false)], args := [d] }
  | _ => none }
def FnExactMirrorSolutionWrongFalsely : Prop := fnExactMirrorSolutionRow.holds Try.pinned (OpenSpec.ofChange fnExactMirrorSolutionWrong)

/-- 'laws.FnExactIsMedialRack': WHATEVER THE INPUT: true; the input reads as it did. -/
def fnExactIsMedialRackSpec : ChangeSpec := { name := "fnExactIsMedialRack", fn := fun _ => fun
  | [d] => { results := [.lit (.bool true)], args := [d] }
  | _ => none }
def fnExactIsMedialRackRow : OpenClaim := { program := "ytdhbleiioagmlaa", sum := "f8fc64d6937b83e1316e602d8e86767d07e03c8766267a919675bfd55681beb4", func := "loop.example/g01119/laws.FnExactIsMedialRack", spec := "fnExactIsMedialRack", unfollowed := true, recurses := true, apart := false }
def FnExactIsMedialRackSaid : Prop := fnExactIsMedialRackRow.holds Try.pinned (OpenSpec.ofChange fnExactIsMedialRackSpec)

/-- ITS FALSE NEIGHBOUR: 'it returns false'. Refute it at one input. -/
def fnExactIsMedialRackWrong : ChangeSpec := { name := "fnExactIsMedialRack", fn := fun _ => fun
  | [d] => { results := [.lit (.bool false)], args := [d] }
  | _ => none }
def FnExactIsMedialRackWrongFalsely : Prop := fnExactIsMedialRackRow.holds Try.pinned (OpenSpec.ofChange fnExactIsMedialRackWrong)

/-- 'laws.FnExactIsQuandle': WHATEVER THE INPUT: true; the input reads as it did. -/
def fnExactIsQuandleSpec : ChangeSpec := { name := "fnExactIsQuandle", fn := fun _ => fun
  | [d] => { results := [.lit (.bool true)], args := [d] }
  | _ => none }
def fnExactIsQuandleRow : OpenClaim := { program := "ytdhbleiioagmlaa", sum := "f8fc64d6937b83e1316e602d8e86767d07e03c8766267a919675bfd55681beb4", func := "loop.example/g01119/laws.FnExactIsQuandle", spec := "fnExactIsQuandle", unfollowed := true, recurses := true, apart := false }
def FnExactIsQuandleSaid : Prop := fnExactIsQuandleRow.holds Try.pinned (OpenSpec.ofChange fnExactIsQuandleSpec)

/-- ITS FALSE NEIGHBOUR: 'it returns false'. Refute it at one input. -/
def fnExactIsQuandleWrong : ChangeSpec := { name := "fnExactIsQuandle", fn := fun _ => fun
  | [d] => { results := [.lit (.bool false)], args := [d] }
  | _ => none }
def FnExactIsQuandleWrongFalsely : Prop := fnExactIsQuandleRow.holds Try.pinned (OpenSpec.ofChange fnExactIsQuandleWrong)

/-- 'laws.FnExactIsLatinRack': WHATEVER THE INPUT: true; the input reads as it did. -/
def fnExactIsLatinRackSpec : ChangeSpec := { name := "fnExactIsLatinRack", fn := fun _ => fun
  | [d] => { results := [.lit (.bool true)], args := [d] }
  | _ => none }
def fnExactIsLatinRackRow : OpenClaim := { program := "ytdhbleiioagmlaa", sum := "f8fc64d6937b83e1316e602d8e86767d07e03c8766267a919675bfd55681beb4", func := "loop.example/g01119/laws.FnExactIsLatinRack", spec := "fnExactIsLatinRack", unfollowed := true, recurses := true, apart := false }
def FnExactIsLatinRackSaid : Prop := fnExactIsLatinRackRow.holds Try.pinned (OpenSpec.ofChange fnExactIsLatinRackSpec)

/-- ITS FALSE NEIGHBOUR: 'it returns false'. Refute it at one input. -/
def fnExactIsLatinRackWrong : ChangeSpec := { name := "fnExactIsLatinRack", fn := fun _ => fun
  | [d] => { results := [.lit (.bool false)], args := [d] }
  | _ => none }
def FnExactIsLatinRackWrongFalsely : Prop := fnExactIsLatinRackRow.holds Try.pinned (OpenSpec.ofChange fnExactIsLatinRackWrong)

/-- 'laws.FnExactEquationFault': WHATEVER THE INPUT: true; the input reads as it did. -/
def fnExactEquationFaultSpec : ChangeSpec := { name := "fnExactEquationFault", fn := fun _ => fun
  | [d] => { results := [.lit (.bool true)], args := [d] }
  | _ => none }
def fnExactEquationFaultRow : OpenClaim := { program := "ytdhbleiioagmlaa", sum := "f8fc64d6937b83e1316e602d8e86767d07e03c8766267a919675bfd55681beb4", func := "loop.example/g01119/laws.FnExactEquationFault", spec := "fnExactEquationFault", unfollowed := true, recurses := true, apart := false }
def FnExactEquationFaultSaid : Prop := fnExactEquationFaultRow.holds Try.pinned (OpenSpec.ofChange fnExactEquationFaultSpec)

/-- ITS FALSE NEIGHBOUR: 'it returns false'. Refute it at one input. -/
def fnExactEquationFaultWrong : ChangeSpec := { name := "fnExactEquationFault", fn := fun _ => fun
  | [d] => { results := [.lit (.bool false)], args := [d] }
  | _ => none }
def FnExactEquationFaultWrongFalsely : Prop := fnExactEquationFaultRow.holds Try.pinned (OpenSpec.ofChange fnExactEquationFaultWrong)

/-- 'laws.FnExactProductSolution': WHATEVER THE INPUT: true; the input reads as it did. -/
def fnExactProductSolutionSpec : ChangeSpec := { name := "fnExactProductSolution", fn := fun _ => fun
  | [d1, d2] => { results := [.lit (.bool true)], args := [d1, d2] }
  | _ => none }
def fnExactProductSolutionRow : OpenClaim := { program := "ytdhbleiioagmlaa", sum := "f8fc64d6937b83e1316e602d8e86767d07e03c8766267a919675bfd55681beb4", func := "loop.example/g01119/laws.FnExactProductSolution", spec := "fnExactProductSolution", unfollowed := true, recurses := true, apart := false }
def FnExactProductSolutionSaid : Prop := fnExactProductSolutionRow.holds Try.pinned (OpenSpec.ofChange fnExactProductSolutionSpec)

/-- ITS FALSE NEIGHBOUR: 'it returns false'. Refute it at one input. -/
def fnExactProductSolutionWrong : ChangeSpec := { name := "fnExactProductSolution", fn := fun _ => fun
  | [d1, d2] => { results := [.lit (.bool false)], args := [d1, d2] }
  | _ => none }
def FnExactProductSolutionWrongFalsely : Prop := fnExactProductSolutionRow.holds Try.pinned (OpenSpec.ofChange fnExactProductSolutionWrong)

/-- 'laws.FnExactUnionSolution': WHATEVER THE INPUT: true; the input reads as it did. -/
def fnExactUnionSolutionSpec : ChangeSpec := { name := "fnExactUnionSolution", fn := fun _ => fun
  | [d1, d2] => { results := [.lit (.bool true)], args := [d1, d2] }
  | _ => none }
def fnExactUnionSolutionRow : OpenClaim := { program := "ytdhbleiioagmlaa", sum := "f8fc64d6937b83e1316e602d8e86767d07e03c8766267a919675bfd55681beb4", func := "loop.example/g01119/laws.FnExactUnionSolution", spec := "fnExactUnionSolution", unfollowed := true, recurses := true, apart := false }
def FnExactUnionSolutionSaid : Prop := fnExactUnionSolutionRow.holds Try.pinned (OpenSpec.ofChange fnExactUnionSolutionSpec)

/-- ITS FALSE NEIGHBOUR: 'it returns false'. Refute it at one input. -/
def fnExactUnionSolutionWrong : ChangeSpec := { name := "fnExactUnionSolution", fn := fun _ => fun
  | [d1, d2] => { results := [.lit (.bool false)], args := [d1, d2] }
  | _ => none }
def FnExactUnionSolutionWrongFalsely : Prop := fnExactUnionSolutionRow.holds Try.pinned (OpenSpec.ofChange fnExactUnionSolutionWrong)

/-- 'laws.FnExactSolutionText': WHATEVER THE INPUT: true; the input reads as it did. -/
def fnExactSolutionTextSpec : ChangeSpec := { name := "fnExactSolutionText", fn := fun _ => fun
  | [d] => { results := [.lit (.bool true)], args := [d] }
  | _ => none }
def fnExactSolutionTextRow : OpenClaim := { program := "ytdhbleiioagmlaa", sum := "f8fc64d6937b83e1316e602d8e86767d07e03c8766267a919675bfd55681beb4", func := "loop.example/g01119/laws.FnExactSolutionText", spec := "fnExactSolutionText", inPlace := ["internal/abi.NoEscape", "internal/bytealg.MakeNoZero"], unfollowed := true, recurses := true, apart := false }
def FnExactSolutionTextSaid : Prop := fnExactSolutionTextRow.holds Try.pinned (OpenSpec.ofChange fnExactSolutionTextSpec)

/-- ITS FALSE NEIGHBOUR: 'it returns false'. Refute it at one input. -/
def fnExactSolutionTextWrong : ChangeSpec := { name := "fnExactSolutionText", fn := fun _ => fun
  | [d] => { results := [.lit (.bool false)], args := [d] }
  | _ => none }
def FnExactSolutionTextWrongFalsely : Prop := fnExactSolutionTextRow.holds Try.pinned (OpenSpec.ofChange fnExactSolutionTextWrong)

/-- 'laws.FnExactRenameSolution': WHATEVER THE INPUT: true; the input reads as it did. -/
def fnExactRenameSolutionSpec : ChangeSpec := { name := "fnExactRenameSolution", fn := fun _ => fun
  | [d1, d2] => { results := [.lit (.bool true)], args := [d1, d2] }
  | _ => none }
def fnExactRenameSolutionRow : OpenClaim := { program := "ytdhbleiioagmlaa", sum := "f8fc64d6937b83e1316e602d8e86767d07e03c8766267a919675bfd55681beb4", func := "loop.example/g01119/laws.FnExactRenameSolution", spec := "fnExactRenameSolution", unfollowed := true, recurses := true, apart := false }
def FnExactRenameSolutionSaid : Prop := fnExactRenameSolutionRow.holds Try.pinned (OpenSpec.ofChange fnExactRenameSolutionSpec)

/-- ITS FALSE NEIGHBOUR: 'it returns false'. Refute it at one input. -/
def fnExactRenameSolutionWrong : ChangeSpec := { name := "fnExactRenameSolution", fn := fun _ => fun
  | [d1, d2] => { results := [.lit (.bool false)], args := [d1, d2] }
  | _ => none }
def FnExactRenameSolutionWrongFalsely : Prop := fnExactRenameSolutionRow.holds Try.pinned (OpenSpec.ofChange fnExactRenameSolutionWrong)

/-- 'laws.FnExactOrderOfSolution': WHATEVER THE INPUT: true; the input reads as it did. -/
def fnExactOrderOfSolutionSpec : ChangeSpec := { name := "fnExactOrderOfSolution", fn := fun _ => fun
  | [d] => { results := [.lit (.bool true)], args := [d] }
  | _ => none }
def fnExactOrderOfSolutionRow : OpenClaim := { program := "ytdhbleiioagmlaa", sum := "f8fc64d6937b83e1316e602d8e86767d07e03c8766267a919675bfd55681beb4", func := "loop.example/g01119/laws.FnExactOrderOfSolution", spec := "fnExactOrderOfSolution", unfollowed := true, recurses := true, apart := false }
def FnExactOrderOfSolutionSaid : Prop := fnExactOrderOfSolutionRow.holds Try.pinned (OpenSpec.ofChange fnExactOrderOfSolutionSpec)

/-- ITS FALSE NEIGHBOUR: 'it returns false'. Refute it at one input. -/
def fnExactOrderOfSolutionWrong : ChangeSpec := { name := "fnExactOrderOfSolution", fn := fun _ => fun
  | [d] => { results := [.lit (.bool false)], args := [d] }
  | _ => none }
def FnExactOrderOfSolutionWrongFalsely : Prop := fnExactOrderOfSolutionRow.holds Try.pinned (OpenSpec.ofChange fnExactOrderOfSolutionWrong)

/- THE SECOND FORM. 'bulk': how many values and letters a reading holds, each counted each time it is reached (what is shared counts as often as it is met; a slice's spare places count too). A statement '..UptoSaid' is the law's where the arguments, and the package variables that the reading takes, are together of bulk at most 1048576: NARROWER than '..Said'. Prove '..Said' where nothing that the law and all that it calls make is longer than what came in: it says more and counts as full. Else prove '..UptoSaid'. A law counts once. -/
mutual
def uptoBulk {H : Type} : DataW H → Nat
  | .lit (.string bytes) => bytes.length + 1
  | .lit _ => 1
  | .nil => 1
  | .ptr d => uptoBulk d + 1
  | .slice elems spare => uptoBulkAll elems + uptoBulkAll spare + 1
  | .agg parts => uptoBulkAll parts + 1
  | .iface _ d => uptoBulk d + 1
  | .map entries => uptoBulkEntries entries + 1
  | .held _ => 1
def uptoBulkAll {H : Type} : List (DataW H) → Nat
  | [] => 0
  | d :: r => uptoBulk d + uptoBulkAll r
def uptoBulkEntries {H : Type} : List (Lit × DataW H) → Nat
  | [] => 0
  | x :: r => uptoBulkEntry x + uptoBulkEntries r
def uptoBulkEntry {H : Type} : Lit × DataW H → Nat
  | (.string bytes, d) => bytes.length + uptoBulk d + 1
  | (_, d) => uptoBulk d + 1
 end
def uptoSmall : (H : Type) → List (DataW H) → Bool := fun _ ds => decide (uptoBulkAll ds ≤ 1048576)
def OpenSpec.upto (s : _root_.Go.ChangeSpec) : _root_.Go.OpenSpec := { _root_.Go.OpenSpec.ofChange s with cond := some uptoSmall }

/-- 'laws.FnExactIsNondegenerate', WHERE WHAT IT READS IS OF BULK AT MOST 1048576: true; the input reads as it did. -/
def fnExactIsNondegenerateUptoRow : OpenClaim := { program := "ytdhbleiioagmlaa", sum := "f8fc64d6937b83e1316e602d8e86767d07e03c8766267a919675bfd55681beb4", func := "loop.example/g01119/laws.FnExactIsNondegenerate", spec := "fnExactIsNondegenerate", unfollowed := true, recurses := true, apart := false, narrowed := true }
def FnExactIsNondegenerateUptoSaid : Prop := fnExactIsNondegenerateUptoRow.holds Try.pinned (OpenSpec.upto fnExactIsNondegenerateSpec)

/-- 'laws.FnExactTableText', WHERE WHAT IT READS IS OF BULK AT MOST 1048576: true; the input reads as it did. -/
def fnExactTableTextUptoRow : OpenClaim := { program := "ytdhbleiioagmlaa", sum := "f8fc64d6937b83e1316e602d8e86767d07e03c8766267a919675bfd55681beb4", func := "loop.example/g01119/laws.FnExactTableText", spec := "fnExactTableText", inPlace := ["internal/abi.NoEscape", "internal/bytealg.MakeNoZero"], unfollowed := true, recurses := true, apart := false, narrowed := true }
def FnExactTableTextUptoSaid : Prop := fnExactTableTextUptoRow.holds Try.pinned (OpenSpec.upto fnExactTableTextSpec)

/-- 'laws.FnExactMirrorSolution', WHERE WHAT IT READS IS OF BULK AT MOST 1048576: true; the input reads as it did. -/
def fnExactMirrorSolutionUptoRow : OpenClaim := { program := "ytdhbleiioagmlaa", sum := "f8fc64d6937b83e1316e602d8e86767d07e03c8766267a919675bfd55681beb4", func := "loop.example/g01119/laws.FnExactMirrorSolution", spec := "fnExactMirrorSolution", unfollowed := true, recurses := true, apart := false, narrowed := true }
def FnExactMirrorSolutionUptoSaid : Prop := fnExactMirrorSolutionUptoRow.holds Try.pinned (OpenSpec.upto fnExactMirrorSolutionSpec)

/-- 'laws.FnExactIsMedialRack', WHERE WHAT IT READS IS OF BULK AT MOST 1048576: true; the input reads as it did. -/
def fnExactIsMedialRackUptoRow : OpenClaim := { program := "ytdhbleiioagmlaa", sum := "f8fc64d6937b83e1316e602d8e86767d07e03c8766267a919675bfd55681beb4", func := "loop.example/g01119/laws.FnExactIsMedialRack", spec := "fnExactIsMedialRack", unfollowed := true, recurses := true, apart := false, narrowed := true }
def FnExactIsMedialRackUptoSaid : Prop := fnExactIsMedialRackUptoRow.holds Try.pinned (OpenSpec.upto fnExactIsMedialRackSpec)

/-- 'laws.FnExactIsQuandle', WHERE WHAT IT READS IS OF BULK AT MOST 1048576: true; the input reads as it did. -/
def fnExactIsQuandleUptoRow : OpenClaim := { program := "ytdhbleiioagmlaa", sum := "f8fc64d6937b83e1316e602d8e86767d07e03c8766267a919675bfd55681beb4", func := "loop.example/g01119/laws.FnExactIsQuandle", spec := "fnExactIsQuandle", unfollowed := true, recurses := true, apart := false, narrowed := true }
def FnExactIsQuandleUptoSaid : Prop := fnExactIsQuandleUptoRow.holds Try.pinned (OpenSpec.upto fnExactIsQuandleSpec)

/-- 'laws.FnExactIsLatinRack', WHERE WHAT IT READS IS OF BULK AT MOST 1048576: true; the input reads as it did. -/
def fnExactIsLatinRackUptoRow : OpenClaim := { program := "ytdhbleiioagmlaa", sum := "f8fc64d6937b83e1316e602d8e86767d07e03c8766267a919675bfd55681beb4", func := "loop.example/g01119/laws.FnExactIsLatinRack", spec := "fnExactIsLatinRack", unfollowed := true, recurses := true, apart := false, narrowed := true }
def FnExactIsLatinRackUptoSaid : Prop := fnExactIsLatinRackUptoRow.holds Try.pinned (OpenSpec.upto fnExactIsLatinRackSpec)

/-- 'laws.FnExactEquationFault', WHERE WHAT IT READS IS OF BULK AT MOST 1048576: true; the input reads as it did. -/
def fnExactEquationFaultUptoRow : OpenClaim := { program := "ytdhbleiioagmlaa", sum := "f8fc64d6937b83e1316e602d8e86767d07e03c8766267a919675bfd55681beb4", func := "loop.example/g01119/laws.FnExactEquationFault", spec := "fnExactEquationFault", unfollowed := true, recurses := true, apart := false, narrowed := true }
def FnExactEquationFaultUptoSaid : Prop := fnExactEquationFaultUptoRow.holds Try.pinned (OpenSpec.upto fnExactEquationFaultSpec)

/-- 'laws.FnExactProductSolution', WHERE WHAT IT READS IS OF BULK AT MOST 1048576: true; the input reads as it did. -/
def fnExactProductSolutionUptoRow : OpenClaim := { program := "ytdhbleiioagmlaa", sum := "f8fc64d6937b83e1316e602d8e86767d07e03c8766267a919675bfd55681beb4", func := "loop.example/g01119/laws.FnExactProductSolution", spec := "fnExactProductSolution", unfollowed := true, recurses := true, apart := false, narrowed := true }
def FnExactProductSolutionUptoSaid : Prop := fnExactProductSolutionUptoRow.holds Try.pinned (OpenSpec.upto fnExactProductSolutionSpec)

/-- 'laws.FnExactUnionSolution', WHERE WHAT IT READS IS OF BULK AT MOST 1048576: true; the input reads as it did. -/
def fnExactUnionSolutionUptoRow : OpenClaim := { program := "ytdhbleiioagmlaa", sum := "f8fc64d6937b83e1316e602d8e86767d07e03c8766267a919675bfd55681beb4", func := "loop.example/g01119/laws.FnExactUnionSolution", spec := "fnExactUnionSolution", unfollowed := true, recurses := true, apart := false, narrowed := true }
def FnExactUnionSolutionUptoSaid : Prop := fnExactUnionSolutionUptoRow.holds Try.pinned (OpenSpec.upto fnExactUnionSolutionSpec)

/-- 'laws.FnExactSolutionText', WHERE WHAT IT READS IS OF BULK AT MOST 1048576: true; the input reads as it did. -/
def fnExactSolutionTextUptoRow : OpenClaim := { program := "ytdhbleiioagmlaa", sum := "f8fc64d6937b83e1316e602d8e86767d07e03c8766267a919675bfd55681beb4", func := "loop.example/g01119/laws.FnExactSolutionText", spec := "fnExactSolutionText", inPlace := ["internal/abi.NoEscape", "internal/bytealg.MakeNoZero"], unfollowed := true, recurses := true, apart := false, narrowed := true }
def FnExactSolutionTextUptoSaid : Prop := fnExactSolutionTextUptoRow.holds Try.pinned (OpenSpec.upto fnExactSolutionTextSpec)

/-- 'laws.FnExactRenameSolution', WHERE WHAT IT READS IS OF BULK AT MOST 1048576: true; the input reads as it did. -/
def fnExactRenameSolutionUptoRow : OpenClaim := { program := "ytdhbleiioagmlaa", sum := "f8fc64d6937b83e1316e602d8e86767d07e03c8766267a919675bfd55681beb4", func := "loop.example/g01119/laws.FnExactRenameSolution", spec := "fnExactRenameSolution", unfollowed := true, recurses := true, apart := false, narrowed := true }
def FnExactRenameSolutionUptoSaid : Prop := fnExactRenameSolutionUptoRow.holds Try.pinned (OpenSpec.upto fnExactRenameSolutionSpec)

/-- 'laws.FnExactOrderOfSolution', WHERE WHAT IT READS IS OF BULK AT MOST 1048576: true; the input reads as it did. -/
def fnExactOrderOfSolutionUptoRow : OpenClaim := { program := "ytdhbleiioagmlaa", sum := "f8fc64d6937b83e1316e602d8e86767d07e03c8766267a919675bfd55681beb4", func := "loop.example/g01119/laws.FnExactOrderOfSolution", spec := "fnExactOrderOfSolution", unfollowed := true, recurses := true, apart := false, narrowed := true }
def FnExactOrderOfSolutionUptoSaid : Prop := fnExactOrderOfSolutionUptoRow.holds Try.pinned (OpenSpec.upto fnExactOrderOfSolutionSpec)

end Rows
end Go.Proofs.Ytdhbleiioagmlaa
