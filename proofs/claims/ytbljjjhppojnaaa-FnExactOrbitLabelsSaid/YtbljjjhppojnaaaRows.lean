/-
  No cell of these rows narrows 'for every input' (looked for: loops, veiled, ifaces, maps, wideKeys, modest, calm, conditions, laid).
  DERIVED. THE GIVEN ROWS OF THIS SEAT. 12 by the template 'for every input the law returns true; each argument reads behind the call as it read before'; 0 by the template 'total and deterministic' (their statements: YtbljjjhppojnaaaTotals.lean).
  GIVEN WITH THE SEED: the statements are not yours to turn. If you find one false, say at which input.
  Laid BY PROGRAM, IN A SANDBOX (cutbox-rows.mjs): the forced cells as the released guide's own fill.sh prints them over the translation b4d51bc8f81c8fc0… (all of the seat's roots in one cut). By AI agents, Wed Nov 11 2026. No macro, syntax, notation, axiom, sorry.
-/
import Derived.Test.YtbljjjhppojnaaaChecked
import GoSem.Claim
import GoSem.ClaimJoined
import GoSem.ClaimMapViews
import Derived.JoinedTies
import Derived.KernelRfl
namespace Go.Proofs.Ytbljjjhppojnaaa
/- THE CELL 'sum', in the pinned program and in every row, IS THE sha256 OF THE DUMP (.gsa) THAT YtbljjjhppojnaaaProg.lean LOADS. Nothing in Lean hashes anything: it is a label: what it is worth is what the hold of that sum in a sandbox is worth. -/
noncomputable def Try.pinned : Pinned := { name := "ytbljjjhppojnaaa", sum := "b4d51bc8f81c8fc0137b76336f59acac44818d79ed4f5a7d72323026de2794fe", checked := Try.checked }
namespace Rows
def none {H : Type} : Left H := { results := [], args := [] }

/-- 'laws.FnExactIsSquareFree': WHATEVER THE INPUT: true; the input reads as it did. -/
def fnExactIsSquareFreeSpec : ChangeSpec := { name := "fnExactIsSquareFree", fn := fun _ => fun
  | [d] => { results := [.lit (.bool true)], args := [d] }
  | _ => none }
def fnExactIsSquareFreeRow : OpenClaim := { program := "ytbljjjhppojnaaa", sum := "b4d51bc8f81c8fc0137b76336f59acac44818d79ed4f5a7d72323026de2794fe", func := "loop.example/g01119/laws.FnExactIsSquareFree", spec := "fnExactIsSquareFree", unfollowed := true, recurses := true, apart := false }
def FnExactIsSquareFreeSaid : Prop := fnExactIsSquareFreeRow.holds Try.pinned (OpenSpec.ofChange fnExactIsSquareFreeSpec)

/-- ITS FALSE NEIGHBOUR: 'it returns false'. Refute it at one input. -/
def fnExactIsSquareFreeWrong : ChangeSpec := { name := "fnExactIsSquareFree", fn := fun _ => fun
  | [d] => { results := [.lit (.bool false)], args := [d] }
  | _ => none }
def FnExactIsSquareFreeWrongFalsely : Prop := fnExactIsSquareFreeRow.holds Try.pinned (OpenSpec.ofChange fnExactIsSquareFreeWrong)

/-- 'laws.FnExactHasPermutationRows': WHATEVER THE INPUT: true; the input reads as it did. -/
def fnExactHasPermutationRowsSpec : ChangeSpec := { name := "fnExactHasPermutationRows", fn := fun _ => fun
  | [d] => { results := [.lit (.bool true)], args := [d] }
  | _ => none }
def fnExactHasPermutationRowsRow : OpenClaim := { program := "ytbljjjhppojnaaa", sum := "b4d51bc8f81c8fc0137b76336f59acac44818d79ed4f5a7d72323026de2794fe", func := "loop.example/g01119/laws.FnExactHasPermutationRows", spec := "fnExactHasPermutationRows", unfollowed := true, recurses := true, apart := false }
def FnExactHasPermutationRowsSaid : Prop := fnExactHasPermutationRowsRow.holds Try.pinned (OpenSpec.ofChange fnExactHasPermutationRowsSpec)

/-- ITS FALSE NEIGHBOUR: 'it returns false'. Refute it at one input. -/
def fnExactHasPermutationRowsWrong : ChangeSpec := { name := "fnExactHasPermutationRows", fn := fun _ => fun
  | [d] => { results := [.lit (.bool false)], args := [d] }
  | _ => none }
def FnExactHasPermutationRowsWrongFalsely : Prop := fnExactHasPermutationRowsRow.holds Try.pinned (OpenSpec.ofChange fnExactHasPermutationRowsWrong)

/-- 'laws.FnExactIsInvolutive': WHATEVER THE INPUT: true; the input reads as it did. -/
def fnExactIsInvolutiveSpec : ChangeSpec := { name := "fnExactIsInvolutive", fn := fun _ => fun
  | [d] => { results := [.lit (.bool true)], args := [d] }
  | _ => none }
def fnExactIsInvolutiveRow : OpenClaim := { program := "ytbljjjhppojnaaa", sum := "b4d51bc8f81c8fc0137b76336f59acac44818d79ed4f5a7d72323026de2794fe", func := "loop.example/g01119/laws.FnExactIsInvolutive", spec := "fnExactIsInvolutive", unfollowed := true, recurses := true, apart := false }
def FnExactIsInvolutiveSaid : Prop := fnExactIsInvolutiveRow.holds Try.pinned (OpenSpec.ofChange fnExactIsInvolutiveSpec)

/-- ITS FALSE NEIGHBOUR: 'it returns false'. Refute it at one input. -/
def fnExactIsInvolutiveWrong : ChangeSpec := { name := "fnExactIsInvolutive", fn := fun _ => fun
  | [d] => { results := [.lit (.bool false)], args := [d] }
  | _ => none }
def FnExactIsInvolutiveWrongFalsely : Prop := fnExactIsInvolutiveRow.holds Try.pinned (OpenSpec.ofChange fnExactIsInvolutiveWrong)

/-- 'laws.FnExactTransposeTable': WHATEVER THE INPUT: true; the input reads as it did. -/
def fnExactTransposeTableSpec : ChangeSpec := { name := "fnExactTransposeTable", fn := fun _ => fun
  | [d] => { results := [.lit (.bool true)], args := [d] }
  | _ => none }
def fnExactTransposeTableRow : OpenClaim := { program := "ytbljjjhppojnaaa", sum := "b4d51bc8f81c8fc0137b76336f59acac44818d79ed4f5a7d72323026de2794fe", func := "loop.example/g01119/laws.FnExactTransposeTable", spec := "fnExactTransposeTable", unfollowed := true, recurses := true, apart := false }
def FnExactTransposeTableSaid : Prop := fnExactTransposeTableRow.holds Try.pinned (OpenSpec.ofChange fnExactTransposeTableSpec)

/-- ITS FALSE NEIGHBOUR: 'it returns false'. Refute it at one input. -/
def fnExactTransposeTableWrong : ChangeSpec := { name := "fnExactTransposeTable", fn := fun _ => fun
  | [d] => { results := [.lit (.bool false)], args := [d] }
  | _ => none }
def FnExactTransposeTableWrongFalsely : Prop := fnExactTransposeTableRow.holds Try.pinned (OpenSpec.ofChange fnExactTransposeTableWrong)

/-- 'laws.FnExactIsLatin': WHATEVER THE INPUT: true; the input reads as it did. -/
def fnExactIsLatinSpec : ChangeSpec := { name := "fnExactIsLatin", fn := fun _ => fun
  | [d] => { results := [.lit (.bool true)], args := [d] }
  | _ => none }
def fnExactIsLatinRow : OpenClaim := { program := "ytbljjjhppojnaaa", sum := "b4d51bc8f81c8fc0137b76336f59acac44818d79ed4f5a7d72323026de2794fe", func := "loop.example/g01119/laws.FnExactIsLatin", spec := "fnExactIsLatin", unfollowed := true, recurses := true, apart := false }
def FnExactIsLatinSaid : Prop := fnExactIsLatinRow.holds Try.pinned (OpenSpec.ofChange fnExactIsLatinSpec)

/-- ITS FALSE NEIGHBOUR: 'it returns false'. Refute it at one input. -/
def fnExactIsLatinWrong : ChangeSpec := { name := "fnExactIsLatin", fn := fun _ => fun
  | [d] => { results := [.lit (.bool false)], args := [d] }
  | _ => none }
def FnExactIsLatinWrongFalsely : Prop := fnExactIsLatinRow.holds Try.pinned (OpenSpec.ofChange fnExactIsLatinWrong)

/-- 'laws.FnExactIsRack': WHATEVER THE INPUT: true; the input reads as it did. -/
def fnExactIsRackSpec : ChangeSpec := { name := "fnExactIsRack", fn := fun _ => fun
  | [d] => { results := [.lit (.bool true)], args := [d] }
  | _ => none }
def fnExactIsRackRow : OpenClaim := { program := "ytbljjjhppojnaaa", sum := "b4d51bc8f81c8fc0137b76336f59acac44818d79ed4f5a7d72323026de2794fe", func := "loop.example/g01119/laws.FnExactIsRack", spec := "fnExactIsRack", unfollowed := true, recurses := true, apart := false }
def FnExactIsRackSaid : Prop := fnExactIsRackRow.holds Try.pinned (OpenSpec.ofChange fnExactIsRackSpec)

/-- ITS FALSE NEIGHBOUR: 'it returns false'. Refute it at one input. -/
def fnExactIsRackWrong : ChangeSpec := { name := "fnExactIsRack", fn := fun _ => fun
  | [d] => { results := [.lit (.bool false)], args := [d] }
  | _ => none }
def FnExactIsRackWrongFalsely : Prop := fnExactIsRackRow.holds Try.pinned (OpenSpec.ofChange fnExactIsRackWrong)

/-- 'laws.FnExactOrbitLabels': WHATEVER THE INPUT: true; the input reads as it did. -/
def fnExactOrbitLabelsSpec : ChangeSpec := { name := "fnExactOrbitLabels", fn := fun _ => fun
  | [d1, d2] => { results := [.lit (.bool true)], args := [d1, d2] }
  | _ => none }
def fnExactOrbitLabelsRow : OpenClaim := { program := "ytbljjjhppojnaaa", sum := "b4d51bc8f81c8fc0137b76336f59acac44818d79ed4f5a7d72323026de2794fe", func := "loop.example/g01119/laws.FnExactOrbitLabels", spec := "fnExactOrbitLabels", unfollowed := true, recurses := true, apart := false }
def FnExactOrbitLabelsSaid : Prop := fnExactOrbitLabelsRow.holds Try.pinned (OpenSpec.ofChange fnExactOrbitLabelsSpec)

/-- ITS FALSE NEIGHBOUR: 'it returns false'. Refute it at one input. -/
def fnExactOrbitLabelsWrong : ChangeSpec := { name := "fnExactOrbitLabels", fn := fun _ => fun
  | [d1, d2] => { results := [.lit (.bool false)], args := [d1, d2] }
  | _ => none }
def FnExactOrbitLabelsWrongFalsely : Prop := fnExactOrbitLabelsRow.holds Try.pinned (OpenSpec.ofChange fnExactOrbitLabelsWrong)

/-- 'laws.FnExactCollisionOf': WHATEVER THE INPUT: true; the input reads as it did. -/
def fnExactCollisionOfSpec : ChangeSpec := { name := "fnExactCollisionOf", fn := fun _ => fun
  | [d] => { results := [.lit (.bool true)], args := [d] }
  | _ => none }
def fnExactCollisionOfRow : OpenClaim := { program := "ytbljjjhppojnaaa", sum := "b4d51bc8f81c8fc0137b76336f59acac44818d79ed4f5a7d72323026de2794fe", func := "loop.example/g01119/laws.FnExactCollisionOf", spec := "fnExactCollisionOf", unfollowed := true, recurses := true, apart := false }
def FnExactCollisionOfSaid : Prop := fnExactCollisionOfRow.holds Try.pinned (OpenSpec.ofChange fnExactCollisionOfSpec)

/-- ITS FALSE NEIGHBOUR: 'it returns false'. Refute it at one input. -/
def fnExactCollisionOfWrong : ChangeSpec := { name := "fnExactCollisionOf", fn := fun _ => fun
  | [d] => { results := [.lit (.bool false)], args := [d] }
  | _ => none }
def FnExactCollisionOfWrongFalsely : Prop := fnExactCollisionOfRow.holds Try.pinned (OpenSpec.ofChange fnExactCollisionOfWrong)

/-- 'laws.FnExactRenameTable': WHATEVER THE INPUT: true; the input reads as it did. -/
def fnExactRenameTableSpec : ChangeSpec := { name := "fnExactRenameTable", fn := fun _ => fun
  | [d1, d2] => { results := [.lit (.bool true)], args := [d1, d2] }
  | _ => none }
def fnExactRenameTableRow : OpenClaim := { program := "ytbljjjhppojnaaa", sum := "b4d51bc8f81c8fc0137b76336f59acac44818d79ed4f5a7d72323026de2794fe", func := "loop.example/g01119/laws.FnExactRenameTable", spec := "fnExactRenameTable", unfollowed := true, recurses := true, apart := false }
def FnExactRenameTableSaid : Prop := fnExactRenameTableRow.holds Try.pinned (OpenSpec.ofChange fnExactRenameTableSpec)

/-- ITS FALSE NEIGHBOUR: 'it returns false'. Refute it at one input. -/
def fnExactRenameTableWrong : ChangeSpec := { name := "fnExactRenameTable", fn := fun _ => fun
  | [d1, d2] => { results := [.lit (.bool false)], args := [d1, d2] }
  | _ => none }
def FnExactRenameTableWrongFalsely : Prop := fnExactRenameTableRow.holds Try.pinned (OpenSpec.ofChange fnExactRenameTableWrong)

/-- 'laws.FnExactIsSolution': WHATEVER THE INPUT: true; the input reads as it did. -/
def fnExactIsSolutionSpec : ChangeSpec := { name := "fnExactIsSolution", fn := fun _ => fun
  | [d] => { results := [.lit (.bool true)], args := [d] }
  | _ => none }
def fnExactIsSolutionRow : OpenClaim := { program := "ytbljjjhppojnaaa", sum := "b4d51bc8f81c8fc0137b76336f59acac44818d79ed4f5a7d72323026de2794fe", func := "loop.example/g01119/laws.FnExactIsSolution", spec := "fnExactIsSolution", unfollowed := true, recurses := true, apart := false }
def FnExactIsSolutionSaid : Prop := fnExactIsSolutionRow.holds Try.pinned (OpenSpec.ofChange fnExactIsSolutionSpec)

/-- ITS FALSE NEIGHBOUR: 'it returns false'. Refute it at one input. -/
def fnExactIsSolutionWrong : ChangeSpec := { name := "fnExactIsSolution", fn := fun _ => fun
  | [d] => { results := [.lit (.bool false)], args := [d] }
  | _ => none }
def FnExactIsSolutionWrongFalsely : Prop := fnExactIsSolutionRow.holds Try.pinned (OpenSpec.ofChange fnExactIsSolutionWrong)

/-- 'laws.FnExactTwistSolution': WHATEVER THE INPUT: true; the input reads as it did. -/
def fnExactTwistSolutionSpec : ChangeSpec := { name := "fnExactTwistSolution", fn := fun _ => fun
  | [d1, d2] => { results := [.lit (.bool true)], args := [d1, d2] }
  | _ => none }
def fnExactTwistSolutionRow : OpenClaim := { program := "ytbljjjhppojnaaa", sum := "b4d51bc8f81c8fc0137b76336f59acac44818d79ed4f5a7d72323026de2794fe", func := "loop.example/g01119/laws.FnExactTwistSolution", spec := "fnExactTwistSolution", unfollowed := true, recurses := true, apart := false }
def FnExactTwistSolutionSaid : Prop := fnExactTwistSolutionRow.holds Try.pinned (OpenSpec.ofChange fnExactTwistSolutionSpec)

/-- ITS FALSE NEIGHBOUR: 'it returns false'. Refute it at one input. -/
def fnExactTwistSolutionWrong : ChangeSpec := { name := "fnExactTwistSolution", fn := fun _ => fun
  | [d1, d2] => { results := [.lit (.bool false)], args := [d1, d2] }
  | _ => none }
def FnExactTwistSolutionWrongFalsely : Prop := fnExactTwistSolutionRow.holds Try.pinned (OpenSpec.ofChange fnExactTwistSolutionWrong)

/-- 'laws.FnExactIsClosedSet': WHATEVER THE INPUT: true; the input reads as it did. -/
def fnExactIsClosedSetSpec : ChangeSpec := { name := "fnExactIsClosedSet", fn := fun _ => fun
  | [d1, d2] => { results := [.lit (.bool true)], args := [d1, d2] }
  | _ => none }
def fnExactIsClosedSetRow : OpenClaim := { program := "ytbljjjhppojnaaa", sum := "b4d51bc8f81c8fc0137b76336f59acac44818d79ed4f5a7d72323026de2794fe", func := "loop.example/g01119/laws.FnExactIsClosedSet", spec := "fnExactIsClosedSet", unfollowed := true, recurses := true, apart := false }
def FnExactIsClosedSetSaid : Prop := fnExactIsClosedSetRow.holds Try.pinned (OpenSpec.ofChange fnExactIsClosedSetSpec)

/-- ITS FALSE NEIGHBOUR: 'it returns false'. Refute it at one input. -/
def fnExactIsClosedSetWrong : ChangeSpec := { name := "fnExactIsClosedSet", fn := fun _ => fun
  | [d1, d2] => { results := [.lit (.bool false)], args := [d1, d2] }
  | _ => none }
def FnExactIsClosedSetWrongFalsely : Prop := fnExactIsClosedSetRow.holds Try.pinned (OpenSpec.ofChange fnExactIsClosedSetWrong)

/- THE SECOND FORM. 'bulk': how many values and letters a reading holds, each counted each time it is reached (what is shared counts as often as it is met; a slice's spare places count too). A statement '..UptoSaid' is the law's where the arguments, and the package variables that the reading takes, are together of bulk at most 1048576: NARROWER than '..Said'. Prove '..Said' where nothing that the law and all that it calls make is longer than what came in: it says more and counts as full. Else prove '..UptoSaid'. A law counts once. -/
mutual
def uptoBulk {H : Type} : DataW H → Nat
  | .lit (.string bytes) => bytes.length + 1
  | .lit _ => 1
  | .nil => 1
  | .ptr d => uptoBulk d + 1
  | .slice elems spare => uptoBulkAll elems + uptoBulkAll spare + 1
  | .agg parts => uptoBulkAll parts + 1
  | .iface _ d => uptoBulk d + 1
  | .map entries => uptoBulkEntries entries + 1
  | .held _ => 1
def uptoBulkAll {H : Type} : List (DataW H) → Nat
  | [] => 0
  | d :: r => uptoBulk d + uptoBulkAll r
def uptoBulkEntries {H : Type} : List (Lit × DataW H) → Nat
  | [] => 0
  | x :: r => uptoBulkEntry x + uptoBulkEntries r
def uptoBulkEntry {H : Type} : Lit × DataW H → Nat
  | (.string bytes, d) => bytes.length + uptoBulk d + 1
  | (_, d) => uptoBulk d + 1
 end
def uptoSmall : (H : Type) → List (DataW H) → Bool := fun _ ds => decide (uptoBulkAll ds ≤ 1048576)
def OpenSpec.upto (s : _root_.Go.ChangeSpec) : _root_.Go.OpenSpec := { _root_.Go.OpenSpec.ofChange s with cond := some uptoSmall }

/-- 'laws.FnExactIsSquareFree', WHERE WHAT IT READS IS OF BULK AT MOST 1048576: true; the input reads as it did. -/
def fnExactIsSquareFreeUptoRow : OpenClaim := { program := "ytbljjjhppojnaaa", sum := "b4d51bc8f81c8fc0137b76336f59acac44818d79ed4f5a7d72323026de2794fe", func := "loop.example/g01119/laws.FnExactIsSquareFree", spec := "fnExactIsSquareFree", unfollowed := true, recurses := true, apart := false, narrowed := true }
def FnExactIsSquareFreeUptoSaid : Prop := fnExactIsSquareFreeUptoRow.holds Try.pinned (OpenSpec.upto fnExactIsSquareFreeSpec)

/-- 'laws.FnExactHasPermutationRows', WHERE WHAT IT READS IS OF BULK AT MOST 1048576: true; the input reads as it did. -/
def fnExactHasPermutationRowsUptoRow : OpenClaim := { program := "ytbljjjhppojnaaa", sum := "b4d51bc8f81c8fc0137b76336f59acac44818d79ed4f5a7d72323026de2794fe", func := "loop.example/g01119/laws.FnExactHasPermutationRows", spec := "fnExactHasPermutationRows", unfollowed := true, recurses := true, apart := false, narrowed := true }
def FnExactHasPermutationRowsUptoSaid : Prop := fnExactHasPermutationRowsUptoRow.holds Try.pinned (OpenSpec.upto fnExactHasPermutationRowsSpec)

/-- 'laws.FnExactIsInvolutive', WHERE WHAT IT READS IS OF BULK AT MOST 1048576: true; the input reads as it did. -/
def fnExactIsInvolutiveUptoRow : OpenClaim := { program := "ytbljjjhppojnaaa", sum := "b4d51bc8f81c8fc0137b76336f59acac44818d79ed4f5a7d72323026de2794fe", func := "loop.example/g01119/laws.FnExactIsInvolutive", spec := "fnExactIsInvolutive", unfollowed := true, recurses := true, apart := false, narrowed := true }
def FnExactIsInvolutiveUptoSaid : Prop := fnExactIsInvolutiveUptoRow.holds Try.pinned (OpenSpec.upto fnExactIsInvolutiveSpec)

/-- 'laws.FnExactTransposeTable', WHERE WHAT IT READS IS OF BULK AT MOST 1048576: true; the input reads as it did. -/
def fnExactTransposeTableUptoRow : OpenClaim := { program := "ytbljjjhppojnaaa", sum := "b4d51bc8f81c8fc0137b76336f59acac44818d79ed4f5a7d72323026de2794fe", func := "loop.example/g01119/laws.FnExactTransposeTable", spec := "fnExactTransposeTable", unfollowed := true, recurses := true, apart := false, narrowed := true }
def FnExactTransposeTableUptoSaid : Prop := fnExactTransposeTableUptoRow.holds Try.pinned (OpenSpec.upto fnExactTransposeTableSpec)

/-- 'laws.FnExactIsLatin', WHERE WHAT IT READS IS OF BULK AT MOST 1048576: true; the input reads as it did. -/
def fnExactIsLatinUptoRow : OpenClaim := { program := "ytbljjjhppojnaaa", sum := "b4d51bc8f81c8fc0137b76336f59acac44818d79ed4f5a7d72323026de2794fe", func := "loop.example/g01119/laws.FnExactIsLatin", spec := "fnExactIsLatin", unfollowed := true, recurses := true, apart := false, narrowed := true }
def FnExactIsLatinUptoSaid : Prop := fnExactIsLatinUptoRow.holds Try.pinned (OpenSpec.upto fnExactIsLatinSpec)

/-- 'laws.FnExactIsRack', WHERE WHAT IT READS IS OF BULK AT MOST 1048576: true; the input reads as it did. -/
def fnExactIsRackUptoRow : OpenClaim := { program := "ytbljjjhppojnaaa", sum := "b4d51bc8f81c8fc0137b76336f59acac44818d79ed4f5a7d72323026de2794fe", func := "loop.example/g01119/laws.FnExactIsRack", spec := "fnExactIsRack", unfollowed := true, recurses := true, apart := false, narrowed := true }
def FnExactIsRackUptoSaid : Prop := fnExactIsRackUptoRow.holds Try.pinned (OpenSpec.upto fnExactIsRackSpec)

/-- 'laws.FnExactOrbitLabels', WHERE WHAT IT READS IS OF BULK AT MOST 1048576: true; the input reads as it did. -/
def fnExactOrbitLabelsUptoRow : OpenClaim := { program := "ytbljjjhppojnaaa", sum := "b4d51bc8f81c8fc0137b76336f59acac44818d79ed4f5a7d72323026de2794fe", func := "loop.example/g01119/laws.FnExactOrbitLabels", spec := "fnExactOrbitLabels", unfollowed := true, recurses := true, apart := false, narrowed := true }
def FnExactOrbitLabelsUptoSaid : Prop := fnExactOrbitLabelsUptoRow.holds Try.pinned (OpenSpec.upto fnExactOrbitLabelsSpec)

/-- 'laws.FnExactCollisionOf', WHERE WHAT IT READS IS OF BULK AT MOST 1048576: true; the input reads as it did. -/
def fnExactCollisionOfUptoRow : OpenClaim := { program := "ytbljjjhppojnaaa", sum := "b4d51bc8f81c8fc0137b76336f59acac44818d79ed4f5a7d72323026de2794fe", func := "loop.example/g01119/laws.FnExactCollisionOf", spec := "fnExactCollisionOf", unfollowed := true, recurses := true, apart := false, narrowed := true }
def FnExactCollisionOfUptoSaid : Prop := fnExactCollisionOfUptoRow.holds Try.pinned (OpenSpec.upto fnExactCollisionOfSpec)

/-- 'laws.FnExactRenameTable', WHERE WHAT IT READS IS OF BULK AT MOST 1048576: true; the input reads as it did. -/
def fnExactRenameTableUptoRow : OpenClaim := { program := "ytbljjjhppojnaaa", sum := "b4d51bc8f81c8fc0137b76336f59acac44818d79ed4f5a7d72323026de2794fe", func := "loop.example/g01119/laws.FnExactRenameTable", spec := "fnExactRenameTable", unfollowed := true, recurses := true, apart := false, narrowed := true }
def FnExactRenameTableUptoSaid : Prop := fnExactRenameTableUptoRow.holds Try.pinned (OpenSpec.upto fnExactRenameTableSpec)

/-- 'laws.FnExactIsSolution', WHERE WHAT IT READS IS OF BULK AT MOST 1048576: true; the input reads as it did. -/
def fnExactIsSolutionUptoRow : OpenClaim := { program := "ytbljjjhppojnaaa", sum := "b4d51bc8f81c8fc0137b76336f59acac44818d79ed4f5a7d72323026de2794fe", func := "loop.example/g01119/laws.FnExactIsSolution", spec := "fnExactIsSolution", unfollowed := true, recurses := true, apart := false, narrowed := true }
def FnExactIsSolutionUptoSaid : Prop := fnExactIsSolutionUptoRow.holds Try.pinned (OpenSpec.upto fnExactIsSolutionSpec)

/-- 'laws.FnExactTwistSolution', WHERE WHAT IT READS IS OF BULK AT MOST 1048576: true; the input reads as it did. -/
def fnExactTwistSolutionUptoRow : OpenClaim := { program := "ytbljjjhppojnaaa", sum := "b4d51bc8f81c8fc0137b76336f59acac44818d79ed4f5a7d72323026de2794fe", func := "loop.example/g01119/laws.FnExactTwistSolution", spec := "fnExactTwistSolution", unfollowed := true, recurses := true, apart := false, narrowed := true }
def FnExactTwistSolutionUptoSaid : Prop := fnExactTwistSolutionUptoRow.holds Try.pinned (OpenSpec.upto fnExactTwistSolutionSpec)

/-- 'laws.FnExactIsClosedSet', WHERE WHAT IT READS IS OF BULK AT MOST 1048576: true; the input reads as it did. -/
def fnExactIsClosedSetUptoRow : OpenClaim := { program := "ytbljjjhppojnaaa", sum := "b4d51bc8f81c8fc0137b76336f59acac44818d79ed4f5a7d72323026de2794fe", func := "loop.example/g01119/laws.FnExactIsClosedSet", spec := "fnExactIsClosedSet", unfollowed := true, recurses := true, apart := false, narrowed := true }
def FnExactIsClosedSetUptoSaid : Prop := fnExactIsClosedSetUptoRow.holds Try.pinned (OpenSpec.upto fnExactIsClosedSetSpec)

end Rows
end Go.Proofs.Ytbljjjhppojnaaa
