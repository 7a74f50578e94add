/-
  No cell of these rows narrows 'for every input' (looked for: loops, veiled, ifaces, maps, wideKeys, modest, calm, conditions, laid).
  DERIVED. THE GIVEN ROWS OF THIS SEAT. 10 by the template 'for every input the law returns true; each argument reads behind the call as it read before'; 0 by the template 'total and deterministic' (their statements: YtkcobfkmeaakoaaTotals.lean).
  GIVEN WITH THE SEED: the statements are not yours to turn. If you find one false, say at which input.
  Laid BY PROGRAM, IN A SANDBOX (cutbox-rows.mjs): the forced cells as the released guide's own fill.sh prints them over the translation babcf1a2fc456248… (all of the seat's roots in one cut). By AI agents, Wed Nov 11 2026. No macro, syntax, notation, axiom, sorry.
-/
import Derived.Test.YtkcobfkmeaakoaaChecked
import GoSem.Claim
import GoSem.ClaimJoined
import GoSem.ClaimMapViews
import Derived.JoinedTies
import Derived.KernelRfl
namespace Go.Proofs.Ytkcobfkmeaakoaa
/- THE CELL 'sum', in the pinned program and in every row, IS THE sha256 OF THE DUMP (.gsa) THAT YtkcobfkmeaakoaaProg.lean LOADS. Nothing in Lean hashes anything: it is a label: what it is worth is what the hold of that sum in a sandbox is worth. -/
noncomputable def Try.pinned : Pinned := { name := "ytkcobfkmeaakoaa", sum := "babcf1a2fc456248d13cd60374ca142478ac4dcf9142ac62a932bff21431a485", checked := Try.checked }
namespace Rows
def none {H : Type} : Left H := { results := [], args := [] }

/-- 'laws.FnExactSubSolution': WHATEVER THE INPUT: true; the input reads as it did. -/
def fnExactSubSolutionSpec : ChangeSpec := { name := "fnExactSubSolution", fn := fun _ => fun
  | [d1, d2] => { results := [.lit (.bool true)], args := [d1, d2] }
  | _ => none }
def fnExactSubSolutionRow : OpenClaim := { program := "ytkcobfkmeaakoaa", sum := "babcf1a2fc456248d13cd60374ca142478ac4dcf9142ac62a932bff21431a485", func := "loop.example/g01119/laws.FnExactSubSolution", spec := "fnExactSubSolution", unfollowed := true, recurses := true, apart := false }
def FnExactSubSolutionSaid : Prop := fnExactSubSolutionRow.holds Try.pinned (OpenSpec.ofChange fnExactSubSolutionSpec)

/-- ITS FALSE NEIGHBOUR: 'it returns false'. Refute it at one input. -/
def fnExactSubSolutionWrong : ChangeSpec := { name := "fnExactSubSolution", fn := fun _ => fun
  | [d1, d2] => { results := [.lit (.bool false)], args := [d1, d2] }
  | _ => none }
def FnExactSubSolutionWrongFalsely : Prop := fnExactSubSolutionRow.holds Try.pinned (OpenSpec.ofChange fnExactSubSolutionWrong)

/-- 'laws.FnExactInverseSolution': WHATEVER THE INPUT: true; the input reads as it did. -/
def fnExactInverseSolutionSpec : ChangeSpec := { name := "fnExactInverseSolution", fn := fun _ => fun
  | [d] => { results := [.lit (.bool true)], args := [d] }
  | _ => none }
def fnExactInverseSolutionRow : OpenClaim := { program := "ytkcobfkmeaakoaa", sum := "babcf1a2fc456248d13cd60374ca142478ac4dcf9142ac62a932bff21431a485", func := "loop.example/g01119/laws.FnExactInverseSolution", spec := "fnExactInverseSolution", unfollowed := true, recurses := true, apart := false }
def FnExactInverseSolutionSaid : Prop := fnExactInverseSolutionRow.holds Try.pinned (OpenSpec.ofChange fnExactInverseSolutionSpec)

/-- ITS FALSE NEIGHBOUR: 'it returns false'. Refute it at one input. -/
def fnExactInverseSolutionWrong : ChangeSpec := { name := "fnExactInverseSolution", fn := fun _ => fun
  | [d] => { results := [.lit (.bool false)], args := [d] }
  | _ => none }
def FnExactInverseSolutionWrongFalsely : Prop := fnExactInverseSolutionRow.holds Try.pinned (OpenSpec.ofChange fnExactInverseSolutionWrong)

/-- 'laws.FnTwists': WHATEVER THE INPUT: true; the input reads as it did. -/
def fnTwistsSpec : ChangeSpec := { name := "fnTwists", fn := fun _ => fun
  | [d] => { results := [.lit (.bool true)], args := [d] }
  | _ => none }
def fnTwistsRow : OpenClaim := { program := "ytkcobfkmeaakoaa", sum := "babcf1a2fc456248d13cd60374ca142478ac4dcf9142ac62a932bff21431a485", func := "loop.example/g01119/laws.FnTwists", spec := "fnTwists", unfollowed := true, recurses := true, apart := false }
def FnTwistsSaid : Prop := fnTwistsRow.holds Try.pinned (OpenSpec.ofChange fnTwistsSpec)

/-- ITS FALSE NEIGHBOUR: 'it returns false'. Refute it at one input. -/
def fnTwistsWrong : ChangeSpec := { name := "fnTwists", fn := fun _ => fun
  | [d] => { results := [.lit (.bool false)], args := [d] }
  | _ => none }
def FnTwistsWrongFalsely : Prop := fnTwistsRow.holds Try.pinned (OpenSpec.ofChange fnTwistsWrong)

/-- 'laws.FnExactLeastTable': WHATEVER THE INPUT: true; the input reads as it did. -/
def fnExactLeastTableSpec : ChangeSpec := { name := "fnExactLeastTable", fn := fun _ => fun
  | [d] => { results := [.lit (.bool true)], args := [d] }
  | _ => none }
def fnExactLeastTableRow : OpenClaim := { program := "ytkcobfkmeaakoaa", sum := "babcf1a2fc456248d13cd60374ca142478ac4dcf9142ac62a932bff21431a485", func := "loop.example/g01119/laws.FnExactLeastTable", spec := "fnExactLeastTable", unfollowed := true, recurses := true, apart := false }
def FnExactLeastTableSaid : Prop := fnExactLeastTableRow.holds Try.pinned (OpenSpec.ofChange fnExactLeastTableSpec)

/-- ITS FALSE NEIGHBOUR: 'it returns false'. Refute it at one input. -/
def fnExactLeastTableWrong : ChangeSpec := { name := "fnExactLeastTable", fn := fun _ => fun
  | [d] => { results := [.lit (.bool false)], args := [d] }
  | _ => none }
def FnExactLeastTableWrongFalsely : Prop := fnExactLeastTableRow.holds Try.pinned (OpenSpec.ofChange fnExactLeastTableWrong)

/-- 'laws.FnRenamedTables': WHATEVER THE INPUT: true; the input reads as it did. -/
def fnRenamedTablesSpec : ChangeSpec := { name := "fnRenamedTables", fn := fun _ => fun
  | [d] => { results := [.lit (.bool true)], args := [d] }
  | _ => none }
def fnRenamedTablesRow : OpenClaim := { program := "ytkcobfkmeaakoaa", sum := "babcf1a2fc456248d13cd60374ca142478ac4dcf9142ac62a932bff21431a485", func := "loop.example/g01119/laws.FnRenamedTables", spec := "fnRenamedTables", unfollowed := true, recurses := true, apart := false }
def FnRenamedTablesSaid : Prop := fnRenamedTablesRow.holds Try.pinned (OpenSpec.ofChange fnRenamedTablesSpec)

/-- ITS FALSE NEIGHBOUR: 'it returns false'. Refute it at one input. -/
def fnRenamedTablesWrong : ChangeSpec := { name := "fnRenamedTables", fn := fun _ => fun
  | [d] => { results := [.lit (.bool false)], args := [d] }
  | _ => none }
def FnRenamedTablesWrongFalsely : Prop := fnRenamedTablesRow.holds Try.pinned (OpenSpec.ofChange fnRenamedTablesWrong)

/-- 'laws.FnExactLeastSolution': WHATEVER THE INPUT: true; the input reads as it did. -/
def fnExactLeastSolutionSpec : ChangeSpec := { name := "fnExactLeastSolution", fn := fun _ => fun
  | [d] => { results := [.lit (.bool true)], args := [d] }
  | _ => none }
def fnExactLeastSolutionRow : OpenClaim := { program := "ytkcobfkmeaakoaa", sum := "babcf1a2fc456248d13cd60374ca142478ac4dcf9142ac62a932bff21431a485", func := "loop.example/g01119/laws.FnExactLeastSolution", spec := "fnExactLeastSolution", unfollowed := true, recurses := true, apart := false }
def FnExactLeastSolutionSaid : Prop := fnExactLeastSolutionRow.holds Try.pinned (OpenSpec.ofChange fnExactLeastSolutionSpec)

/-- ITS FALSE NEIGHBOUR: 'it returns false'. Refute it at one input. -/
def fnExactLeastSolutionWrong : ChangeSpec := { name := "fnExactLeastSolution", fn := fun _ => fun
  | [d] => { results := [.lit (.bool false)], args := [d] }
  | _ => none }
def FnExactLeastSolutionWrongFalsely : Prop := fnExactLeastSolutionRow.holds Try.pinned (OpenSpec.ofChange fnExactLeastSolutionWrong)

/-- 'laws.FnSolutions': WHATEVER THE INPUT: true; the input reads as it did. -/
def fnSolutionsSpec : ChangeSpec := { name := "fnSolutions", fn := fun _ => fun
  | [d] => { results := [.lit (.bool true)], args := [d] }
  | _ => none }
def fnSolutionsRow : OpenClaim := { program := "ytkcobfkmeaakoaa", sum := "babcf1a2fc456248d13cd60374ca142478ac4dcf9142ac62a932bff21431a485", func := "loop.example/g01119/laws.FnSolutions", spec := "fnSolutions", unfollowed := true, recurses := true, apart := false }
def FnSolutionsSaid : Prop := fnSolutionsRow.holds Try.pinned (OpenSpec.ofChange fnSolutionsSpec)

/-- ITS FALSE NEIGHBOUR: 'it returns false'. Refute it at one input. -/
def fnSolutionsWrong : ChangeSpec := { name := "fnSolutions", fn := fun _ => fun
  | [d] => { results := [.lit (.bool false)], args := [d] }
  | _ => none }
def FnSolutionsWrongFalsely : Prop := fnSolutionsRow.holds Try.pinned (OpenSpec.ofChange fnSolutionsWrong)

/-- 'laws.FnExactCycleLengths': WHATEVER THE INPUT: true; the input reads as it did. -/
def fnExactCycleLengthsSpec : ChangeSpec := { name := "fnExactCycleLengths", fn := fun _ => fun
  | [d] => { results := [.lit (.bool true)], args := [d] }
  | _ => none }
def fnExactCycleLengthsRow : OpenClaim := { program := "ytkcobfkmeaakoaa", sum := "babcf1a2fc456248d13cd60374ca142478ac4dcf9142ac62a932bff21431a485", func := "loop.example/g01119/laws.FnExactCycleLengths", spec := "fnExactCycleLengths", unfollowed := true, recurses := true, apart := false }
def FnExactCycleLengthsSaid : Prop := fnExactCycleLengthsRow.holds Try.pinned (OpenSpec.ofChange fnExactCycleLengthsSpec)

/-- ITS FALSE NEIGHBOUR: 'it returns false'. Refute it at one input. -/
def fnExactCycleLengthsWrong : ChangeSpec := { name := "fnExactCycleLengths", fn := fun _ => fun
  | [d] => { results := [.lit (.bool false)], args := [d] }
  | _ => none }
def FnExactCycleLengthsWrongFalsely : Prop := fnExactCycleLengthsRow.holds Try.pinned (OpenSpec.ofChange fnExactCycleLengthsWrong)

/-- 'laws.FnPermutationLaws': WHATEVER THE INPUT: true; the input reads as it did. -/
def fnPermutationLawsSpec : ChangeSpec := { name := "fnPermutationLaws", fn := fun _ => fun
  | [d] => { results := [.lit (.bool true)], args := [d] }
  | _ => none }
def fnPermutationLawsRow : OpenClaim := { program := "ytkcobfkmeaakoaa", sum := "babcf1a2fc456248d13cd60374ca142478ac4dcf9142ac62a932bff21431a485", func := "loop.example/g01119/laws.FnPermutationLaws", spec := "fnPermutationLaws", unfollowed := true, recurses := true, apart := false }
def FnPermutationLawsSaid : Prop := fnPermutationLawsRow.holds Try.pinned (OpenSpec.ofChange fnPermutationLawsSpec)

/-- ITS FALSE NEIGHBOUR: 'it returns false'. Refute it at one input. -/
def fnPermutationLawsWrong : ChangeSpec := { name := "fnPermutationLaws", fn := fun _ => fun
  | [d] => { results := [.lit (.bool false)], args := [d] }
  | _ => none }
def FnPermutationLawsWrongFalsely : Prop := fnPermutationLawsRow.holds Try.pinned (OpenSpec.ofChange fnPermutationLawsWrong)

/-- 'laws.FnInverseSolutions': WHATEVER THE INPUT: true; the input reads as it did. -/
def fnInverseSolutionsSpec : ChangeSpec := { name := "fnInverseSolutions", fn := fun _ => fun
  | [d] => { results := [.lit (.bool true)], args := [d] }
  | _ => none }
def fnInverseSolutionsRow : OpenClaim := { program := "ytkcobfkmeaakoaa", sum := "babcf1a2fc456248d13cd60374ca142478ac4dcf9142ac62a932bff21431a485", func := "loop.example/g01119/laws.FnInverseSolutions", spec := "fnInverseSolutions", unfollowed := true, recurses := true, apart := false }
def FnInverseSolutionsSaid : Prop := fnInverseSolutionsRow.holds Try.pinned (OpenSpec.ofChange fnInverseSolutionsSpec)

/-- ITS FALSE NEIGHBOUR: 'it returns false'. Refute it at one input. -/
def fnInverseSolutionsWrong : ChangeSpec := { name := "fnInverseSolutions", fn := fun _ => fun
  | [d] => { results := [.lit (.bool false)], args := [d] }
  | _ => none }
def FnInverseSolutionsWrongFalsely : Prop := fnInverseSolutionsRow.holds Try.pinned (OpenSpec.ofChange fnInverseSolutionsWrong)

/- THE SECOND FORM. 'bulk': how many values and letters a reading holds, each counted each time it is reached (what is shared counts as often as it is met; a slice's spare places count too). A statement '..UptoSaid' is the law's where the arguments, and the package variables that the reading takes, are together of bulk at most 1048576: NARROWER than '..Said'. Prove '..Said' where nothing that the law and all that it calls make is longer than what came in: it says more and counts as full. Else prove '..UptoSaid'. A law counts once. -/
mutual
def uptoBulk {H : Type} : DataW H → Nat
  | .lit (.string bytes) => bytes.length + 1
  | .lit _ => 1
  | .nil => 1
  | .ptr d => uptoBulk d + 1
  | .slice elems spare => uptoBulkAll elems + uptoBulkAll spare + 1
  | .agg parts => uptoBulkAll parts + 1
  | .iface _ d => uptoBulk d + 1
  | .map entries => uptoBulkEntries entries + 1
  | .held _ => 1
def uptoBulkAll {H : Type} : List (DataW H) → Nat
  | [] => 0
  | d :: r => uptoBulk d + uptoBulkAll r
def uptoBulkEntries {H : Type} : List (Lit × DataW H) → Nat
  | [] => 0
  | x :: r => uptoBulkEntry x + uptoBulkEntries r
def uptoBulkEntry {H : Type} : Lit × DataW H → Nat
  | (.string bytes, d) => bytes.length + uptoBulk d + 1
  | (_, d) => uptoBulk d + 1
 end
def uptoSmall : (H : Type) → List (DataW H) → Bool := fun _ ds => decide (uptoBulkAll ds ≤ 1048576)
def OpenSpec.upto (s : _root_.Go.ChangeSpec) : _root_.Go.OpenSpec := { _root_.Go.OpenSpec.ofChange s with cond := some uptoSmall }

/-- 'laws.FnExactSubSolution', WHERE WHAT IT READS IS OF BULK AT MOST 1048576: true; the input reads as it did. -/
def fnExactSubSolutionUptoRow : OpenClaim := { program := "ytkcobfkmeaakoaa", sum := "babcf1a2fc456248d13cd60374ca142478ac4dcf9142ac62a932bff21431a485", func := "loop.example/g01119/laws.FnExactSubSolution", spec := "fnExactSubSolution", unfollowed := true, recurses := true, apart := false, narrowed := true }
def FnExactSubSolutionUptoSaid : Prop := fnExactSubSolutionUptoRow.holds Try.pinned (OpenSpec.upto fnExactSubSolutionSpec)

/-- 'laws.FnExactInverseSolution', WHERE WHAT IT READS IS OF BULK AT MOST 1048576: true; the input reads as it did. -/
def fnExactInverseSolutionUptoRow : OpenClaim := { program := "ytkcobfkmeaakoaa", sum := "babcf1a2fc456248d13cd60374ca142478ac4dcf9142ac62a932bff21431a485", func := "loop.example/g01119/laws.FnExactInverseSolution", spec := "fnExactInverseSolution", unfollowed := true, recurses := true, apart := false, narrowed := true }
def FnExactInverseSolutionUptoSaid : Prop := fnExactInverseSolutionUptoRow.holds Try.pinned (OpenSpec.upto fnExactInverseSolutionSpec)

/-- 'laws.FnTwists', WHERE WHAT IT READS IS OF BULK AT MOST 1048576: true; the input reads as it did. -/
def fnTwistsUptoRow : OpenClaim := { program := "ytkcobfkmeaakoaa", sum := "babcf1a2fc456248d13cd60374ca142478ac4dcf9142ac62a932bff21431a485", func := "loop.example/g01119/laws.FnTwists", spec := "fnTwists", unfollowed := true, recurses := true, apart := false, narrowed := true }
def FnTwistsUptoSaid : Prop := fnTwistsUptoRow.holds Try.pinned (OpenSpec.upto fnTwistsSpec)

/-- 'laws.FnExactLeastTable', WHERE WHAT IT READS IS OF BULK AT MOST 1048576: true; the input reads as it did. -/
def fnExactLeastTableUptoRow : OpenClaim := { program := "ytkcobfkmeaakoaa", sum := "babcf1a2fc456248d13cd60374ca142478ac4dcf9142ac62a932bff21431a485", func := "loop.example/g01119/laws.FnExactLeastTable", spec := "fnExactLeastTable", unfollowed := true, recurses := true, apart := false, narrowed := true }
def FnExactLeastTableUptoSaid : Prop := fnExactLeastTableUptoRow.holds Try.pinned (OpenSpec.upto fnExactLeastTableSpec)

/-- 'laws.FnRenamedTables', WHERE WHAT IT READS IS OF BULK AT MOST 1048576: true; the input reads as it did. -/
def fnRenamedTablesUptoRow : OpenClaim := { program := "ytkcobfkmeaakoaa", sum := "babcf1a2fc456248d13cd60374ca142478ac4dcf9142ac62a932bff21431a485", func := "loop.example/g01119/laws.FnRenamedTables", spec := "fnRenamedTables", unfollowed := true, recurses := true, apart := false, narrowed := true }
def FnRenamedTablesUptoSaid : Prop := fnRenamedTablesUptoRow.holds Try.pinned (OpenSpec.upto fnRenamedTablesSpec)

/-- 'laws.FnExactLeastSolution', WHERE WHAT IT READS IS OF BULK AT MOST 1048576: true; the input reads as it did. -/
def fnExactLeastSolutionUptoRow : OpenClaim := { program := "ytkcobfkmeaakoaa", sum := "babcf1a2fc456248d13cd60374ca142478ac4dcf9142ac62a932bff21431a485", func := "loop.example/g01119/laws.FnExactLeastSolution", spec := "fnExactLeastSolution", unfollowed := true, recurses := true, apart := false, narrowed := true }
def FnExactLeastSolutionUptoSaid : Prop := fnExactLeastSolutionUptoRow.holds Try.pinned (OpenSpec.upto fnExactLeastSolutionSpec)

/-- 'laws.FnSolutions', WHERE WHAT IT READS IS OF BULK AT MOST 1048576: true; the input reads as it did. -/
def fnSolutionsUptoRow : OpenClaim := { program := "ytkcobfkmeaakoaa", sum := "babcf1a2fc456248d13cd60374ca142478ac4dcf9142ac62a932bff21431a485", func := "loop.example/g01119/laws.FnSolutions", spec := "fnSolutions", unfollowed := true, recurses := true, apart := false, narrowed := true }
def FnSolutionsUptoSaid : Prop := fnSolutionsUptoRow.holds Try.pinned (OpenSpec.upto fnSolutionsSpec)

/-- 'laws.FnExactCycleLengths', WHERE WHAT IT READS IS OF BULK AT MOST 1048576: true; the input reads as it did. -/
def fnExactCycleLengthsUptoRow : OpenClaim := { program := "ytkcobfkmeaakoaa", sum := "babcf1a2fc456248d13cd60374ca142478ac4dcf9142ac62a932bff21431a485", func := "loop.example/g01119/laws.FnExactCycleLengths", spec := "fnExactCycleLengths", unfollowed := true, recurses := true, apart := false, narrowed := true }
def FnExactCycleLengthsUptoSaid : Prop := fnExactCycleLengthsUptoRow.holds Try.pinned (OpenSpec.upto fnExactCycleLengthsSpec)

/-- 'laws.FnPermutationLaws', WHERE WHAT IT READS IS OF BULK AT MOST 1048576: true; the input reads as it did. -/
def fnPermutationLawsUptoRow : OpenClaim := { program := "ytkcobfkmeaakoaa", sum := "babcf1a2fc456248d13cd60374ca142478ac4dcf9142ac62a932bff21431a485", func := "loop.example/g01119/laws.FnPermutationLaws", spec := "fnPermutationLaws", unfollowed := true, recurses := true, apart := false, narrowed := true }
def FnPermutationLawsUptoSaid : Prop := fnPermutationLawsUptoRow.holds Try.pinned (OpenSpec.upto fnPermutationLawsSpec)

/-- 'laws.FnInverseSolutions', WHERE WHAT IT READS IS OF BULK AT MOST 1048576: true; the input reads as it did. -/
def fnInverseSolutionsUptoRow : OpenClaim := { program := "ytkcobfkmeaakoaa", sum := "babcf1a2fc456248d13cd60374ca142478ac4dcf9142ac62a932bff21431a485", func := "loop.example/g01119/laws.FnInverseSolutions", spec := "fnInverseSolutions", unfollowed := true, recurses := true, apart := false, narrowed := true }
def FnInverseSolutionsUptoSaid : Prop := fnInverseSolutionsUptoRow.holds Try.pinned (OpenSpec.upto fnInverseSolutionsSpec)

end Rows
end Go.Proofs.Ytkcobfkmeaakoaa
