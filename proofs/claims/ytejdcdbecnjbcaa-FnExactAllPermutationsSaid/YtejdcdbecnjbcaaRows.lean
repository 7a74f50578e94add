/-
  No cell of these rows narrows 'for every input' (looked for: loops, veiled, ifaces, maps, wideKeys, modest, calm, conditions, laid).
  DERIVED. THE GIVEN ROWS OF THIS SEAT. 12 by the template 'for every input the law returns true; each argument reads behind the call as it read before'; 0 by the template 'total and deterministic' (their statements: YtejdcdbecnjbcaaTotals.lean).
  GIVEN WITH THE SEED: the statements are not yours to turn. If you find one false, say at which input.
  Laid BY PROGRAM, IN A SANDBOX (cutbox-rows.mjs): the forced cells as the released guide's own fill.sh prints them over the translation d46d9bc82ed56f18… (all of the seat's roots in one cut). By AI agents, Wed Nov 11 2026. No macro, syntax, notation, axiom, sorry.
-/
import Derived.Test.YtejdcdbecnjbcaaChecked
import GoSem.Claim
import GoSem.ClaimJoined
import GoSem.ClaimMapViews
import Derived.JoinedTies
import Derived.KernelRfl
namespace Go.Proofs.Ytejdcdbecnjbcaa
/- THE CELL 'sum', in the pinned program and in every row, IS THE sha256 OF THE DUMP (.gsa) THAT YtejdcdbecnjbcaaProg.lean LOADS. Nothing in Lean hashes anything: it is a label: what it is worth is what the hold of that sum in a sandbox is worth. -/
noncomputable def Try.pinned : Pinned := { name := "ytejdcdbecnjbcaa", sum := "d46d9bc82ed56f18f445d2fb527a75f72d3717c9c5d51edee41d0e3164b3c81a", checked := Try.checked }
namespace Rows
def none {H : Type} : Left H := { results := [], args := [] }

/-- 'laws.FnExactConstants': WHATEVER THE INPUT: true; the input reads as it did. -/
def fnExactConstantsSpec : ChangeSpec := { name := "fnExactConstants", fn := fun _ => fun
  | [] => { results := [.lit (.bool true)], args := [] }
  | _ => none }
def fnExactConstantsRow : OpenClaim := { program := "ytejdcdbecnjbcaa", sum := "d46d9bc82ed56f18f445d2fb527a75f72d3717c9c5d51edee41d0e3164b3c81a", func := "loop.example/g01119/laws.FnExactConstants", spec := "fnExactConstants", apart := false }
def FnExactConstantsSaid : Prop := fnExactConstantsRow.holds Try.pinned (OpenSpec.ofChange fnExactConstantsSpec)

/-- ITS FALSE NEIGHBOUR: 'it returns false'. Refute it at one input. -/
def fnExactConstantsWrong : ChangeSpec := { name := "fnExactConstants", fn := fun _ => fun
  | [] => { results := [.lit (.bool false)], args := [] }
  | _ => none }
def FnExactConstantsWrongFalsely : Prop := fnExactConstantsRow.holds Try.pinned (OpenSpec.ofChange fnExactConstantsWrong)

/-- 'laws.FnExactIsPermutation': WHATEVER THE INPUT: true; the input reads as it did. -/
def fnExactIsPermutationSpec : ChangeSpec := { name := "fnExactIsPermutation", fn := fun _ => fun
  | [d] => { results := [.lit (.bool true)], args := [d] }
  | _ => none }
def fnExactIsPermutationRow : OpenClaim := { program := "ytejdcdbecnjbcaa", sum := "d46d9bc82ed56f18f445d2fb527a75f72d3717c9c5d51edee41d0e3164b3c81a", func := "loop.example/g01119/laws.FnExactIsPermutation", spec := "fnExactIsPermutation", apart := false }
def FnExactIsPermutationSaid : Prop := fnExactIsPermutationRow.holds Try.pinned (OpenSpec.ofChange fnExactIsPermutationSpec)

/-- ITS FALSE NEIGHBOUR: 'it returns false'. Refute it at one input. -/
def fnExactIsPermutationWrong : ChangeSpec := { name := "fnExactIsPermutation", fn := fun _ => fun
  | [d] => { results := [.lit (.bool false)], args := [d] }
  | _ => none }
def FnExactIsPermutationWrongFalsely : Prop := fnExactIsPermutationRow.holds Try.pinned (OpenSpec.ofChange fnExactIsPermutationWrong)

/-- 'laws.FnExactPermutationText': WHATEVER THE INPUT: true; the input reads as it did. -/
def fnExactPermutationTextSpec : ChangeSpec := { name := "fnExactPermutationText", fn := fun _ => fun
  | [d] => { results := [.lit (.bool true)], args := [d] }
  | _ => none }
def fnExactPermutationTextRow : OpenClaim := { program := "ytejdcdbecnjbcaa", sum := "d46d9bc82ed56f18f445d2fb527a75f72d3717c9c5d51edee41d0e3164b3c81a", func := "loop.example/g01119/laws.FnExactPermutationText", spec := "fnExactPermutationText", apart := false }
def FnExactPermutationTextSaid : Prop := fnExactPermutationTextRow.holds Try.pinned (OpenSpec.ofChange fnExactPermutationTextSpec)

/-- ITS FALSE NEIGHBOUR: 'it returns false'. Refute it at one input. -/
def fnExactPermutationTextWrong : ChangeSpec := { name := "fnExactPermutationText", fn := fun _ => fun
  | [d] => { results := [.lit (.bool false)], args := [d] }
  | _ => none }
def FnExactPermutationTextWrongFalsely : Prop := fnExactPermutationTextRow.holds Try.pinned (OpenSpec.ofChange fnExactPermutationTextWrong)

/-- 'laws.FnExactInversePermutation': WHATEVER THE INPUT: true; the input reads as it did. -/
def fnExactInversePermutationSpec : ChangeSpec := { name := "fnExactInversePermutation", fn := fun _ => fun
  | [d] => { results := [.lit (.bool true)], args := [d] }
  | _ => none }
def fnExactInversePermutationRow : OpenClaim := { program := "ytejdcdbecnjbcaa", sum := "d46d9bc82ed56f18f445d2fb527a75f72d3717c9c5d51edee41d0e3164b3c81a", func := "loop.example/g01119/laws.FnExactInversePermutation", spec := "fnExactInversePermutation", apart := false }
def FnExactInversePermutationSaid : Prop := fnExactInversePermutationRow.holds Try.pinned (OpenSpec.ofChange fnExactInversePermutationSpec)

/-- ITS FALSE NEIGHBOUR: 'it returns false'. Refute it at one input. -/
def fnExactInversePermutationWrong : ChangeSpec := { name := "fnExactInversePermutation", fn := fun _ => fun
  | [d] => { results := [.lit (.bool false)], args := [d] }
  | _ => none }
def FnExactInversePermutationWrongFalsely : Prop := fnExactInversePermutationRow.holds Try.pinned (OpenSpec.ofChange fnExactInversePermutationWrong)

/-- 'laws.FnExactThenPermutation': WHATEVER THE INPUT: true; the input reads as it did. -/
def fnExactThenPermutationSpec : ChangeSpec := { name := "fnExactThenPermutation", fn := fun _ => fun
  | [d1, d2] => { results := [.lit (.bool true)], args := [d1, d2] }
  | _ => none }
def fnExactThenPermutationRow : OpenClaim := { program := "ytejdcdbecnjbcaa", sum := "d46d9bc82ed56f18f445d2fb527a75f72d3717c9c5d51edee41d0e3164b3c81a", func := "loop.example/g01119/laws.FnExactThenPermutation", spec := "fnExactThenPermutation", apart := false }
def FnExactThenPermutationSaid : Prop := fnExactThenPermutationRow.holds Try.pinned (OpenSpec.ofChange fnExactThenPermutationSpec)

/-- ITS FALSE NEIGHBOUR: 'it returns false'. Refute it at one input. -/
def fnExactThenPermutationWrong : ChangeSpec := { name := "fnExactThenPermutation", fn := fun _ => fun
  | [d1, d2] => { results := [.lit (.bool false)], args := [d1, d2] }
  | _ => none }
def FnExactThenPermutationWrongFalsely : Prop := fnExactThenPermutationRow.holds Try.pinned (OpenSpec.ofChange fnExactThenPermutationWrong)

/-- 'laws.FnExactIsTable': WHATEVER THE INPUT: true; the input reads as it did. -/
def fnExactIsTableSpec : ChangeSpec := { name := "fnExactIsTable", fn := fun _ => fun
  | [d] => { results := [.lit (.bool true)], args := [d] }
  | _ => none }
def fnExactIsTableRow : OpenClaim := { program := "ytejdcdbecnjbcaa", sum := "d46d9bc82ed56f18f445d2fb527a75f72d3717c9c5d51edee41d0e3164b3c81a", func := "loop.example/g01119/laws.FnExactIsTable", spec := "fnExactIsTable", unfollowed := true, recurses := true, apart := false }
def FnExactIsTableSaid : Prop := fnExactIsTableRow.holds Try.pinned (OpenSpec.ofChange fnExactIsTableSpec)

/-- ITS FALSE NEIGHBOUR: 'it returns false'. Refute it at one input. -/
def fnExactIsTableWrong : ChangeSpec := { name := "fnExactIsTable", fn := fun _ => fun
  | [d] => { results := [.lit (.bool false)], args := [d] }
  | _ => none }
def FnExactIsTableWrongFalsely : Prop := fnExactIsTableRow.holds Try.pinned (OpenSpec.ofChange fnExactIsTableWrong)

/-- 'laws.FnExactParsePermutation': WHATEVER THE INPUT: true; the input reads as it did. -/
def fnExactParsePermutationSpec : ChangeSpec := { name := "fnExactParsePermutation", fn := fun _ => fun
  | [d] => { results := [.lit (.bool true)], args := [d] }
  | _ => none }
def fnExactParsePermutationRow : OpenClaim := { program := "ytejdcdbecnjbcaa", sum := "d46d9bc82ed56f18f445d2fb527a75f72d3717c9c5d51edee41d0e3164b3c81a", func := "loop.example/g01119/laws.FnExactParsePermutation", spec := "fnExactParsePermutation", inPlace := ["internal/bytealg.IndexByteString"], apart := false }
def FnExactParsePermutationSaid : Prop := fnExactParsePermutationRow.holds Try.pinned (OpenSpec.ofChange fnExactParsePermutationSpec)

/-- ITS FALSE NEIGHBOUR: 'it returns false'. Refute it at one input. -/
def fnExactParsePermutationWrong : ChangeSpec := { name := "fnExactParsePermutation", fn := fun _ => fun
  | [d] => { results := [.lit (.bool false)], args := [d] }
  | _ => none }
def FnExactParsePermutationWrongFalsely : Prop := fnExactParsePermutationRow.holds Try.pinned (OpenSpec.ofChange fnExactParsePermutationWrong)

/-- 'laws.FnExactPermutationOrder': WHATEVER THE INPUT: true; the input reads as it did. -/
def fnExactPermutationOrderSpec : ChangeSpec := { name := "fnExactPermutationOrder", fn := fun _ => fun
  | [d] => { results := [.lit (.bool true)], args := [d] }
  | _ => none }
def fnExactPermutationOrderRow : OpenClaim := { program := "ytejdcdbecnjbcaa", sum := "d46d9bc82ed56f18f445d2fb527a75f72d3717c9c5d51edee41d0e3164b3c81a", func := "loop.example/g01119/laws.FnExactPermutationOrder", spec := "fnExactPermutationOrder", apart := false }
def FnExactPermutationOrderSaid : Prop := fnExactPermutationOrderRow.holds Try.pinned (OpenSpec.ofChange fnExactPermutationOrderSpec)

/-- ITS FALSE NEIGHBOUR: 'it returns false'. Refute it at one input. -/
def fnExactPermutationOrderWrong : ChangeSpec := { name := "fnExactPermutationOrder", fn := fun _ => fun
  | [d] => { results := [.lit (.bool false)], args := [d] }
  | _ => none }
def FnExactPermutationOrderWrongFalsely : Prop := fnExactPermutationOrderRow.holds Try.pinned (OpenSpec.ofChange fnExactPermutationOrderWrong)

/-- 'laws.FnExactIsPairMap': WHATEVER THE INPUT: true; the input reads as it did. -/
def fnExactIsPairMapSpec : ChangeSpec := { name := "fnExactIsPairMap", fn := fun _ => fun
  | [d] => { results := [.lit (.bool true)], args := [d] }
  | _ => none }
def fnExactIsPairMapRow : OpenClaim := { program := "ytejdcdbecnjbcaa", sum := "d46d9bc82ed56f18f445d2fb527a75f72d3717c9c5d51edee41d0e3164b3c81a", func := "loop.example/g01119/laws.FnExactIsPairMap", spec := "fnExactIsPairMap", unfollowed := true, recurses := true, apart := false }
def FnExactIsPairMapSaid : Prop := fnExactIsPairMapRow.holds Try.pinned (OpenSpec.ofChange fnExactIsPairMapSpec)

/-- ITS FALSE NEIGHBOUR: 'it returns false'. Refute it at one input. -/
def fnExactIsPairMapWrong : ChangeSpec := { name := "fnExactIsPairMap", fn := fun _ => fun
  | [d] => { results := [.lit (.bool false)], args := [d] }
  | _ => none }
def FnExactIsPairMapWrongFalsely : Prop := fnExactIsPairMapRow.holds Try.pinned (OpenSpec.ofChange fnExactIsPairMapWrong)

/-- 'laws.FnExactAllPermutations': WHATEVER THE INPUT: true; the input reads as it did. -/
def fnExactAllPermutationsSpec : ChangeSpec := { name := "fnExactAllPermutations", fn := fun _ => fun
  | [d] => { results := [.lit (.bool true)], args := [d] }
  | _ => none }
def fnExactAllPermutationsRow : OpenClaim := { program := "ytejdcdbecnjbcaa", sum := "d46d9bc82ed56f18f445d2fb527a75f72d3717c9c5d51edee41d0e3164b3c81a", func := "loop.example/g01119/laws.FnExactAllPermutations", spec := "fnExactAllPermutations", unfollowed := true, recurses := true, apart := false }
def FnExactAllPermutationsSaid : Prop := fnExactAllPermutationsRow.holds Try.pinned (OpenSpec.ofChange fnExactAllPermutationsSpec)

/-- ITS FALSE NEIGHBOUR: 'it returns false'. Refute it at one input. -/
def fnExactAllPermutationsWrong : ChangeSpec := { name := "fnExactAllPermutations", fn := fun _ => fun
  | [d] => { results := [.lit (.bool false)], args := [d] }
  | _ => none }
def FnExactAllPermutationsWrongFalsely : Prop := fnExactAllPermutationsRow.holds Try.pinned (OpenSpec.ofChange fnExactAllPermutationsWrong)

/-- 'laws.FnExactFlipSolution': WHATEVER THE INPUT: true; the input reads as it did. -/
def fnExactFlipSolutionSpec : ChangeSpec := { name := "fnExactFlipSolution", fn := fun _ => fun
  | [d] => { results := [.lit (.bool true)], args := [d] }
  | _ => none }
def fnExactFlipSolutionRow : OpenClaim := { program := "ytejdcdbecnjbcaa", sum := "d46d9bc82ed56f18f445d2fb527a75f72d3717c9c5d51edee41d0e3164b3c81a", func := "loop.example/g01119/laws.FnExactFlipSolution", spec := "fnExactFlipSolution", unfollowed := true, recurses := true, apart := false }
def FnExactFlipSolutionSaid : Prop := fnExactFlipSolutionRow.holds Try.pinned (OpenSpec.ofChange fnExactFlipSolutionSpec)

/-- ITS FALSE NEIGHBOUR: 'it returns false'. Refute it at one input. -/
def fnExactFlipSolutionWrong : ChangeSpec := { name := "fnExactFlipSolution", fn := fun _ => fun
  | [d] => { results := [.lit (.bool false)], args := [d] }
  | _ => none }
def FnExactFlipSolutionWrongFalsely : Prop := fnExactFlipSolutionRow.holds Try.pinned (OpenSpec.ofChange fnExactFlipSolutionWrong)

/-- 'laws.FnExactApplyPair': WHATEVER THE INPUT: true; the input reads as it did. -/
def fnExactApplyPairSpec : ChangeSpec := { name := "fnExactApplyPair", fn := fun _ => fun
  | [d1, d2, d3] => { results := [.lit (.bool true)], args := [d1, d2, d3] }
  | _ => none }
def fnExactApplyPairRow : OpenClaim := { program := "ytejdcdbecnjbcaa", sum := "d46d9bc82ed56f18f445d2fb527a75f72d3717c9c5d51edee41d0e3164b3c81a", func := "loop.example/g01119/laws.FnExactApplyPair", spec := "fnExactApplyPair", unfollowed := true, recurses := true, apart := false }
def FnExactApplyPairSaid : Prop := fnExactApplyPairRow.holds Try.pinned (OpenSpec.ofChange fnExactApplyPairSpec)

/-- ITS FALSE NEIGHBOUR: 'it returns false'. Refute it at one input. -/
def fnExactApplyPairWrong : ChangeSpec := { name := "fnExactApplyPair", fn := fun _ => fun
  | [d1, d2, d3] => { results := [.lit (.bool false)], args := [d1, d2, d3] }
  | _ => none }
def FnExactApplyPairWrongFalsely : Prop := fnExactApplyPairRow.holds Try.pinned (OpenSpec.ofChange fnExactApplyPairWrong)

/- THE SECOND FORM. 'bulk': how many values and letters a reading holds, each counted each time it is reached (what is shared counts as often as it is met; a slice's spare places count too). A statement '..UptoSaid' is the law's where the arguments, and the package variables that the reading takes, are together of bulk at most 1048576: NARROWER than '..Said'. Prove '..Said' where nothing that the law and all that it calls make is longer than what came in: it says more and counts as full. Else prove '..UptoSaid'. A law counts once. -/
mutual
def uptoBulk {H : Type} : DataW H → Nat
  | .lit (.string bytes) => bytes.length + 1
  | .lit _ => 1
  | .nil => 1
  | .ptr d => uptoBulk d + 1
  | .slice elems spare => uptoBulkAll elems + uptoBulkAll spare + 1
  | .agg parts => uptoBulkAll parts + 1
  | .iface _ d => uptoBulk d + 1
  | .map entries => uptoBulkEntries entries + 1
  | .held _ => 1
def uptoBulkAll {H : Type} : List (DataW H) → Nat
  | [] => 0
  | d :: r => uptoBulk d + uptoBulkAll r
def uptoBulkEntries {H : Type} : List (Lit × DataW H) → Nat
  | [] => 0
  | x :: r => uptoBulkEntry x + uptoBulkEntries r
def uptoBulkEntry {H : Type} : Lit × DataW H → Nat
  | (.string bytes, d) => bytes.length + uptoBulk d + 1
  | (_, d) => uptoBulk d + 1
 end
def uptoSmall : (H : Type) → List (DataW H) → Bool := fun _ ds => decide (uptoBulkAll ds ≤ 1048576)
def OpenSpec.upto (s : _root_.Go.ChangeSpec) : _root_.Go.OpenSpec := { _root_.Go.OpenSpec.ofChange s with cond := some uptoSmall }

/-- 'laws.FnExactConstants', WHERE WHAT IT READS IS OF BULK AT MOST 1048576: true; the input reads as it did. -/
def fnExactConstantsUptoRow : OpenClaim := { program := "ytejdcdbecnjbcaa", sum := "d46d9bc82ed56f18f445d2fb527a75f72d3717c9c5d51edee41d0e3164b3c81a", func := "loop.example/g01119/laws.FnExactConstants", spec := "fnExactConstants", apart := false, narrowed := true }
def FnExactConstantsUptoSaid : Prop := fnExactConstantsUptoRow.holds Try.pinned (OpenSpec.upto fnExactConstantsSpec)

/-- 'laws.FnExactIsPermutation', WHERE WHAT IT READS IS OF BULK AT MOST 1048576: true; the input reads as it did. -/
def fnExactIsPermutationUptoRow : OpenClaim := { program := "ytejdcdbecnjbcaa", sum := "d46d9bc82ed56f18f445d2fb527a75f72d3717c9c5d51edee41d0e3164b3c81a", func := "loop.example/g01119/laws.FnExactIsPermutation", spec := "fnExactIsPermutation", apart := false, narrowed := true }
def FnExactIsPermutationUptoSaid : Prop := fnExactIsPermutationUptoRow.holds Try.pinned (OpenSpec.upto fnExactIsPermutationSpec)

/-- 'laws.FnExactPermutationText', WHERE WHAT IT READS IS OF BULK AT MOST 1048576: true; the input reads as it did. -/
def fnExactPermutationTextUptoRow : OpenClaim := { program := "ytejdcdbecnjbcaa", sum := "d46d9bc82ed56f18f445d2fb527a75f72d3717c9c5d51edee41d0e3164b3c81a", func := "loop.example/g01119/laws.FnExactPermutationText", spec := "fnExactPermutationText", apart := false, narrowed := true }
def FnExactPermutationTextUptoSaid : Prop := fnExactPermutationTextUptoRow.holds Try.pinned (OpenSpec.upto fnExactPermutationTextSpec)

/-- 'laws.FnExactInversePermutation', WHERE WHAT IT READS IS OF BULK AT MOST 1048576: true; the input reads as it did. -/
def fnExactInversePermutationUptoRow : OpenClaim := { program := "ytejdcdbecnjbcaa", sum := "d46d9bc82ed56f18f445d2fb527a75f72d3717c9c5d51edee41d0e3164b3c81a", func := "loop.example/g01119/laws.FnExactInversePermutation", spec := "fnExactInversePermutation", apart := false, narrowed := true }
def FnExactInversePermutationUptoSaid : Prop := fnExactInversePermutationUptoRow.holds Try.pinned (OpenSpec.upto fnExactInversePermutationSpec)

/-- 'laws.FnExactThenPermutation', WHERE WHAT IT READS IS OF BULK AT MOST 1048576: true; the input reads as it did. -/
def fnExactThenPermutationUptoRow : OpenClaim := { program := "ytejdcdbecnjbcaa", sum := "d46d9bc82ed56f18f445d2fb527a75f72d3717c9c5d51edee41d0e3164b3c81a", func := "loop.example/g01119/laws.FnExactThenPermutation", spec := "fnExactThenPermutation", apart := false, narrowed := true }
def FnExactThenPermutationUptoSaid : Prop := fnExactThenPermutationUptoRow.holds Try.pinned (OpenSpec.upto fnExactThenPermutationSpec)

/-- 'laws.FnExactIsTable', WHERE WHAT IT READS IS OF BULK AT MOST 1048576: true; the input reads as it did. -/
def fnExactIsTableUptoRow : OpenClaim := { program := "ytejdcdbecnjbcaa", sum := "d46d9bc82ed56f18f445d2fb527a75f72d3717c9c5d51edee41d0e3164b3c81a", func := "loop.example/g01119/laws.FnExactIsTable", spec := "fnExactIsTable", unfollowed := true, recurses := true, apart := false, narrowed := true }
def FnExactIsTableUptoSaid : Prop := fnExactIsTableUptoRow.holds Try.pinned (OpenSpec.upto fnExactIsTableSpec)

/-- 'laws.FnExactParsePermutation', WHERE WHAT IT READS IS OF BULK AT MOST 1048576: true; the input reads as it did. -/
def fnExactParsePermutationUptoRow : OpenClaim := { program := "ytejdcdbecnjbcaa", sum := "d46d9bc82ed56f18f445d2fb527a75f72d3717c9c5d51edee41d0e3164b3c81a", func := "loop.example/g01119/laws.FnExactParsePermutation", spec := "fnExactParsePermutation", inPlace := ["internal/bytealg.IndexByteString"], apart := false, narrowed := true }
def FnExactParsePermutationUptoSaid : Prop := fnExactParsePermutationUptoRow.holds Try.pinned (OpenSpec.upto fnExactParsePermutationSpec)

/-- 'laws.FnExactPermutationOrder', WHERE WHAT IT READS IS OF BULK AT MOST 1048576: true; the input reads as it did. -/
def fnExactPermutationOrderUptoRow : OpenClaim := { program := "ytejdcdbecnjbcaa", sum := "d46d9bc82ed56f18f445d2fb527a75f72d3717c9c5d51edee41d0e3164b3c81a", func := "loop.example/g01119/laws.FnExactPermutationOrder", spec := "fnExactPermutationOrder", apart := false, narrowed := true }
def FnExactPermutationOrderUptoSaid : Prop := fnExactPermutationOrderUptoRow.holds Try.pinned (OpenSpec.upto fnExactPermutationOrderSpec)

/-- 'laws.FnExactIsPairMap', WHERE WHAT IT READS IS OF BULK AT MOST 1048576: true; the input reads as it did. -/
def fnExactIsPairMapUptoRow : OpenClaim := { program := "ytejdcdbecnjbcaa", sum := "d46d9bc82ed56f18f445d2fb527a75f72d3717c9c5d51edee41d0e3164b3c81a", func := "loop.example/g01119/laws.FnExactIsPairMap", spec := "fnExactIsPairMap", unfollowed := true, recurses := true, apart := false, narrowed := true }
def FnExactIsPairMapUptoSaid : Prop := fnExactIsPairMapUptoRow.holds Try.pinned (OpenSpec.upto fnExactIsPairMapSpec)

/-- 'laws.FnExactAllPermutations', WHERE WHAT IT READS IS OF BULK AT MOST 1048576: true; the input reads as it did. -/
def fnExactAllPermutationsUptoRow : OpenClaim := { program := "ytejdcdbecnjbcaa", sum := "d46d9bc82ed56f18f445d2fb527a75f72d3717c9c5d51edee41d0e3164b3c81a", func := "loop.example/g01119/laws.FnExactAllPermutations", spec := "fnExactAllPermutations", unfollowed := true, recurses := true, apart := false, narrowed := true }
def FnExactAllPermutationsUptoSaid : Prop := fnExactAllPermutationsUptoRow.holds Try.pinned (OpenSpec.upto fnExactAllPermutationsSpec)

/-- 'laws.FnExactFlipSolution', WHERE WHAT IT READS IS OF BULK AT MOST 1048576: true; the input reads as it did. -/
def fnExactFlipSolutionUptoRow : OpenClaim := { program := "ytejdcdbecnjbcaa", sum := "d46d9bc82ed56f18f445d2fb527a75f72d3717c9c5d51edee41d0e3164b3c81a", func := "loop.example/g01119/laws.FnExactFlipSolution", spec := "fnExactFlipSolution", unfollowed := true, recurses := true, apart := false, narrowed := true }
def FnExactFlipSolutionUptoSaid : Prop := fnExactFlipSolutionUptoRow.holds Try.pinned (OpenSpec.upto fnExactFlipSolutionSpec)

/-- 'laws.FnExactApplyPair', WHERE WHAT IT READS IS OF BULK AT MOST 1048576: true; the input reads as it did. -/
def fnExactApplyPairUptoRow : OpenClaim := { program := "ytejdcdbecnjbcaa", sum := "d46d9bc82ed56f18f445d2fb527a75f72d3717c9c5d51edee41d0e3164b3c81a", func := "loop.example/g01119/laws.FnExactApplyPair", spec := "fnExactApplyPair", unfollowed := true, recurses := true, apart := false, narrowed := true }
def FnExactApplyPairUptoSaid : Prop := fnExactApplyPairUptoRow.holds Try.pinned (OpenSpec.upto fnExactApplyPairSpec)

end Rows
end Go.Proofs.Ytejdcdbecnjbcaa
