/-
  No cell of these rows narrows 'for every input' (looked for: loops, veiled, ifaces, maps, wideKeys, modest, calm, conditions, laid).
  DERIVED. THE GIVEN ROWS OF THIS SEAT. 3 by the template 'for every input the law returns true; each argument reads behind the call as it read before'; 0 by the template 'total and deterministic' (their statements: YtgmhnjccgldddaaTotals.lean).
  GIVEN WITH THE SEED: the statements are not yours to turn. If you find one false, say at which input.
  Laid BY PROGRAM, IN A SANDBOX (cutbox-rows.mjs): the forced cells as the released guide's own fill.sh prints them over the translation 9e804878d4fb1a64… (all of the seat's roots in one cut). By AI agents, Wed Nov 11 2026. No macro, syntax, notation, axiom, sorry.
-/
import Derived.Test.YtgmhnjccgldddaaChecked
import GoSem.Claim
import GoSem.ClaimJoined
import GoSem.ClaimMapViews
import Derived.JoinedTies
import Derived.KernelRfl
namespace Go.Proofs.Ytgmhnjccgldddaa
/- THE CELL 'sum', in the pinned program and in every row, IS THE sha256 OF THE DUMP (.gsa) THAT YtgmhnjccgldddaaProg.lean LOADS. Nothing in Lean hashes anything: it is a label: what it is worth is what the hold of that sum in a sandbox is worth. -/
noncomputable def Try.pinned : Pinned := { name := "ytgmhnjccgldddaa", sum := "9e804878d4fb1a64444e558ca7201905eea0dd17505313d161daed06bfdcfbc1", checked := Try.checked }
namespace Rows
def none {H : Type} : Left H := { results := [], args := [] }

/-- 'laws.FnExactSolutionIsomorphism': WHATEVER THE INPUT: true; the input reads as it did. -/
def fnExactSolutionIsomorphismSpec : ChangeSpec := { name := "fnExactSolutionIsomorphism", fn := fun _ => fun
  | [d1, d2] => { results := [.lit (.bool true)], args := [d1, d2] }
  | _ => none }
def fnExactSolutionIsomorphismRow : OpenClaim := { program := "ytgmhnjccgldddaa", sum := "9e804878d4fb1a64444e558ca7201905eea0dd17505313d161daed06bfdcfbc1", func := "loop.example/g01119/laws.FnExactSolutionIsomorphism", spec := "fnExactSolutionIsomorphism", unfollowed := true, recurses := true, apart := false }
def FnExactSolutionIsomorphismSaid : Prop := fnExactSolutionIsomorphismRow.holds Try.pinned (OpenSpec.ofChange fnExactSolutionIsomorphismSpec)

/-- ITS FALSE NEIGHBOUR: 'it returns false'. Refute it at one input. -/
def fnExactSolutionIsomorphismWrong : ChangeSpec := { name := "fnExactSolutionIsomorphism", fn := fun _ => fun
  | [d1, d2] => { results := [.lit (.bool false)], args := [d1, d2] }
  | _ => none }
def FnExactSolutionIsomorphismWrongFalsely : Prop := fnExactSolutionIsomorphismRow.holds Try.pinned (OpenSpec.ofChange fnExactSolutionIsomorphismWrong)

/-- 'laws.FnExactSolutionAutomorphisms': WHATEVER THE INPUT: true; the input reads as it did. -/
def fnExactSolutionAutomorphismsSpec : ChangeSpec := { name := "fnExactSolutionAutomorphisms", fn := fun _ => fun
  | [d] => { results := [.lit (.bool true)], args := [d] }
  | _ => none }
def fnExactSolutionAutomorphismsRow : OpenClaim := { program := "ytgmhnjccgldddaa", sum := "9e804878d4fb1a64444e558ca7201905eea0dd17505313d161daed06bfdcfbc1", func := "loop.example/g01119/laws.FnExactSolutionAutomorphisms", spec := "fnExactSolutionAutomorphisms", unfollowed := true, recurses := true, apart := false }
def FnExactSolutionAutomorphismsSaid : Prop := fnExactSolutionAutomorphismsRow.holds Try.pinned (OpenSpec.ofChange fnExactSolutionAutomorphismsSpec)

/-- ITS FALSE NEIGHBOUR: 'it returns false'. Refute it at one input. -/
def fnExactSolutionAutomorphismsWrong : ChangeSpec := { name := "fnExactSolutionAutomorphisms", fn := fun _ => fun
  | [d] => { results := [.lit (.bool false)], args := [d] }
  | _ => none }
def FnExactSolutionAutomorphismsWrongFalsely : Prop := fnExactSolutionAutomorphismsRow.holds Try.pinned (OpenSpec.ofChange fnExactSolutionAutomorphismsWrong)

/-- 'laws.FnSolutionForms': WHATEVER THE INPUT: true; the input reads as it did. -/
def fnSolutionFormsSpec : ChangeSpec := { name := "fnSolutionForms", fn := fun _ => fun
  | [d] => { results := [.lit (.bool true)], args := [d] }
  | _ => none }
def fnSolutionFormsRow : OpenClaim := { program := "ytgmhnjccgldddaa", sum := "9e804878d4fb1a64444e558ca7201905eea0dd17505313d161daed06bfdcfbc1", func := "loop.example/g01119/laws.FnSolutionForms", spec := "fnSolutionForms", unfollowed := true, recurses := true, apart := false }
def FnSolutionFormsSaid : Prop := fnSolutionFormsRow.holds Try.pinned (OpenSpec.ofChange fnSolutionFormsSpec)

/-- ITS FALSE NEIGHBOUR: 'it returns false'. Refute it at one input. -/
def fnSolutionFormsWrong : ChangeSpec := { name := "fnSolutionForms", fn := fun _ => fun
  | [d] => { results := [.lit (.bool false)], args := [d] }
  | _ => none }
def FnSolutionFormsWrongFalsely : Prop := fnSolutionFormsRow.holds Try.pinned (OpenSpec.ofChange fnSolutionFormsWrong)

/- THE SECOND FORM. 'bulk': how many values and letters a reading holds, each counted each time it is reached (what is shared counts as often as it is met; a slice's spare places count too). A statement '..UptoSaid' is the law's where the arguments, and the package variables that the reading takes, are together of bulk at most 1048576: NARROWER than '..Said'. Prove '..Said' where nothing that the law and all that it calls make is longer than what came in: it says more and counts as full. Else prove '..UptoSaid'. A law counts once. -/
mutual
def uptoBulk {H : Type} : DataW H → Nat
  | .lit (.string bytes) => bytes.length + 1
  | .lit _ => 1
  | .nil => 1
  | .ptr d => uptoBulk d + 1
  | .slice elems spare => uptoBulkAll elems + uptoBulkAll spare + 1
  | .agg parts => uptoBulkAll parts + 1
  | .iface _ d => uptoBulk d + 1
  | .map entries => uptoBulkEntries entries + 1
  | .held _ => 1
def uptoBulkAll {H : Type} : List (DataW H) → Nat
  | [] => 0
  | d :: r => uptoBulk d + uptoBulkAll r
def uptoBulkEntries {H : Type} : List (Lit × DataW H) → Nat
  | [] => 0
  | x :: r => uptoBulkEntry x + uptoBulkEntries r
def uptoBulkEntry {H : Type} : Lit × DataW H → Nat
  | (.string bytes, d) => bytes.length + uptoBulk d + 1
  | (_, d) => uptoBulk d + 1
 end
def uptoSmall : (H : Type) → List (DataW H) → Bool := fun _ ds => decide (uptoBulkAll ds ≤ 1048576)
def OpenSpec.upto (s : _root_.Go.ChangeSpec) : _root_.Go.OpenSpec := { _root_.Go.OpenSpec.ofChange s with cond := some uptoSmall }

/-- 'laws.FnExactSolutionIsomorphism', WHERE WHAT IT READS IS OF BULK AT MOST 1048576: true; the input reads as it did. -/
def fnExactSolutionIsomorphismUptoRow : OpenClaim := { program := "ytgmhnjccgldddaa", sum := "9e804878d4fb1a64444e558ca7201905eea0dd17505313d161daed06bfdcfbc1", func := "loop.example/g01119/laws.FnExactSolutionIsomorphism", spec := "fnExactSolutionIsomorphism", unfollowed := true, recurses := true, apart := false, narrowed := true }
def FnExactSolutionIsomorphismUptoSaid : Prop := fnExactSolutionIsomorphismUptoRow.holds Try.pinned (OpenSpec.upto fnExactSolutionIsomorphismSpec)

/-- 'laws.FnExactSolutionAutomorphisms', WHERE WHAT IT READS IS OF BULK AT MOST 1048576: true; the input reads as it did. -/
def fnExactSolutionAutomorphismsUptoRow : OpenClaim := { program := "ytgmhnjccgldddaa", sum := "9e804878d4fb1a64444e558ca7201905eea0dd17505313d161daed06bfdcfbc1", func := "loop.example/g01119/laws.FnExactSolutionAutomorphisms", spec := "fnExactSolutionAutomorphisms", unfollowed := true, recurses := true, apart := false, narrowed := true }
def FnExactSolutionAutomorphismsUptoSaid : Prop := fnExactSolutionAutomorphismsUptoRow.holds Try.pinned (OpenSpec.upto fnExactSolutionAutomorphismsSpec)

/-- 'laws.FnSolutionForms', WHERE WHAT IT READS IS OF BULK AT MOST 1048576: true; the input reads as it did. -/
def fnSolutionFormsUptoRow : OpenClaim := { program := "ytgmhnjccgldddaa", sum := "9e804878d4fb1a64444e558ca7201905eea0dd17505313d161daed06bfdcfbc1", func := "loop.example/g01119/laws.FnSolutionForms", spec := "fnSolutionForms", unfollowed := true, recurses := true, apart := false, narrowed := true }
def FnSolutionFormsUptoSaid : Prop := fnSolutionFormsUptoRow.holds Try.pinned (OpenSpec.upto fnSolutionFormsSpec)

end Rows
end Go.Proofs.Ytgmhnjccgldddaa
