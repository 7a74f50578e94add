/-
  DERIVED. GIVEN WITH THE SEED: THE CARDS: each row of YtnbhghgkjcfcmaaDoorRows.lean that lists a variable, with what it lists TIED to the program's text (the seventh form; the later family's looks); each row that meets fmt, with fmt's text TOLD by the authors' own Lean function (tested against real Go, not proved from fmt's source: count such statements apart). THE CARD IS WHAT COUNTS. Prove the row's statement (the work); the ties are given (YtnbhghgkjcfcmaaDoorTie.lean); close each card by the builder's one call (the guide's Derived/Test/ToyasCard.lean, 'card_holds'). Laid BY PROGRAM, IN A SANDBOX (cutbox-door.mjs). By AI agents, Wed Nov 11 2026. No macro, syntax, notation, axiom, sorry.
-/
import Derived.Test.YtnbhghgkjcfcmaaDoorRows
import GoSem.ClaimSeven
namespace Go.Proofs.YtnbhghgkjcfcmaaDoor
namespace Rows

/-- THE TIED CARD OF 'laws.FnTableTexts'. -/
def fnTableTextsCard : Claim7 := { stood := { row := fnTableTextsRow, standIns := [], harness := (true, "ce81c468c007522490446823434d96eade27ddac18af196aec7eec96ae96d661"), looks := false }, kinds := [], alts := [], laidByText := true, laidKinds := [.data, .pinned], laidTests := true, laidLooks := .later }
def FnTableTextsCardSaid : Prop := Claim7.holds Tryd.pinned (.plain (OpenSpec.ofChange fnTableTextsSpec)) fnTableTextsCard

/-- THE TIED CARD OF 'laws.FnSolutionTexts'. -/
def fnSolutionTextsCard : Claim7 := { stood := { row := fnSolutionTextsRow, standIns := [], harness := (true, "ce81c468c007522490446823434d96eade27ddac18af196aec7eec96ae96d661"), looks := false }, kinds := [], alts := [], laidByText := true, laidKinds := [.data, .pinned], laidTests := true, laidLooks := .later }
def FnSolutionTextsCardSaid : Prop := Claim7.holds Tryd.pinned (.plain (OpenSpec.ofChange fnSolutionTextsSpec)) fnSolutionTextsCard

/-- THE SECOND FORM's CARD OF 'laws.FnTableTexts'. -/
def fnTableTextsUptoCard : Claim7 := { stood := { row := fnTableTextsUptoRow, standIns := [], harness := (true, "ce81c468c007522490446823434d96eade27ddac18af196aec7eec96ae96d661"), looks := false }, kinds := [], alts := [], laidByText := true, laidKinds := [.data, .pinned], laidTests := true, laidLooks := .later }
def FnTableTextsUptoCardSaid : Prop := Claim7.holds Tryd.pinned (.plain (OpenSpec.upto fnTableTextsSpec)) fnTableTextsUptoCard

/-- THE SECOND FORM's CARD OF 'laws.FnSolutionTexts'. -/
def fnSolutionTextsUptoCard : Claim7 := { stood := { row := fnSolutionTextsUptoRow, standIns := [], harness := (true, "ce81c468c007522490446823434d96eade27ddac18af196aec7eec96ae96d661"), looks := false }, kinds := [], alts := [], laidByText := true, laidKinds := [.data, .pinned], laidTests := true, laidLooks := .later }
def FnSolutionTextsUptoCardSaid : Prop := Claim7.holds Tryd.pinned (.plain (OpenSpec.upto fnSolutionTextsSpec)) fnSolutionTextsUptoCard
end Rows
end Go.Proofs.YtnbhghgkjcfcmaaDoor
