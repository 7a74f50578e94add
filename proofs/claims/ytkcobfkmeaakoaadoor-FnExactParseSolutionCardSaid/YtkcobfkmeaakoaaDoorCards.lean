/-
  DERIVED. GIVEN WITH THE SEED: THE CARDS: each row of YtkcobfkmeaakoaaDoorRows.lean that lists a variable, with what it lists TIED to the program's text (the seventh form; the later family's looks); each row that meets fmt, with fmt's text TOLD by the authors' own Lean function (tested against real Go, not proved from fmt's source: count such statements apart). THE CARD IS WHAT COUNTS. Prove the row's statement (the work); the ties are given (YtkcobfkmeaakoaaDoorTie.lean); close each card by the builder's one call (the guide's Derived/Test/ToyasCard.lean, 'card_holds'). Laid BY PROGRAM, IN A SANDBOX (cutbox-door.mjs). By AI agents, Wed Nov 11 2026. No macro, syntax, notation, axiom, sorry.
-/
import Derived.Test.YtkcobfkmeaakoaaDoorRows
import GoSem.ClaimSeven
namespace Go.Proofs.YtkcobfkmeaakoaaDoor
namespace Rows

/-- THE TIED CARD OF 'laws.FnExactParseTable'. -/
def fnExactParseTableCard : Claim7 := { stood := { row := fnExactParseTableRow, standIns := [], harness := (true, "4695ff1e24528c2eba4a28209aa2ffa4e3cb5ce7aeab2122754a0fe6aa844a5d"), looks := false }, kinds := [], alts := [], laidByText := true, laidKinds := [.data, .pinned], laidTests := true, laidLooks := .later }
def FnExactParseTableCardSaid : Prop := Claim7.holds Tryd.pinned (.plain (OpenSpec.ofChange fnExactParseTableSpec)) fnExactParseTableCard

/-- THE TIED CARD OF 'laws.FnExactParseSolution'. -/
def fnExactParseSolutionCard : Claim7 := { stood := { row := fnExactParseSolutionRow, standIns := [], harness := (true, "4695ff1e24528c2eba4a28209aa2ffa4e3cb5ce7aeab2122754a0fe6aa844a5d"), looks := false }, kinds := [], alts := [], laidByText := true, laidKinds := [.data, .pinned], laidTests := true, laidLooks := .later }
def FnExactParseSolutionCardSaid : Prop := Claim7.holds Tryd.pinned (.plain (OpenSpec.ofChange fnExactParseSolutionSpec)) fnExactParseSolutionCard

/-- THE SECOND FORM's CARD OF 'laws.FnExactParseTable'. -/
def fnExactParseTableUptoCard : Claim7 := { stood := { row := fnExactParseTableUptoRow, standIns := [], harness := (true, "4695ff1e24528c2eba4a28209aa2ffa4e3cb5ce7aeab2122754a0fe6aa844a5d"), looks := false }, kinds := [], alts := [], laidByText := true, laidKinds := [.data, .pinned], laidTests := true, laidLooks := .later }
def FnExactParseTableUptoCardSaid : Prop := Claim7.holds Tryd.pinned (.plain (OpenSpec.upto fnExactParseTableSpec)) fnExactParseTableUptoCard

/-- THE SECOND FORM's CARD OF 'laws.FnExactParseSolution'. -/
def fnExactParseSolutionUptoCard : Claim7 := { stood := { row := fnExactParseSolutionUptoRow, standIns := [], harness := (true, "4695ff1e24528c2eba4a28209aa2ffa4e3cb5ce7aeab2122754a0fe6aa844a5d"), looks := false }, kinds := [], alts := [], laidByText := true, laidKinds := [.data, .pinned], laidTests := true, laidLooks := .later }
def FnExactParseSolutionUptoCardSaid : Prop := Claim7.holds Tryd.pinned (.plain (OpenSpec.upto fnExactParseSolutionSpec)) fnExactParseSolutionUptoCard
end Rows
end Go.Proofs.YtkcobfkmeaakoaaDoor
