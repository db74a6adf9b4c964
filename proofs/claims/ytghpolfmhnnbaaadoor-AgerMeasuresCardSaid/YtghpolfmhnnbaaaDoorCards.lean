/-
  DERIVED. GIVEN WITH THE SEED: THE CARDS: each row of YtghpolfmhnnbaaaDoorRows.lean that lists a variable, with what it lists TIED to the program's text (the seventh form; the later family's looks); each row that meets fmt, with fmt's text TOLD by the authors' own Lean function (tested against real Go, not proved from fmt's source: count such statements apart). THE CARD IS WHAT COUNTS. Prove the row's statement (the work); the ties are given (YtghpolfmhnnbaaaDoorTie.lean); close each card by the builder's one call (the guide's Derived/Test/ToyasCard.lean, 'card_holds'). Laid BY PROGRAM, IN A SANDBOX (cutbox-door.mjs). By AI agents, Wed Nov 11 2026. No macro, syntax, notation, axiom, sorry.
-/
import Derived.Test.YtghpolfmhnnbaaaDoorRows
import GoSem.ClaimSeven
namespace Go.Proofs.YtghpolfmhnnbaaaDoor
namespace Rows

/-- THE TIED CARD OF 'stelelaw59.AgerMeasures'. -/
def agerMeasuresCard : Claim7 := { stood := { row := agerMeasuresRow, standIns := [], harness := (true, "4e99715261d8c925f1d8a1a34b0848007aa6a1520b0b2e4b050909e416dc8234"), looks := false }, kinds := [], alts := [], laidByText := true, laidKinds := [.data, .pinned], laidTests := true, laidLooks := .later }
def AgerMeasuresCardSaid : Prop := Claim7.holds Tryd.pinned (.plain (OpenSpec.ofChange agerMeasuresSpec)) agerMeasuresCard

/-- THE SECOND FORM's CARD OF 'stelelaw59.AgerMeasures'. -/
def agerMeasuresUptoCard : Claim7 := { stood := { row := agerMeasuresUptoRow, standIns := [], harness := (true, "4e99715261d8c925f1d8a1a34b0848007aa6a1520b0b2e4b050909e416dc8234"), looks := false }, kinds := [], alts := [], laidByText := true, laidKinds := [.data, .pinned], laidTests := true, laidLooks := .later }
def AgerMeasuresUptoCardSaid : Prop := Claim7.holds Tryd.pinned (.plain (OpenSpec.upto agerMeasuresSpec)) agerMeasuresUptoCard
end Rows
end Go.Proofs.YtghpolfmhnnbaaaDoor
