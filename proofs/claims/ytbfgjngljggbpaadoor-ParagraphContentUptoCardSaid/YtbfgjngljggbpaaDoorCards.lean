/-
  DERIVED. GIVEN WITH THE SEED: THE CARDS: each row of YtbfgjngljggbpaaDoorRows.lean that lists a variable, with what it lists TIED to the program's text (the seventh form; the later family's looks); each row that meets fmt, with fmt's text TOLD by the authors' own Lean function (tested against real Go, not proved from fmt's source: count such statements apart). THE CARD IS WHAT COUNTS. Prove the row's statement (the work); the ties are given (YtbfgjngljggbpaaDoorTie.lean); close each card by the builder's one call (the guide's Derived/Test/ToyasCard.lean, 'card_holds'). Laid BY PROGRAM, IN A SANDBOX (cutbox-door.mjs). By AI agents, Wed Nov 11 2026. No macro, syntax, notation, axiom, sorry.
-/
import Derived.Test.YtbfgjngljggbpaaDoorRows
import GoSem.ClaimSeven
namespace Go.Proofs.YtbfgjngljggbpaaDoor
namespace Rows

/-- THE TIED CARD OF 'stelelaw50.ParagraphStable'. -/
def paragraphStableCard : Claim7 := { stood := { row := paragraphStableRow, standIns := [], harness := (true, "6569fd2aa653ec0d8beab54ba14cc0f1d6cccba9c9b2afa84ea8e2e68bcab1a9"), looks := false }, kinds := [], alts := [], laidByText := true, laidKinds := [.data, .pinned], laidTests := true, laidLooks := .later }
def ParagraphStableCardSaid : Prop := Claim7.holds Tryd.pinned (.plain (OpenSpec.ofChange paragraphStableSpec)) paragraphStableCard

/-- THE TIED CARD OF 'stelelaw50.ParagraphContent'. -/
def paragraphContentCard : Claim7 := { stood := { row := paragraphContentRow, standIns := [], harness := (true, "6569fd2aa653ec0d8beab54ba14cc0f1d6cccba9c9b2afa84ea8e2e68bcab1a9"), looks := false }, kinds := [], alts := [], laidByText := true, laidKinds := [.data, .pinned], laidTests := true, laidLooks := .later }
def ParagraphContentCardSaid : Prop := Claim7.holds Tryd.pinned (.plain (OpenSpec.ofChange paragraphContentSpec)) paragraphContentCard

/-- THE SECOND FORM's CARD OF 'stelelaw50.ParagraphStable'. -/
def paragraphStableUptoCard : Claim7 := { stood := { row := paragraphStableUptoRow, standIns := [], harness := (true, "6569fd2aa653ec0d8beab54ba14cc0f1d6cccba9c9b2afa84ea8e2e68bcab1a9"), looks := false }, kinds := [], alts := [], laidByText := true, laidKinds := [.data, .pinned], laidTests := true, laidLooks := .later }
def ParagraphStableUptoCardSaid : Prop := Claim7.holds Tryd.pinned (.plain (OpenSpec.upto paragraphStableSpec)) paragraphStableUptoCard

/-- THE SECOND FORM's CARD OF 'stelelaw50.ParagraphContent'. -/
def paragraphContentUptoCard : Claim7 := { stood := { row := paragraphContentUptoRow, standIns := [], harness := (true, "6569fd2aa653ec0d8beab54ba14cc0f1d6cccba9c9b2afa84ea8e2e68bcab1a9"), looks := false }, kinds := [], alts := [], laidByText := true, laidKinds := [.data, .pinned], laidTests := true, laidLooks := .later }
def ParagraphContentUptoCardSaid : Prop := Claim7.holds Tryd.pinned (.plain (OpenSpec.upto paragraphContentSpec)) paragraphContentUptoCard
end Rows
end Go.Proofs.YtbfgjngljggbpaaDoor
