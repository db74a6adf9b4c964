/-
  DERIVED. GIVEN WITH THE SEED: THE CARDS: each row of YtbhmdcdhklgomaaGreatDoorRows.lean that lists a variable, with what it lists TIED to the program's text (the seventh form; the later family's looks); each row that meets fmt, with fmt's text TOLD by the authors' own Lean function (tested against real Go, not proved from fmt's source: count such statements apart). THE CARD IS WHAT COUNTS. Prove the row's statement (the work); the ties are given (YtbhmdcdhklgomaaGreatDoorTie.lean); close each card by the builder's one call (the guide's Derived/Test/ToyasCard.lean, 'card_holds'). Laid BY PROGRAM, IN A SANDBOX (cutbox-door.mjs). By AI agents, Wed Nov 11 2026. No macro, syntax, notation, axiom, sorry.
-/
import Derived.Test.YtbhmdcdhklgomaaGreatDoorRows
import GoSem.ClaimSeven
namespace Go.Proofs.YtbhmdcdhklgomaaGreatDoor
namespace Rows

/-- THE TIED CARD OF 'steletop.TopLegalHolds'. -/
def topLegalHoldsCard : Claim7 := { stood := { row := topLegalHoldsRow, standIns := [], harness := (true, "43986de6221f715c0f4a2b47408374dca4db98adb288cd0123bb0e4d0e5ae22e"), looks := true }, kinds := [], alts := [], laidByText := true, laidKinds := [.data, .data, .data, .data, .sentinel, .sentinel, .pinned], laidTests := true, laidLooks := .later }
def TopLegalHoldsCardSaid : Prop := Claim7.holds Tryz.pinned (.plain (OpenSpec.ofChange topLegalHoldsSpec)) topLegalHoldsCard

/-- THE TIED CARD OF 'steletop.TopImmutablePast'. -/
def topImmutablePastCard : Claim7 := { stood := { row := topImmutablePastRow, standIns := [], harness := (true, "43986de6221f715c0f4a2b47408374dca4db98adb288cd0123bb0e4d0e5ae22e"), looks := true }, kinds := [], alts := [], laidByText := true, laidKinds := [.data, .data, .data, .data, .sentinel, .sentinel, .pinned], laidTests := true, laidLooks := .later }
def TopImmutablePastCardSaid : Prop := Claim7.holds Tryz.pinned (.plain (OpenSpec.ofChange topImmutablePastSpec)) topImmutablePastCard

/-- THE TIED CARD OF 'steletop.TopDeduplication'. -/
def topDeduplicationCard : Claim7 := { stood := { row := topDeduplicationRow, standIns := [], harness := (true, "43986de6221f715c0f4a2b47408374dca4db98adb288cd0123bb0e4d0e5ae22e"), looks := true }, kinds := [], alts := [], laidByText := true, laidKinds := [.data, .data, .data, .data, .sentinel, .sentinel, .pinned], laidTests := true, laidLooks := .later }
def TopDeduplicationCardSaid : Prop := Claim7.holds Tryz.pinned (.plain (OpenSpec.ofChange topDeduplicationSpec)) topDeduplicationCard

/-- THE SECOND FORM's CARD OF 'steletop.TopLegalHolds'. -/
def topLegalHoldsUptoCard : Claim7 := { stood := { row := topLegalHoldsUptoRow, standIns := [], harness := (true, "43986de6221f715c0f4a2b47408374dca4db98adb288cd0123bb0e4d0e5ae22e"), looks := true }, kinds := [], alts := [], laidByText := true, laidKinds := [.data, .data, .data, .data, .sentinel, .sentinel, .pinned], laidTests := true, laidLooks := .later }
def TopLegalHoldsUptoCardSaid : Prop := Claim7.holds Tryz.pinned (.plain (OpenSpec.upto topLegalHoldsSpec)) topLegalHoldsUptoCard

/-- THE SECOND FORM's CARD OF 'steletop.TopImmutablePast'. -/
def topImmutablePastUptoCard : Claim7 := { stood := { row := topImmutablePastUptoRow, standIns := [], harness := (true, "43986de6221f715c0f4a2b47408374dca4db98adb288cd0123bb0e4d0e5ae22e"), looks := true }, kinds := [], alts := [], laidByText := true, laidKinds := [.data, .data, .data, .data, .sentinel, .sentinel, .pinned], laidTests := true, laidLooks := .later }
def TopImmutablePastUptoCardSaid : Prop := Claim7.holds Tryz.pinned (.plain (OpenSpec.upto topImmutablePastSpec)) topImmutablePastUptoCard

/-- THE SECOND FORM's CARD OF 'steletop.TopDeduplication'. -/
def topDeduplicationUptoCard : Claim7 := { stood := { row := topDeduplicationUptoRow, standIns := [], harness := (true, "43986de6221f715c0f4a2b47408374dca4db98adb288cd0123bb0e4d0e5ae22e"), looks := true }, kinds := [], alts := [], laidByText := true, laidKinds := [.data, .data, .data, .data, .sentinel, .sentinel, .pinned], laidTests := true, laidLooks := .later }
def TopDeduplicationUptoCardSaid : Prop := Claim7.holds Tryz.pinned (.plain (OpenSpec.upto topDeduplicationSpec)) topDeduplicationUptoCard
end Rows
end Go.Proofs.YtbhmdcdhklgomaaGreatDoor
