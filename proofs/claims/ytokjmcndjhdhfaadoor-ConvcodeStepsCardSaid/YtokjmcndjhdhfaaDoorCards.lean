/-
  DERIVED. GIVEN WITH THE SEED: THE CARDS: each row of YtokjmcndjhdhfaaDoorRows.lean that lists a variable, with what it lists TIED to the program's text (the seventh form; the later family's looks); each row that meets fmt, with fmt's text TOLD by the authors' own Lean function (tested against real Go, not proved from fmt's source: count such statements apart). THE CARD IS WHAT COUNTS. Prove the row's statement (the work); the ties are given (YtokjmcndjhdhfaaDoorTie.lean); close each card by the builder's one call (the guide's Derived/Test/ToyasCard.lean, 'card_holds'). Laid BY PROGRAM, IN A SANDBOX (cutbox-door.mjs). By AI agents, Wed Nov 11 2026. No macro, syntax, notation, axiom, sorry.
-/
import Derived.Test.YtokjmcndjhdhfaaDoorRows
import GoSem.ClaimSeven
namespace Go.Proofs.YtokjmcndjhdhfaaDoor
namespace Rows

/-- THE TIED CARD OF 'stelelaw09.ConvcodeExtracts'. -/
def convcodeExtractsCard : Claim7 := { stood := { row := convcodeExtractsRow, standIns := [], harness := (true, "e111cc2f2e0c3d71c39b88f82d8d084518e0063c4ba155074c4561d6a3b598f5"), looks := false }, kinds := [], alts := [], laidByText := true, laidKinds := [.data, .pinned], laidTests := true, laidLooks := .later }
def ConvcodeExtractsCardSaid : Prop := Claim7.holds Tryd.pinned (.plain (OpenSpec.ofChange convcodeExtractsSpec)) convcodeExtractsCard

/-- THE TIED CARD OF 'stelelaw09.ConvcodeSteps'. -/
def convcodeStepsCard : Claim7 := { stood := { row := convcodeStepsRow, standIns := [], harness := (true, "e111cc2f2e0c3d71c39b88f82d8d084518e0063c4ba155074c4561d6a3b598f5"), looks := false }, kinds := [], alts := [], laidByText := true, laidKinds := [.data, .pinned], laidTests := true, laidLooks := .later }
def ConvcodeStepsCardSaid : Prop := Claim7.holds Tryd.pinned (.plain (OpenSpec.ofChange convcodeStepsSpec)) convcodeStepsCard

/-- THE TIED CARD OF 'stelelaw09.ConvcodeRoundTrip'. -/
def convcodeRoundTripCard : Claim7 := { stood := { row := convcodeRoundTripRow, standIns := [], harness := (true, "e111cc2f2e0c3d71c39b88f82d8d084518e0063c4ba155074c4561d6a3b598f5"), looks := false }, kinds := [], alts := [], laidByText := true, laidKinds := [.data, .pinned], laidTests := true, laidLooks := .later }
def ConvcodeRoundTripCardSaid : Prop := Claim7.holds Tryd.pinned (.plain (OpenSpec.ofChange convcodeRoundTripSpec)) convcodeRoundTripCard

/-- THE TIED CARD OF 'stelelaw09.ConvcodeLinear'. -/
def convcodeLinearCard : Claim7 := { stood := { row := convcodeLinearRow, standIns := [], harness := (true, "e111cc2f2e0c3d71c39b88f82d8d084518e0063c4ba155074c4561d6a3b598f5"), looks := false }, kinds := [], alts := [], laidByText := true, laidKinds := [.data, .pinned], laidTests := true, laidLooks := .later }
def ConvcodeLinearCardSaid : Prop := Claim7.holds Tryd.pinned (.plain (OpenSpec.ofChange convcodeLinearSpec)) convcodeLinearCard

/-- THE TIED CARD OF 'stelelaw09.ConvcodePrefix'. -/
def convcodePrefixCard : Claim7 := { stood := { row := convcodePrefixRow, standIns := [], harness := (true, "e111cc2f2e0c3d71c39b88f82d8d084518e0063c4ba155074c4561d6a3b598f5"), looks := false }, kinds := [], alts := [], laidByText := true, laidKinds := [.data, .pinned], laidTests := true, laidLooks := .later }
def ConvcodePrefixCardSaid : Prop := Claim7.holds Tryd.pinned (.plain (OpenSpec.ofChange convcodePrefixSpec)) convcodePrefixCard

/-- THE TIED CARD OF 'stelelaw09.ConvcodeEncodes'. -/
def convcodeEncodesCard : Claim7 := { stood := { row := convcodeEncodesRow, standIns := [], harness := (true, "e111cc2f2e0c3d71c39b88f82d8d084518e0063c4ba155074c4561d6a3b598f5"), looks := false }, kinds := [], alts := [], laidByText := true, laidKinds := [.data, .pinned], laidTests := true, laidLooks := .later }
def ConvcodeEncodesCardSaid : Prop := Claim7.holds Tryd.pinned (.plain (OpenSpec.ofChange convcodeEncodesSpec)) convcodeEncodesCard

/-- THE TIED CARD OF 'stelelaw09.ConvcodeDistance'. -/
def convcodeDistanceCard : Claim7 := { stood := { row := convcodeDistanceRow, standIns := [], harness := (true, "e111cc2f2e0c3d71c39b88f82d8d084518e0063c4ba155074c4561d6a3b598f5"), looks := false }, kinds := [], alts := [], laidByText := true, laidKinds := [.data, .pinned], laidTests := true, laidLooks := .later }
def ConvcodeDistanceCardSaid : Prop := Claim7.holds Tryd.pinned (.plain (OpenSpec.ofChange convcodeDistanceSpec)) convcodeDistanceCard

/-- THE TIED CARD OF 'stelelaw09.ConvcodeShift'. -/
def convcodeShiftCard : Claim7 := { stood := { row := convcodeShiftRow, standIns := [], harness := (true, "e111cc2f2e0c3d71c39b88f82d8d084518e0063c4ba155074c4561d6a3b598f5"), looks := false }, kinds := [], alts := [], laidByText := true, laidKinds := [.data, .pinned], laidTests := true, laidLooks := .later }
def ConvcodeShiftCardSaid : Prop := Claim7.holds Tryd.pinned (.plain (OpenSpec.ofChange convcodeShiftSpec)) convcodeShiftCard

/-- THE SECOND FORM's CARD OF 'stelelaw09.ConvcodeExtracts'. -/
def convcodeExtractsUptoCard : Claim7 := { stood := { row := convcodeExtractsUptoRow, standIns := [], harness := (true, "e111cc2f2e0c3d71c39b88f82d8d084518e0063c4ba155074c4561d6a3b598f5"), looks := false }, kinds := [], alts := [], laidByText := true, laidKinds := [.data, .pinned], laidTests := true, laidLooks := .later }
def ConvcodeExtractsUptoCardSaid : Prop := Claim7.holds Tryd.pinned (.plain (OpenSpec.upto convcodeExtractsSpec)) convcodeExtractsUptoCard

/-- THE SECOND FORM's CARD OF 'stelelaw09.ConvcodeSteps'. -/
def convcodeStepsUptoCard : Claim7 := { stood := { row := convcodeStepsUptoRow, standIns := [], harness := (true, "e111cc2f2e0c3d71c39b88f82d8d084518e0063c4ba155074c4561d6a3b598f5"), looks := false }, kinds := [], alts := [], laidByText := true, laidKinds := [.data, .pinned], laidTests := true, laidLooks := .later }
def ConvcodeStepsUptoCardSaid : Prop := Claim7.holds Tryd.pinned (.plain (OpenSpec.upto convcodeStepsSpec)) convcodeStepsUptoCard

/-- THE SECOND FORM's CARD OF 'stelelaw09.ConvcodeRoundTrip'. -/
def convcodeRoundTripUptoCard : Claim7 := { stood := { row := convcodeRoundTripUptoRow, standIns := [], harness := (true, "e111cc2f2e0c3d71c39b88f82d8d084518e0063c4ba155074c4561d6a3b598f5"), looks := false }, kinds := [], alts := [], laidByText := true, laidKinds := [.data, .pinned], laidTests := true, laidLooks := .later }
def ConvcodeRoundTripUptoCardSaid : Prop := Claim7.holds Tryd.pinned (.plain (OpenSpec.upto convcodeRoundTripSpec)) convcodeRoundTripUptoCard

/-- THE SECOND FORM's CARD OF 'stelelaw09.ConvcodeLinear'. -/
def convcodeLinearUptoCard : Claim7 := { stood := { row := convcodeLinearUptoRow, standIns := [], harness := (true, "e111cc2f2e0c3d71c39b88f82d8d084518e0063c4ba155074c4561d6a3b598f5"), looks := false }, kinds := [], alts := [], laidByText := true, laidKinds := [.data, .pinned], laidTests := true, laidLooks := .later }
def ConvcodeLinearUptoCardSaid : Prop := Claim7.holds Tryd.pinned (.plain (OpenSpec.upto convcodeLinearSpec)) convcodeLinearUptoCard

/-- THE SECOND FORM's CARD OF 'stelelaw09.ConvcodePrefix'. -/
def convcodePrefixUptoCard : Claim7 := { stood := { row := convcodePrefixUptoRow, standIns := [], harness := (true, "e111cc2f2e0c3d71c39b88f82d8d084518e0063c4ba155074c4561d6a3b598f5"), looks := false }, kinds := [], alts := [], laidByText := true, laidKinds := [.data, .pinned], laidTests := true, laidLooks := .later }
def ConvcodePrefixUptoCardSaid : Prop := Claim7.holds Tryd.pinned (.plain (OpenSpec.upto convcodePrefixSpec)) convcodePrefixUptoCard

/-- THE SECOND FORM's CARD OF 'stelelaw09.ConvcodeEncodes'. -/
def convcodeEncodesUptoCard : Claim7 := { stood := { row := convcodeEncodesUptoRow, standIns := [], harness := (true, "e111cc2f2e0c3d71c39b88f82d8d084518e0063c4ba155074c4561d6a3b598f5"), looks := false }, kinds := [], alts := [], laidByText := true, laidKinds := [.data, .pinned], laidTests := true, laidLooks := .later }
def ConvcodeEncodesUptoCardSaid : Prop := Claim7.holds Tryd.pinned (.plain (OpenSpec.upto convcodeEncodesSpec)) convcodeEncodesUptoCard

/-- THE SECOND FORM's CARD OF 'stelelaw09.ConvcodeDistance'. -/
def convcodeDistanceUptoCard : Claim7 := { stood := { row := convcodeDistanceUptoRow, standIns := [], harness := (true, "e111cc2f2e0c3d71c39b88f82d8d084518e0063c4ba155074c4561d6a3b598f5"), looks := false }, kinds := [], alts := [], laidByText := true, laidKinds := [.data, .pinned], laidTests := true, laidLooks := .later }
def ConvcodeDistanceUptoCardSaid : Prop := Claim7.holds Tryd.pinned (.plain (OpenSpec.upto convcodeDistanceSpec)) convcodeDistanceUptoCard

/-- THE SECOND FORM's CARD OF 'stelelaw09.ConvcodeShift'. -/
def convcodeShiftUptoCard : Claim7 := { stood := { row := convcodeShiftUptoRow, standIns := [], harness := (true, "e111cc2f2e0c3d71c39b88f82d8d084518e0063c4ba155074c4561d6a3b598f5"), looks := false }, kinds := [], alts := [], laidByText := true, laidKinds := [.data, .pinned], laidTests := true, laidLooks := .later }
def ConvcodeShiftUptoCardSaid : Prop := Claim7.holds Tryd.pinned (.plain (OpenSpec.upto convcodeShiftSpec)) convcodeShiftUptoCard
end Rows
end Go.Proofs.YtokjmcndjhdhfaaDoor
