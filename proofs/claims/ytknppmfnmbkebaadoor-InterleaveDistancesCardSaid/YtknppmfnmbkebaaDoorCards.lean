/-
  DERIVED. GIVEN WITH THE SEED: THE CARDS: each row of YtknppmfnmbkebaaDoorRows.lean that lists a variable, with what it lists TIED to the program's text (the seventh form; the later family's looks); each row that meets fmt, with fmt's text TOLD by the authors' own Lean function (tested against real Go, not proved from fmt's source: count such statements apart). THE CARD IS WHAT COUNTS. Prove the row's statement (the work); the ties are given (YtknppmfnmbkebaaDoorTie.lean); close each card by the builder's one call (the guide's Derived/Test/ToyasCard.lean, 'card_holds'). Laid BY PROGRAM, IN A SANDBOX (cutbox-door.mjs). By AI agents, Wed Nov 11 2026. No macro, syntax, notation, axiom, sorry.
-/
import Derived.Test.YtknppmfnmbkebaaDoorRows
import GoSem.ClaimSeven
namespace Go.Proofs.YtknppmfnmbkebaaDoor
namespace Rows

/-- THE TIED CARD OF 'stelelaw01.CellsBytes'. -/
def cellsBytesCard : Claim7 := { stood := { row := cellsBytesRow, standIns := [], harness := (true, "f259185e33972e29633dad57ed72e858c70f07645eaca574fd601157044a9387"), looks := false }, kinds := [], alts := [], laidByText := true, laidKinds := [.data, .pinned], laidTests := true, laidLooks := .later }
def CellsBytesCardSaid : Prop := Claim7.holds Tryd.pinned (.plain (OpenSpec.ofChange cellsBytesSpec)) cellsBytesCard

/-- THE TIED CARD OF 'stelelaw01.CellsDistance'. -/
def cellsDistanceCard : Claim7 := { stood := { row := cellsDistanceRow, standIns := [], harness := (true, "f259185e33972e29633dad57ed72e858c70f07645eaca574fd601157044a9387"), looks := false }, kinds := [], alts := [], laidByText := true, laidKinds := [.data, .pinned], laidTests := true, laidLooks := .later }
def CellsDistanceCardSaid : Prop := Claim7.holds Tryd.pinned (.plain (OpenSpec.ofChange cellsDistanceSpec)) cellsDistanceCard

/-- THE TIED CARD OF 'stelelaw01.CellsRoundTrip'. -/
def cellsRoundTripCard : Claim7 := { stood := { row := cellsRoundTripRow, standIns := [], harness := (true, "f259185e33972e29633dad57ed72e858c70f07645eaca574fd601157044a9387"), looks := false }, kinds := [], alts := [], laidByText := true, laidKinds := [.data, .pinned], laidTests := true, laidLooks := .later }
def CellsRoundTripCardSaid : Prop := Claim7.holds Tryd.pinned (.plain (OpenSpec.ofChange cellsRoundTripSpec)) cellsRoundTripCard

/-- THE TIED CARD OF 'stelelaw01.CellsMetric'. -/
def cellsMetricCard : Claim7 := { stood := { row := cellsMetricRow, standIns := [], harness := (true, "f259185e33972e29633dad57ed72e858c70f07645eaca574fd601157044a9387"), looks := false }, kinds := [], alts := [], laidByText := true, laidKinds := [.data, .pinned], laidTests := true, laidLooks := .later }
def CellsMetricCardSaid : Prop := Claim7.holds Tryd.pinned (.plain (OpenSpec.ofChange cellsMetricSpec)) cellsMetricCard

/-- THE TIED CARD OF 'stelelaw01.CellsLinear'. -/
def cellsLinearCard : Claim7 := { stood := { row := cellsLinearRow, standIns := [], harness := (true, "f259185e33972e29633dad57ed72e858c70f07645eaca574fd601157044a9387"), looks := false }, kinds := [], alts := [], laidByText := true, laidKinds := [.data, .pinned], laidTests := true, laidLooks := .later }
def CellsLinearCardSaid : Prop := Claim7.holds Tryd.pinned (.plain (OpenSpec.ofChange cellsLinearSpec)) cellsLinearCard

/-- THE TIED CARD OF 'stelelaw01.CellsErasure'. -/
def cellsErasureCard : Claim7 := { stood := { row := cellsErasureRow, standIns := [], harness := (true, "f259185e33972e29633dad57ed72e858c70f07645eaca574fd601157044a9387"), looks := false }, kinds := [], alts := [], laidByText := true, laidKinds := [.data, .pinned], laidTests := true, laidLooks := .later }
def CellsErasureCardSaid : Prop := Claim7.holds Tryd.pinned (.plain (OpenSpec.ofChange cellsErasureSpec)) cellsErasureCard

/-- THE TIED CARD OF 'stelelaw01.CellsCheck'. -/
def cellsCheckCard : Claim7 := { stood := { row := cellsCheckRow, standIns := [], harness := (true, "f259185e33972e29633dad57ed72e858c70f07645eaca574fd601157044a9387"), looks := false }, kinds := [], alts := [], laidByText := true, laidKinds := [.data, .pinned], laidTests := true, laidLooks := .later }
def CellsCheckCardSaid : Prop := Claim7.holds Tryd.pinned (.plain (OpenSpec.ofChange cellsCheckSpec)) cellsCheckCard

/-- THE TIED CARD OF 'stelelaw01.CellsInvert'. -/
def cellsInvertCard : Claim7 := { stood := { row := cellsInvertRow, standIns := [], harness := (true, "f259185e33972e29633dad57ed72e858c70f07645eaca574fd601157044a9387"), looks := false }, kinds := [], alts := [], laidByText := true, laidKinds := [.data, .pinned], laidTests := true, laidLooks := .later }
def CellsInvertCardSaid : Prop := Claim7.holds Tryd.pinned (.plain (OpenSpec.ofChange cellsInvertSpec)) cellsInvertCard

/-- THE TIED CARD OF 'stelelaw11.InterleaveDistances'. -/
def interleaveDistancesCard : Claim7 := { stood := { row := interleaveDistancesRow, standIns := [], harness := (true, "f259185e33972e29633dad57ed72e858c70f07645eaca574fd601157044a9387"), looks := false }, kinds := [], alts := [], laidByText := true, laidKinds := [.data, .pinned], laidTests := true, laidLooks := .later }
def InterleaveDistancesCardSaid : Prop := Claim7.holds Tryd.pinned (.plain (OpenSpec.ofChange interleaveDistancesSpec)) interleaveDistancesCard

/-- THE SECOND FORM's CARD OF 'stelelaw01.CellsBytes'. -/
def cellsBytesUptoCard : Claim7 := { stood := { row := cellsBytesUptoRow, standIns := [], harness := (true, "f259185e33972e29633dad57ed72e858c70f07645eaca574fd601157044a9387"), looks := false }, kinds := [], alts := [], laidByText := true, laidKinds := [.data, .pinned], laidTests := true, laidLooks := .later }
def CellsBytesUptoCardSaid : Prop := Claim7.holds Tryd.pinned (.plain (OpenSpec.upto cellsBytesSpec)) cellsBytesUptoCard

/-- THE SECOND FORM's CARD OF 'stelelaw01.CellsDistance'. -/
def cellsDistanceUptoCard : Claim7 := { stood := { row := cellsDistanceUptoRow, standIns := [], harness := (true, "f259185e33972e29633dad57ed72e858c70f07645eaca574fd601157044a9387"), looks := false }, kinds := [], alts := [], laidByText := true, laidKinds := [.data, .pinned], laidTests := true, laidLooks := .later }
def CellsDistanceUptoCardSaid : Prop := Claim7.holds Tryd.pinned (.plain (OpenSpec.upto cellsDistanceSpec)) cellsDistanceUptoCard

/-- THE SECOND FORM's CARD OF 'stelelaw01.CellsRoundTrip'. -/
def cellsRoundTripUptoCard : Claim7 := { stood := { row := cellsRoundTripUptoRow, standIns := [], harness := (true, "f259185e33972e29633dad57ed72e858c70f07645eaca574fd601157044a9387"), looks := false }, kinds := [], alts := [], laidByText := true, laidKinds := [.data, .pinned], laidTests := true, laidLooks := .later }
def CellsRoundTripUptoCardSaid : Prop := Claim7.holds Tryd.pinned (.plain (OpenSpec.upto cellsRoundTripSpec)) cellsRoundTripUptoCard

/-- THE SECOND FORM's CARD OF 'stelelaw01.CellsMetric'. -/
def cellsMetricUptoCard : Claim7 := { stood := { row := cellsMetricUptoRow, standIns := [], harness := (true, "f259185e33972e29633dad57ed72e858c70f07645eaca574fd601157044a9387"), looks := false }, kinds := [], alts := [], laidByText := true, laidKinds := [.data, .pinned], laidTests := true, laidLooks := .later }
def CellsMetricUptoCardSaid : Prop := Claim7.holds Tryd.pinned (.plain (OpenSpec.upto cellsMetricSpec)) cellsMetricUptoCard

/-- THE SECOND FORM's CARD OF 'stelelaw01.CellsLinear'. -/
def cellsLinearUptoCard : Claim7 := { stood := { row := cellsLinearUptoRow, standIns := [], harness := (true, "f259185e33972e29633dad57ed72e858c70f07645eaca574fd601157044a9387"), looks := false }, kinds := [], alts := [], laidByText := true, laidKinds := [.data, .pinned], laidTests := true, laidLooks := .later }
def CellsLinearUptoCardSaid : Prop := Claim7.holds Tryd.pinned (.plain (OpenSpec.upto cellsLinearSpec)) cellsLinearUptoCard

/-- THE SECOND FORM's CARD OF 'stelelaw01.CellsErasure'. -/
def cellsErasureUptoCard : Claim7 := { stood := { row := cellsErasureUptoRow, standIns := [], harness := (true, "f259185e33972e29633dad57ed72e858c70f07645eaca574fd601157044a9387"), looks := false }, kinds := [], alts := [], laidByText := true, laidKinds := [.data, .pinned], laidTests := true, laidLooks := .later }
def CellsErasureUptoCardSaid : Prop := Claim7.holds Tryd.pinned (.plain (OpenSpec.upto cellsErasureSpec)) cellsErasureUptoCard

/-- THE SECOND FORM's CARD OF 'stelelaw01.CellsCheck'. -/
def cellsCheckUptoCard : Claim7 := { stood := { row := cellsCheckUptoRow, standIns := [], harness := (true, "f259185e33972e29633dad57ed72e858c70f07645eaca574fd601157044a9387"), looks := false }, kinds := [], alts := [], laidByText := true, laidKinds := [.data, .pinned], laidTests := true, laidLooks := .later }
def CellsCheckUptoCardSaid : Prop := Claim7.holds Tryd.pinned (.plain (OpenSpec.upto cellsCheckSpec)) cellsCheckUptoCard

/-- THE SECOND FORM's CARD OF 'stelelaw01.CellsInvert'. -/
def cellsInvertUptoCard : Claim7 := { stood := { row := cellsInvertUptoRow, standIns := [], harness := (true, "f259185e33972e29633dad57ed72e858c70f07645eaca574fd601157044a9387"), looks := false }, kinds := [], alts := [], laidByText := true, laidKinds := [.data, .pinned], laidTests := true, laidLooks := .later }
def CellsInvertUptoCardSaid : Prop := Claim7.holds Tryd.pinned (.plain (OpenSpec.upto cellsInvertSpec)) cellsInvertUptoCard

/-- THE SECOND FORM's CARD OF 'stelelaw11.InterleaveDistances'. -/
def interleaveDistancesUptoCard : Claim7 := { stood := { row := interleaveDistancesUptoRow, standIns := [], harness := (true, "f259185e33972e29633dad57ed72e858c70f07645eaca574fd601157044a9387"), looks := false }, kinds := [], alts := [], laidByText := true, laidKinds := [.data, .pinned], laidTests := true, laidLooks := .later }
def InterleaveDistancesUptoCardSaid : Prop := Claim7.holds Tryd.pinned (.plain (OpenSpec.upto interleaveDistancesSpec)) interleaveDistancesUptoCard
end Rows
end Go.Proofs.YtknppmfnmbkebaaDoor
