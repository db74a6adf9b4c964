/-
  DERIVED. GIVEN WITH THE SEED: THE CARDS: each row of YtgdmclhkoaadmaaDoorRows.lean that lists a variable, with what it lists TIED to the program's text (the seventh form; the later family's looks); each row that meets fmt, with fmt's text TOLD by the authors' own Lean function (tested against real Go, not proved from fmt's source: count such statements apart). THE CARD IS WHAT COUNTS. Prove the row's statement (the work); the ties are given (YtgdmclhkoaadmaaDoorTie.lean); close each card by the builder's one call (the guide's Derived/Test/ToyasCard.lean, 'card_holds'). Laid BY PROGRAM, IN A SANDBOX (cutbox-door.mjs). By AI agents, Wed Nov 11 2026. No macro, syntax, notation, axiom, sorry.
-/
import Derived.Test.YtgdmclhkoaadmaaDoorRows
import GoSem.ClaimSeven
namespace Go.Proofs.YtgdmclhkoaadmaaDoor
namespace Rows

/-- THE TIED CARD OF 'stelelaw31.PathnameChecks'. -/
def pathnameChecksCard : Claim7 := { stood := { row := pathnameChecksRow, standIns := [], harness := (true, "608f72d9957ca60ae70710963bf66ffe809eb25484c96b8833c6cbb1b74d6bce"), looks := false }, kinds := [], alts := [], laidByText := true, laidKinds := [.data, .pinned], laidTests := true, laidLooks := .later }
def PathnameChecksCardSaid : Prop := Claim7.holds Tryd.pinned (.plain (OpenSpec.ofChange pathnameChecksSpec)) pathnameChecksCard

/-- THE TIED CARD OF 'stelelaw31.PathnameOrder'. -/
def pathnameOrderCard : Claim7 := { stood := { row := pathnameOrderRow, standIns := [], harness := (true, "608f72d9957ca60ae70710963bf66ffe809eb25484c96b8833c6cbb1b74d6bce"), looks := false }, kinds := [], alts := [], laidByText := true, laidKinds := [.data, .pinned], laidTests := true, laidLooks := .later }
def PathnameOrderCardSaid : Prop := Claim7.holds Tryd.pinned (.plain (OpenSpec.ofChange pathnameOrderSpec)) pathnameOrderCard

/-- THE TIED CARD OF 'stelelaw31.PathnameJoins'. -/
def pathnameJoinsCard : Claim7 := { stood := { row := pathnameJoinsRow, standIns := [], harness := (true, "608f72d9957ca60ae70710963bf66ffe809eb25484c96b8833c6cbb1b74d6bce"), looks := false }, kinds := [], alts := [], laidByText := true, laidKinds := [.data, .pinned], laidTests := true, laidLooks := .later }
def PathnameJoinsCardSaid : Prop := Claim7.holds Tryd.pinned (.plain (OpenSpec.ofChange pathnameJoinsSpec)) pathnameJoinsCard

/-- THE TIED CARD OF 'stelelaw31.PathnameLimits'. -/
def pathnameLimitsCard : Claim7 := { stood := { row := pathnameLimitsRow, standIns := [], harness := (true, "608f72d9957ca60ae70710963bf66ffe809eb25484c96b8833c6cbb1b74d6bce"), looks := false }, kinds := [], alts := [], laidByText := true, laidKinds := [.data, .pinned], laidTests := true, laidLooks := .later }
def PathnameLimitsCardSaid : Prop := Claim7.holds Tryd.pinned (.plain (OpenSpec.ofChange pathnameLimitsSpec)) pathnameLimitsCard

/-- THE TIED CARD OF 'stelelaw31.PathnameRelations'. -/
def pathnameRelationsCard : Claim7 := { stood := { row := pathnameRelationsRow, standIns := [], harness := (true, "608f72d9957ca60ae70710963bf66ffe809eb25484c96b8833c6cbb1b74d6bce"), looks := false }, kinds := [], alts := [], laidByText := true, laidKinds := [.data, .pinned], laidTests := true, laidLooks := .later }
def PathnameRelationsCardSaid : Prop := Claim7.holds Tryd.pinned (.plain (OpenSpec.ofChange pathnameRelationsSpec)) pathnameRelationsCard

/-- THE TIED CARD OF 'stelelaw31.PathnameSubtrees'. -/
def pathnameSubtreesCard : Claim7 := { stood := { row := pathnameSubtreesRow, standIns := [], harness := (true, "608f72d9957ca60ae70710963bf66ffe809eb25484c96b8833c6cbb1b74d6bce"), looks := false }, kinds := [], alts := [], laidByText := true, laidKinds := [.data, .pinned], laidTests := true, laidLooks := .later }
def PathnameSubtreesCardSaid : Prop := Claim7.holds Tryd.pinned (.plain (OpenSpec.ofChange pathnameSubtreesSpec)) pathnameSubtreesCard

/-- THE TIED CARD OF 'stelelaw31.PathnameUnder'. -/
def pathnameUnderCard : Claim7 := { stood := { row := pathnameUnderRow, standIns := [], harness := (true, "608f72d9957ca60ae70710963bf66ffe809eb25484c96b8833c6cbb1b74d6bce"), looks := false }, kinds := [], alts := [], laidByText := true, laidKinds := [.data, .pinned], laidTests := true, laidLooks := .later }
def PathnameUnderCardSaid : Prop := Claim7.holds Tryd.pinned (.plain (OpenSpec.ofChange pathnameUnderSpec)) pathnameUnderCard

/-- THE TIED CARD OF 'stelelaw31.PathnameRebuilds'. -/
def pathnameRebuildsCard : Claim7 := { stood := { row := pathnameRebuildsRow, standIns := [], harness := (true, "608f72d9957ca60ae70710963bf66ffe809eb25484c96b8833c6cbb1b74d6bce"), looks := false }, kinds := [], alts := [], laidByText := true, laidKinds := [.data, .pinned], laidTests := true, laidLooks := .later }
def PathnameRebuildsCardSaid : Prop := Claim7.holds Tryd.pinned (.plain (OpenSpec.ofChange pathnameRebuildsSpec)) pathnameRebuildsCard

/-- THE SECOND FORM's CARD OF 'stelelaw31.PathnameChecks'. -/
def pathnameChecksUptoCard : Claim7 := { stood := { row := pathnameChecksUptoRow, standIns := [], harness := (true, "608f72d9957ca60ae70710963bf66ffe809eb25484c96b8833c6cbb1b74d6bce"), looks := false }, kinds := [], alts := [], laidByText := true, laidKinds := [.data, .pinned], laidTests := true, laidLooks := .later }
def PathnameChecksUptoCardSaid : Prop := Claim7.holds Tryd.pinned (.plain (OpenSpec.upto pathnameChecksSpec)) pathnameChecksUptoCard

/-- THE SECOND FORM's CARD OF 'stelelaw31.PathnameOrder'. -/
def pathnameOrderUptoCard : Claim7 := { stood := { row := pathnameOrderUptoRow, standIns := [], harness := (true, "608f72d9957ca60ae70710963bf66ffe809eb25484c96b8833c6cbb1b74d6bce"), looks := false }, kinds := [], alts := [], laidByText := true, laidKinds := [.data, .pinned], laidTests := true, laidLooks := .later }
def PathnameOrderUptoCardSaid : Prop := Claim7.holds Tryd.pinned (.plain (OpenSpec.upto pathnameOrderSpec)) pathnameOrderUptoCard

/-- THE SECOND FORM's CARD OF 'stelelaw31.PathnameJoins'. -/
def pathnameJoinsUptoCard : Claim7 := { stood := { row := pathnameJoinsUptoRow, standIns := [], harness := (true, "608f72d9957ca60ae70710963bf66ffe809eb25484c96b8833c6cbb1b74d6bce"), looks := false }, kinds := [], alts := [], laidByText := true, laidKinds := [.data, .pinned], laidTests := true, laidLooks := .later }
def PathnameJoinsUptoCardSaid : Prop := Claim7.holds Tryd.pinned (.plain (OpenSpec.upto pathnameJoinsSpec)) pathnameJoinsUptoCard

/-- THE SECOND FORM's CARD OF 'stelelaw31.PathnameLimits'. -/
def pathnameLimitsUptoCard : Claim7 := { stood := { row := pathnameLimitsUptoRow, standIns := [], harness := (true, "608f72d9957ca60ae70710963bf66ffe809eb25484c96b8833c6cbb1b74d6bce"), looks := false }, kinds := [], alts := [], laidByText := true, laidKinds := [.data, .pinned], laidTests := true, laidLooks := .later }
def PathnameLimitsUptoCardSaid : Prop := Claim7.holds Tryd.pinned (.plain (OpenSpec.upto pathnameLimitsSpec)) pathnameLimitsUptoCard

/-- THE SECOND FORM's CARD OF 'stelelaw31.PathnameRelations'. -/
def pathnameRelationsUptoCard : Claim7 := { stood := { row := pathnameRelationsUptoRow, standIns := [], harness := (true, "608f72d9957ca60ae70710963bf66ffe809eb25484c96b8833c6cbb1b74d6bce"), looks := false }, kinds := [], alts := [], laidByText := true, laidKinds := [.data, .pinned], laidTests := true, laidLooks := .later }
def PathnameRelationsUptoCardSaid : Prop := Claim7.holds Tryd.pinned (.plain (OpenSpec.upto pathnameRelationsSpec)) pathnameRelationsUptoCard

/-- THE SECOND FORM's CARD OF 'stelelaw31.PathnameSubtrees'. -/
def pathnameSubtreesUptoCard : Claim7 := { stood := { row := pathnameSubtreesUptoRow, standIns := [], harness := (true, "608f72d9957ca60ae70710963bf66ffe809eb25484c96b8833c6cbb1b74d6bce"), looks := false }, kinds := [], alts := [], laidByText := true, laidKinds := [.data, .pinned], laidTests := true, laidLooks := .later }
def PathnameSubtreesUptoCardSaid : Prop := Claim7.holds Tryd.pinned (.plain (OpenSpec.upto pathnameSubtreesSpec)) pathnameSubtreesUptoCard

/-- THE SECOND FORM's CARD OF 'stelelaw31.PathnameUnder'. -/
def pathnameUnderUptoCard : Claim7 := { stood := { row := pathnameUnderUptoRow, standIns := [], harness := (true, "608f72d9957ca60ae70710963bf66ffe809eb25484c96b8833c6cbb1b74d6bce"), looks := false }, kinds := [], alts := [], laidByText := true, laidKinds := [.data, .pinned], laidTests := true, laidLooks := .later }
def PathnameUnderUptoCardSaid : Prop := Claim7.holds Tryd.pinned (.plain (OpenSpec.upto pathnameUnderSpec)) pathnameUnderUptoCard

/-- THE SECOND FORM's CARD OF 'stelelaw31.PathnameRebuilds'. -/
def pathnameRebuildsUptoCard : Claim7 := { stood := { row := pathnameRebuildsUptoRow, standIns := [], harness := (true, "608f72d9957ca60ae70710963bf66ffe809eb25484c96b8833c6cbb1b74d6bce"), looks := false }, kinds := [], alts := [], laidByText := true, laidKinds := [.data, .pinned], laidTests := true, laidLooks := .later }
def PathnameRebuildsUptoCardSaid : Prop := Claim7.holds Tryd.pinned (.plain (OpenSpec.upto pathnameRebuildsSpec)) pathnameRebuildsUptoCard
end Rows
end Go.Proofs.YtgdmclhkoaadmaaDoor
