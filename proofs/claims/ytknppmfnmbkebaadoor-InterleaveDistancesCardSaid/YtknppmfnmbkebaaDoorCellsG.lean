/-
  The chapter's example, and the laws CellsBytes, CellsDistance, CellsCheck, CellsInvert, CellsRoundTrip, walked.
-/
import Derived.Test.YtknppmfnmbkebaaDoorCellsF
namespace Go.Proofs.YtknppmfnmbkebaaDoor
open Go.RowKit

theorem ex_to (w : World) : Calls Tryd.prog 13 #[.string ⟨#[48, 49, 48, 48, 63, 48, 48, 49]⟩] w fun e w' => ∃ g cap, e = .returned (.tuple #[.string ⟨#[65]⟩, .slice (some ⟨g, 0, none⟩) 1 cap, .int .i64 0]) ∧ w'.cell? ⟨g, 0, none⟩ = some (.int .i64 0) ∧ Below w.heap.size w w' := by
  refine (to_any ⟨#[48, 49, 48, 48, 63, 48, 48, 49]⟩ w (by decide) (by decide) (by decide)).mono ?_
  rintro e w' ⟨v, rfl, hown, hb⟩
  have e1 : Cells.toBytes (⟨#[48, 49, 48, 48, 63, 48, 48, 49]⟩ : ByteArray).data.toList = [65] := by decide +kernel
  have e2 : Cells.bad (⟨#[48, 49, 48, 48, 63, 48, 48, 49]⟩ : ByteArray).data.toList = [0] := by decide +kernel
  rw [e2] at hown
  rw [e1]
  obtain ⟨ao, cap, rfl, hc⟩ := IsL.of_own hown
  obtain ⟨g, rfl, hcell⟩ := hc 0 0 rfl
  exact ⟨g, cap, rfl, hcell, hb⟩
theorem ex_dist (w : World) : Calls Tryd.prog 18 #[.string ⟨#[48, 49, 63]⟩, .string ⟨#[49, 48, 63]⟩] w fun e w' => e = .returned (.tuple #[.int .i64 2, .int .i64 0]) ∧ Below w.heap.size w w' := by
  refine (dist_any ⟨#[48, 49, 63]⟩ ⟨#[49, 48, 63]⟩ w (by decide) (by decide)).mono ?_
  rintro e w' ⟨rfl, hb⟩
  exact ⟨ret_dist (by decide +kernel) (by decide +kernel), hb⟩
theorem ex_from (w : World) : Calls Tryd.prog 15 #[.string ⟨#[65]⟩] w fun e w' => e = .returned (.string ⟨#[48, 49, 48, 48, 48, 48, 48, 49]⟩) ∧ Below w.heap.size w w' := by
  refine (from_any ⟨#[65]⟩ w (by decide)).mono ?_
  rintro e w' ⟨rfl, hb⟩
  have e1 : Cells.fromBytes (⟨#[65]⟩ : ByteArray).data.toList = [48, 49, 48, 48, 48, 48, 48, 49] := by decide +kernel
  exact ⟨by rw [e1], hb⟩

set_option maxHeartbeats 1000000 in
theorem alive_any (w : World) : Calls Tryd.prog 12 #[] w fun e w' => e = .returned (.bool true) ∧ Below w.heap.size w w' := by
  go_enter Tryd.func12, Tryd.ntmps12
  go_wp2_with fail
  refine (ex_to w).mono ?_
  rintro e w1 ⟨g, cap, rfl, hc1, hb1⟩
  go_wp2_with fail
  refine (ex_dist w1).mono ?_
  rintro e w2 ⟨rfl, hb2⟩
  have hc2 : w2.cell? ⟨g, 0, none⟩ = some (.int .i64 0) := (hb2.cell (World.block_lt_of_cell? _ _ hc1)).trans hc1
  clear hc1
  go_wp2_with fail
  refine (ex_from w2).mono ?_
  rintro e w3 ⟨rfl, hb3⟩
  have hc3 : w3.cell? ⟨g, 0, none⟩ = some (.int .i64 0) := (hb3.cell (World.block_lt_of_cell? _ _ hc2)).trans hc2
  clear hc2
  go_wp2_with fail
  go_outline
  go_ret
  exact ⟨rfl, bchain (bchain hb1 hb2) hb3⟩
end Go.Proofs.YtknppmfnmbkebaaDoor
