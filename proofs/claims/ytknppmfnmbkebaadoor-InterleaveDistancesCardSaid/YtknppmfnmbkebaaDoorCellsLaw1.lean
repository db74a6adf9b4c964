/-
  The laws CellsDistance, CellsCheck, CellsInvert, CellsBytes, CellsRoundTrip, walked.
-/
import Derived.Test.YtknppmfnmbkebaaDoorCellsG
namespace Go.Proofs.YtknppmfnmbkebaaDoor
open Go.RowKit

set_option maxHeartbeats 1000000 in
theorem law_distance (a0 a1 : ByteArray) (w0 : a0.size ≤ 140737488351232) (w1 : a1.size ≤ 140737488351232) (w : World) :
    Calls Tryd.prog 4 #[.string a0, .string a1] w fun e w' => e = .returned (.bool true) ∧ Below w.heap.size w w' := by
  by_cases h1 : 4000 < (a0.size : Int) + a1.size
  · go_enter Tryd.func4, Tryd.ntmps4
    go_wp2_with (go_at_call 12; refine (alive_any _).mono ?_; rintro e w1 ⟨rfl, hb1⟩)
    go_ret
    exact ⟨rfl, hb1⟩
  · go_enter Tryd.func4, Tryd.ntmps4
    go_wp2_with (go_at_call 12; refine (alive_any _).mono ?_; rintro e w1 ⟨rfl, hb1⟩)
    refine (dist_any a0 a1 _ (by omega) (by omega)).mono ?_
    rintro e w2 ⟨rfl, hb2⟩
    go_wp2_with fail
    refine (rdist_any a0 a1 _ (by omega) (by omega)).mono ?_
    rintro e w3 ⟨rfl, hb3⟩
    go_wp2_with fail
    go_ret
    exact ⟨rfl, bchain (bchain hb1 hb2) hb3⟩

set_option maxHeartbeats 1000000 in
theorem law_check (a0 : ByteArray) (w0 : a0.size ≤ 140737488351232) (w : World) :
    Calls Tryd.prog 9 #[.string a0] w fun e w' => e = .returned (.bool true) ∧ Below w.heap.size w w' := by
  by_cases h1 : 4000 < (a0.size : Int)
  · go_enter Tryd.func9, Tryd.ntmps9
    go_wp2_with (go_at_call 12; refine (alive_any _).mono ?_; rintro e w1 ⟨rfl, hb1⟩)
    go_ret
    exact ⟨rfl, hb1⟩
  · go_enter Tryd.func9, Tryd.ntmps9
    go_wp2_with (go_at_call 12; refine (alive_any _).mono ?_; rintro e w1 ⟨rfl, hb1⟩)
    refine (check_any a0 _ (by omega)).mono ?_
    rintro e w2 ⟨rfl, hb2⟩
    go_wp2_with fail
    refine (rcheck_any a0 _ (by omega)).mono ?_
    rintro e w3 ⟨rfl, rfl⟩
    go_wp2_with fail
    refine (unread_any a0 _).mono ?_
    rintro e w3 ⟨rfl, rfl⟩
    go_wp2_with fail
    refine (runread_any a0 _ (by omega)).mono ?_
    rintro e w3 ⟨rfl, rfl⟩
    go_wp2_with fail
    refine (invert_any a0 _ (by omega)).mono ?_
    rintro e w3 ⟨rfl, hb3⟩
    generalize hX : (⟨(Cells.invert a0.data.toList).toArray⟩ : ByteArray) = X
    have HX := Lib.hid hX
    clear hX
    go_wp2_with fail
    refine (rinvert_any a0 _ (by omega)).mono ?_
    rintro e w4 ⟨rfl, hb4⟩
    rw [HX.out]
    go_wp2_with fail
    go_ret
    exact ⟨rfl, bchain (bchain (bchain hb1 hb2) hb3) hb4⟩

set_option maxHeartbeats 1000000 in
theorem law_invert (a0 : ByteArray) (w0 : a0.size ≤ 140737488351232) (w : World) :
    Calls Tryd.prog 10 #[.string a0] w fun e w' => e = .returned (.bool true) ∧ Below w.heap.size w w' := by
  by_cases h1 : 4000 < (a0.size : Int)
  · go_enter Tryd.func10, Tryd.ntmps10
    go_wp2_with (go_at_call 12; refine (alive_any _).mono ?_; rintro e w1 ⟨rfl, hb1⟩)
    go_ret
    exact ⟨rfl, hb1⟩
  · go_enter Tryd.func10, Tryd.ntmps10
    go_wp2_with (go_at_call 12; refine (alive_any _).mono ?_; rintro e w1 ⟨rfl, hb1⟩)
    refine (invert_any a0 _ (by omega)).mono ?_
    rintro e w3 ⟨rfl, hb3⟩
    have zX : (⟨(Cells.invert a0.data.toList).toArray⟩ : ByteArray).size ≤ 4000 := by rw [mk_size, Cells.invert_length, toList_length]; omega
    have dX : (⟨(Cells.invert a0.data.toList).toArray⟩ : ByteArray).data.toList = Cells.invert a0.data.toList := rfl
    generalize (⟨(Cells.invert a0.data.toList).toArray⟩ : ByteArray) = X at *
    have DX := Lib.hid dX
    clear dX
    go_wp2_with fail
    refine (invert_any X _ (by omega)).mono ?_
    rintro e w4 ⟨rfl, hb4⟩
    rw [DX.out, Cells.invert_invert, mk_toList]
    go_wp2_with fail
    refine (unread_any X _).mono ?_
    rintro e w5 ⟨rfl, rfl⟩
    rw [DX.out, Cells.unread_invert]
    go_wp2_with fail
    refine (unread_any a0 _).mono ?_
    rintro e w5 ⟨rfl, rfl⟩
    go_wp2_with fail
    refine (check_any X _ (by omega)).mono ?_
    rintro e w5 ⟨rfl, hb5⟩
    have e1 : Cells.err X.data.toList = Cells.err a0.data.toList := by unfold Cells.err; rw [DX.out, Cells.ok_invert]
    rw [e1]
    clear e1
    go_wp2_with fail
    refine (check_any a0 _ (by omega)).mono ?_
    rintro e w6 ⟨rfl, hb6⟩
    go_wp2_with fail
    go_ret
    exact ⟨rfl, bchain (bchain (bchain (bchain hb1 hb3) hb4) hb5) hb6⟩
end Go.Proofs.YtknppmfnmbkebaaDoor
