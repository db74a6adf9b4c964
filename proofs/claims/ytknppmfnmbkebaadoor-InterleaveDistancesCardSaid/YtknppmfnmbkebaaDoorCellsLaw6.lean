/-
  The law InterleaveDistances, walked.
-/
import Derived.Test.YtknppmfnmbkebaaDoorCellsLaw2
import Derived.Test.YtknppmfnmbkebaaDoorCellsInter
import Derived.Test.YtknppmfnmbkebaaDoorItInterTop
import Derived.StillTailTactics
import Derived.Deep.RegionWith
namespace Go.Proofs.YtknppmfnmbkebaaDoor
open Go.RowKit

set_option maxHeartbeats 2000000 in
theorem law_idist (a0 a1 : ByteArray) (a2 : Int) (w0 : a0.size ≤ 140737488351232) (w1 : a1.size ≤ 140737488351232) (w2 : (Lit.int .i64 a2).wf = true) (w : World) :
    Calls Tryd.prog 11 #[.string a0, .string a1, .int .i64 a2] w fun e w' => e = .returned (.bool true) ∧ Below w.heap.size w w' := by
  have hw2 : -9223372036854775808 ≤ a2 ∧ a2 ≤ 9223372036854775807 := by simpa [Lit.wf, IntKind.min, IntKind.max, IntKind.signed, IntKind.bits] using w2
  clear w2
  by_cases h1 : 900 < min (a0.size : Int) (a1.size : Int)
  · go_enter Tryd.func11, Tryd.ntmps11
    go_wp2_with (go_at_call 29; refine (It.awake_any _).mono ?_; rintro e w1 ⟨rfl, hb1⟩)
    go_ret
    exact ⟨rfl, hb1⟩
  obtain ⟨n, hmin, hn0, hn1, hn9⟩ : ∃ n : Nat, min (a0.size : Int) (a1.size : Int) = (n : Int) ∧ n ≤ a0.size ∧ n ≤ a1.size ∧ n ≤ 900 := ⟨min a0.size a1.size, by omega, by omega, by omega, by omega⟩
  clear h1
  by_cases h2 : a2 < 1
  · go_enter Tryd.func11, Tryd.ntmps11
    go_wp2_with (go_at_call 29; refine (It.awake_any _).mono ?_; rintro e w1 ⟨rfl, hb1⟩)
    go_ret
    exact ⟨rfl, hb1⟩
  cases hka : Cells.ok a0.data.toList
  · go_enter Tryd.func11, Tryd.ntmps11
    go_wp2_with fail
    refine (check_any a0 _ (by omega)).mono ?_
    rintro e w1 ⟨rfl, hb1⟩
    rw [Cells.err_bad hka]
    go_wp2_with (go_at_call 29; refine (It.awake_any _).mono ?_; rintro e w2 ⟨rfl, hb2⟩)
    go_ret
    exact ⟨rfl, bchain hb1 hb2⟩
  cases hkb : Cells.ok a1.data.toList
  · go_enter Tryd.func11, Tryd.ntmps11
    go_wp2_with fail
    refine (check_any a0 _ (by omega)).mono ?_
    rintro e w1 ⟨rfl, hb1⟩
    rw [Cells.err_ok hka]
    go_wp2_with fail
    refine (check_any a1 _ (by omega)).mono ?_
    rintro e w2 ⟨rfl, hb2⟩
    rw [Cells.err_bad hkb]
    go_wp2_with (go_at_call 29; refine (It.awake_any _).mono ?_; rintro e w3 ⟨rfl, hb3⟩)
    go_ret
    exact ⟨rfl, bchain (bchain hb1 hb2) hb3⟩
  obtain ⟨r, rfl⟩ := Int.eq_ofNat_of_zero_le (show 0 ≤ a2 by omega)
  have hr : 0 < r := by omega
  have KA := Lib.hid hka
  have KB := Lib.hid hkb
  clear hka hkb
  have zA : (a0.extract 0 n).size = n := by rw [ByteArray.size_extract]; omega
  have zB : (a1.extract 0 n).size = n := by rw [ByteArray.size_extract]; omega
  have dA : (a0.extract 0 n).data.toList = a0.data.toList.take n := by rw [Lib.extract_data, List.drop_zero, Nat.sub_zero]
  have dB : (a1.extract 0 n).data.toList = a1.data.toList.take n := by rw [Lib.extract_data, List.drop_zero, Nat.sub_zero]
  go_enter Tryd.func11, Tryd.ntmps11
  go_wp2_with fail
  refine (check_any a0 _ (by omega)).mono ?_
  rintro e w1 ⟨rfl, hb1⟩
  rw [Cells.err_ok KA.out]
  go_wp2_with fail
  refine (check_any a1 _ (by omega)).mono ?_
  rintro e w2 ⟨rfl, hb2⟩
  rw [Cells.err_ok KB.out]
  have hc2 := bchain hb1 hb2
  clear hb1 hb2
  go_wp2_with fail
  have DA := Lib.hid dA
  have DB := Lib.hid dB
  clear dA dB
  refine (It.Interleave_abs (a0.extract 0 n) r _ (by omega) (by omega) (by omega)).mono ?_
  rintro e w3 ⟨X, rfl, hX, zX, hb3⟩
  have zX := zX.out
  rw [zA] at zX
  have hc3 := bchain hc2 hb3
  clear hc2 hb3
  go_wp2_with fail
  refine (It.Interleave_abs (a1.extract 0 n) r _ (by omega) (by omega) (by omega)).mono ?_
  rintro e w4 ⟨Y, rfl, hY, zY, hb4⟩
  have zY := zY.out
  rw [zB] at zY
  have hc4 := bchain hc3 hb4
  clear hc3 hb4
  go_wp2_with fail
  have kA : Cells.ok (a0.extract 0 n).data.toList = true := by rw [DA.out]; exact It.Inter.ok_take _ _ KA.out
  have kB : Cells.ok (a1.extract 0 n).data.toList = true := by rw [DB.out]; exact It.Inter.ok_take _ _ KB.out
  have lAB : (a0.extract 0 n).data.toList.length = (a1.extract 0 n).data.toList.length := by rw [toList_length, toList_length, zA, zB]
  have hX := hX.out
  have hY := hY.out
  rw [Int.toNat_natCast] at hX hY
  have kX : Cells.ok X.data.toList = true := by rw [hX]; exact It.Inter.ok_inter _ _ hr kA
  have kY : Cells.ok Y.data.toList = true := by rw [hY]; exact It.Inter.ok_inter _ _ hr kB
  have lXY : X.data.toList.length = Y.data.toList.length := by rw [toList_length, toList_length, zX, zY]
  have hd : Cells.dist X.data.toList Y.data.toList = Cells.dist (a0.extract 0 n).data.toList (a1.extract 0 n).data.toList := by rw [hX, hY]; exact It.Inter.dist_inter _ _ _ hr lAB
  have hu : Cells.unread X.data.toList = Cells.unread (a0.extract 0 n).data.toList := by rw [hX]; exact It.Inter.unread_inter _ _ hr
  have vAB := Lib.hid (Cells.distV_ok (by rw [kA, kB]; rfl) lAB)
  have eAB := Lib.hid (Cells.distE_ok (by rw [kA, kB]; rfl) lAB)
  have vXY := Cells.distV_ok (by rw [kX, kY]; rfl) lXY
  rw [hd] at vXY
  have vXY := Lib.hid vXY
  have eXY := Lib.hid (Cells.distE_ok (by rw [kX, kY]; rfl) lXY)
  have HU := Lib.hid hu
  clear hX hY kA kB lAB kX kY lXY hd hu
  generalize Cells.dist (a0.extract 0 n).data.toList (a1.extract 0 n).data.toList = D at vXY vAB
  go_region_with (go_at_call 18; refine (dist_any (a0.extract 0 n) (a1.extract 0 n) _ (by omega) (by omega)).mono ?_; rintro e w6 ⟨rfl, hb6⟩; rw [vAB.out, eAB.out]; have hc6 := bchain (bdrew hc4 1) hb6)
  go_wp2_with fail
  refine (dist_any X Y _ (by omega) (by omega)).mono ?_
  rintro e w7 ⟨rfl, hb7⟩
  rw [vXY.out, eXY.out]
  have hc7 := bchain hc6 hb7
  clear hc6 hb7
  go_wp2_with fail
  have hs1 := (unread_any X w7.drew).mono fun e w'' h => (⟨h.1, h.2.symm⟩ : e = .returned (.int .i64 (Cells.unread X.data.toList)) ∧ w'' = w7.drew)
  have hs2 := (unread_any (a0.extract 0 n) w7.drew).mono fun e w'' h => (⟨h.1, h.2.symm⟩ : e = .returned (.int .i64 (Cells.unread (a0.extract 0 n).data.toList)) ∧ w'' = w7.drew)
  rw [HU.out] at hs1
  generalize Cells.unread (a0.extract 0 n).data.toList = U at hs1 hs2
  go_still_tail 29, (by kernel_rfl)
  still_call hs1
  repeat still_step
  still_call hs2
  repeat still_step
  refine wpStill_nil ?_
  change wpList _ _ _ _ _ w7.drew
  have hc8 := bdrew hc7 1
  change Below _ _ w7.drew at hc8
  generalize w7.drew = w8 at hc8 ⊢
  go_wp2_with fail
  refine (It.awake_any _).mono ?_
  rintro e w9 ⟨rfl, hb9⟩
  go_wp2_with fail
  go_ret
  exact ⟨rfl, bchain hc8 hb9⟩
end Go.Proofs.YtknppmfnmbkebaaDoor
