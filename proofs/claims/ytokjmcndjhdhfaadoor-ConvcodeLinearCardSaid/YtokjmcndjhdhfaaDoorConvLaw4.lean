/-
  The law ConvcodeLinear, walked.
-/
import Derived.Test.YtokjmcndjhdhfaaDoorConvLin
namespace Go.Proofs.YtokjmcndjhdhfaaDoor
open Go.RowKit

set_option maxHeartbeats 2000000 in
theorem law_linear (a0 a1 : ByteArray) (w0 : a0.size ≤ 140737488351232) (w1 : a1.size ≤ 140737488351232) (w : World) :
    Calls Tryd.prog 6 #[.string a0, .string a1] w fun e w' => e = .returned (.bool true) ∧ Below w.heap.size w w' := by
  have hl0 := toList_length a0
  have hl1 := toList_length a1
  have z0 : a0.size ≤ 9223372036854775807 := by omega
  have z1 : a1.size ≤ 9223372036854775807 := by omega
  by_cases h1 : 1000 < (a0.size : Int)
  · skip
    go_enter Tryd.func6, Tryd.ntmps6
    go_wp2_with (go_at_call 11; refine (alive_any _).mono ?_; rintro e w1 ⟨rfl, hb1⟩)
    refine (encode_any a0 _ z0).mono ?_
    rintro e w2 ⟨rfl, hb2⟩
    go_wp2_with fail
    refine (encode_any a1 _ z1).mono ?_
    rintro e w3 ⟨rfl, hb3⟩
    go_wp2_with fail
    go_ret
    exact ⟨rfl, bchain (bchain hb1 hb2) hb3⟩
  by_cases h2 : a0.size = a1.size
  rotate_left
  · have h2' : ((a0.size : Int) != (a1.size : Int)) = true := by rw [bne_iff_ne]; omega
    go_enter Tryd.func6, Tryd.ntmps6
    go_wp2_with (go_at_call 11; refine (alive_any _).mono ?_; rintro e w1 ⟨rfl, hb1⟩)
    refine (encode_any a0 _ z0).mono ?_
    rintro e w2 ⟨rfl, hb2⟩
    go_wp2_with fail
    refine (encode_any a1 _ z1).mono ?_
    rintro e w3 ⟨rfl, hb3⟩
    go_wp2_with fail
    go_ret
    exact ⟨rfl, bchain (bchain hb1 hb2) hb3⟩
  have h2' : ((a0.size : Int) != (a1.size : Int)) = false := by rw [bne_eq_false_iff_eq]; omega
  cases hk0 : Conv.ok a0.data.toList
  · obtain ⟨e1, e2⟩ := Conv.enc_bad (s := a0.data.toList) (by omega) hk0
    have E2 := Lib.hid e2
    clear e1 e2 hk0
    go_enter Tryd.func6, Tryd.ntmps6
    go_wp2_with (go_at_call 11; refine (alive_any _).mono ?_; rintro e w1 ⟨rfl, hb1⟩)
    refine (encode_any a0 _ z0).mono ?_
    rintro e w2 ⟨rfl, hb2⟩
    rw [E2.out]
    go_wp2_with fail
    refine (encode_any a1 _ z1).mono ?_
    rintro e w3 ⟨rfl, hb3⟩
    go_wp2_with fail
    go_ret
    exact ⟨rfl, bchain (bchain hb1 hb2) hb3⟩
  obtain ⟨e1, e2⟩ := Conv.enc_ok (s := a0.data.toList) (by omega) hk0
  cases hk1 : Conv.ok a1.data.toList
  · obtain ⟨e3, e4⟩ := Conv.enc_bad (s := a1.data.toList) (by omega) hk1
    have E2 := Lib.hid e2
    have E4 := Lib.hid e4
    clear e1 e2 e3 e4 hk0 hk1
    go_enter Tryd.func6, Tryd.ntmps6
    go_wp2_with (go_at_call 11; refine (alive_any _).mono ?_; rintro e w1 ⟨rfl, hb1⟩)
    refine (encode_any a0 _ z0).mono ?_
    rintro e w2 ⟨rfl, hb2⟩
    rw [E2.out]
    go_wp2_with fail
    refine (encode_any a1 _ z1).mono ?_
    rintro e w3 ⟨rfl, hb3⟩
    rw [E4.out]
    go_wp2_with fail
    go_ret
    exact ⟨rfl, bchain (bchain hb1 hb2) hb3⟩
  obtain ⟨e3, e4⟩ := Conv.enc_ok (s := a1.data.toList) (by omega) hk1
  obtain ⟨X, hX⟩ : ∃ V : ByteArray, ⟨(Conv.encX a0.data.toList).toArray⟩ = V := ⟨_, rfl⟩
  obtain ⟨Y, hY⟩ : ∃ V : ByteArray, ⟨(Conv.encX a1.data.toList).toArray⟩ = V := ⟨_, rfl⟩
  obtain ⟨U, hU⟩ : ∃ V : ByteArray, ⟨(List.zipWith Conv.xr a0.data.toList a1.data.toList).toArray⟩ = V := ⟨_, rfl⟩
  obtain ⟨Z, hZ⟩ : ∃ V : ByteArray, ⟨(List.zipWith Conv.xr X.data.toList Y.data.toList).toArray⟩ = V := ⟨_, rfl⟩
  have dX : X.data.toList = Conv.code a0.data.toList := by rw [← hX]; exact e1
  have dY : Y.data.toList = Conv.code a1.data.toList := by rw [← hY]; exact e3
  have dU : U.data.toList = List.zipWith Conv.xr a0.data.toList a1.data.toList := by rw [← hU]
  have dZ : Z.data.toList = List.zipWith Conv.xr X.data.toList Y.data.toList := by rw [← hZ]
  have zX : X.size = 2 * a0.size + 4 := by rw [← toList_length, dX, Conv.code_length, hl0]
  have zY : Y.size = 2 * a1.size + 4 := by rw [← toList_length, dY, Conv.code_length, hl1]
  have zU : U.size = a0.size := by rw [← toList_length, dU, List.length_zipWith, hl0, hl1]; omega
  obtain ⟨e5, e6⟩ := Conv.enc_ok (s := U.data.toList) (by rw [toList_length]; omega) (by rw [dU]; exact Conv.ok_xr _ _)
  have e7 : (⟨(Conv.encX U.data.toList).toArray⟩ : ByteArray) = Z := by
    refine of_toList ?_
    rw [dZ, dX, dY, ← Conv.code_xr _ _ (by omega), ← dU]
    exact e5
  have kX : Conv.ok X.data.toList = true := by rw [dX]; exact Conv.ok_code _
  have kY : Conv.ok Y.data.toList = true := by rw [dY]; exact Conv.ok_code _
  have HX := Lib.hid hX
  have HY := Lib.hid hY
  have HU := Lib.hid hU
  have HZ := Lib.hid hZ
  have E2 := Lib.hid e2
  have E4 := Lib.hid e4
  have E6 := Lib.hid e6
  have E7 := Lib.hid e7
  have K0 := Lib.hid hk0
  have K1 := Lib.hid hk1
  have KX := Lib.hid kX
  have KY := Lib.hid kY
  have zU1 : U.size ≤ 9223372036854775807 := by omega
  clear hX hY hU hZ dX dY dU dZ e1 e2 e3 e4 e5 e6 e7 hk0 hk1 kX kY
  go_enter Tryd.func6, Tryd.ntmps6
  go_wp2_with (go_at_call 11; refine (alive_any _).mono ?_; rintro e w1 ⟨rfl, hb1⟩)
  refine (encode_any a0 _ z0).mono ?_
  rintro e w2 ⟨rfl, hb2⟩
  rw [E2.out, HX.out]
  go_wp2_with fail
  refine (encode_any a1 _ z1).mono ?_
  rintro e w3 ⟨rfl, hb3⟩
  rw [E4.out, HY.out]
  go_wp2_with fail
  refine (xor_any a0 a1 _ (by omega) h2 K0.out K1.out).mono ?_
  rintro e w4 ⟨rfl, hb4⟩
  rw [HU.out]
  go_wp2_with fail
  refine (encode_any U _ zU1).mono ?_
  rintro e w5 ⟨rfl, hb5⟩
  rw [E6.out, E7.out]
  go_wp2_with fail
  refine (xor_any X Y _ (by omega) (by omega) KX.out KY.out).mono ?_
  rintro e w6 ⟨rfl, hb6⟩
  rw [HZ.out]
  go_wp2_with fail
  go_ret
  exact ⟨rfl, bchain (bchain (bchain (bchain (bchain hb1 hb2) hb3) hb4) hb5) hb6⟩
end Go.Proofs.YtokjmcndjhdhfaaDoor
