/-
  The law ConvcodeRoundTrip, walked.
-/
import Derived.Test.YtokjmcndjhdhfaaDoorConvExtA
import Derived.Test.YtokjmcndjhdhfaaDoorConvLaw2
namespace Go.Proofs.YtokjmcndjhdhfaaDoor
open Go.RowKit


theorem set_join (s : ByteArray) (i : Nat) (x : UInt8) (hi : i < s.size) : (s.extract 0 i ++ (⟨#[x]⟩ : ByteArray) ++ s.extract (i + 1) s.size).data.toList = s.data.toList.set i x := by
  rw [app_data, app_data, Lib.extract_data, Lib.extract_data, List.drop_zero, Nat.sub_zero, List.set_eq_take_append_cons_drop, if_pos (by rw [toList_length]; exact hi), List.append_assoc]
  congr 1
  rw [List.take_of_length_le (by rw [List.length_drop, toList_length]; omega)]
  rfl
theorem one_cell (s : ByteArray) (i : Nat) (hi : i < s.size) : (s.extract i (i + 1)).data.toList = [s[i]] := by
  rw [Lib.extract_data, show i + 1 - i = 1 by omega, List.drop_eq_getElem_cons (by rw [toList_length]; exact hi)]
  rfl

set_option maxHeartbeats 2000000 in
theorem law_round_1 (a0 : ByteArray) (k t : Nat) (z0 : a0.size ≤ 9223372036854775807) (h1 : 1000 < (a0.size : Int) ∨ Conv.ok a0.data.toList = false) (w : World) :
    Calls Tryd.prog 5 #[.string a0, .int .u16 k, .int .u8 t] w fun e w' => e = .returned (.bool true) ∧ Below w.heap.size w w' := by
  by_cases hb : 1000 < (a0.size : Int)
  · clear h1
    go_enter Tryd.func5, Tryd.ntmps5
    go_wp2_with (go_at_call 11; refine (alive_any _).mono ?_; rintro e w1 ⟨rfl, hb1⟩)
    refine (encode_any a0 _ z0).mono ?_
    rintro e w2 ⟨rfl, hb2⟩
    go_wp2_with fail
    go_ret
    exact ⟨rfl, bchain hb1 hb2⟩
  · have hl0 := toList_length a0
    obtain ⟨e1, e2⟩ := Conv.enc_bad (s := a0.data.toList) (by omega) (h1.resolve_left hb)
    have E2 := Lib.hid e2
    clear e1 e2 h1
    go_enter Tryd.func5, Tryd.ntmps5
    go_wp2_with (go_at_call 11; refine (alive_any _).mono ?_; rintro e w1 ⟨rfl, hb1⟩)
    refine (encode_any a0 _ z0).mono ?_
    rintro e w2 ⟨rfl, hb2⟩
    rw [E2.out]
    go_wp2_with fail
    go_ret
    exact ⟨rfl, bchain hb1 hb2⟩

set_option maxHeartbeats 2000000 in
theorem law_round_c0 (a0 : ByteArray) (k t : Nat) (hk : k < 65536) (ht : t < 256) (h1 : ¬ 1000 < (a0.size : Int)) (hok : Conv.ok a0.data.toList = true) (hm : t % 3 = 0) (w : World) :
    Calls Tryd.prog 5 #[.string a0, .int .u16 k, .int .u8 t] w fun e w' => e = .returned (.bool true) ∧ Below w.heap.size w w' := by
  have hl0 := toList_length a0
  have z0 : a0.size ≤ 9223372036854775807 := by omega
  have hmI : (t : Int) % 3 = 0 := by omega
  have hsl : (⟨#[48, 49, 63]⟩ : ByteArray).extract 0 1 = ⟨#[48]⟩ := by decide +kernel
  obtain ⟨e1, e2⟩ := Conv.enc_ok (s := a0.data.toList) (by omega) hok
  obtain ⟨X, hX⟩ : ∃ V : ByteArray, ⟨(Conv.encX a0.data.toList).toArray⟩ = V := ⟨_, rfl⟩
  have dX : X.data.toList = Conv.code a0.data.toList := by rw [← hX]; exact e1
  have zX : X.size = 2 * a0.size + 4 := by rw [← toList_length, dX, Conv.code_length, hl0]
  obtain ⟨i, hi⟩ : ∃ i : Nat, k % X.size = i := ⟨_, rfl⟩
  have hiX : i < X.size := by rw [← hi]; exact Nat.mod_lt _ (by omega)
  have hiI : (k : Int) % (X.size : Int) = (i : Int) := by rw [← hi]; exact (Int.natCast_emod _ _).symm
  obtain ⟨x1, x2⟩ := Conv.ans_code a0.data.toList hok (by omega)
  rw [← dX] at x1 x2
  have x3 : (⟨(Conv.ansX X.data.toList).toArray⟩ : ByteArray) = a0 := by rw [x1]
  obtain ⟨D, hD⟩ : ∃ V : ByteArray, X.extract 0 i ++ (⟨#[48]⟩ : ByteArray) ++ X.extract (i + 1) X.size = V := ⟨_, rfl⟩
  have dD : D.data.toList = X.data.toList.set i 48 := by rw [← hD]; exact set_join X i 48 hiX
  have zD : D.size = X.size := by rw [← toList_length, dD, List.length_set, toList_length]
  have hE := one_cell X i hiX
  have hcmp : ([48] == (X.extract i (i + 1)).toList) = (X[i] == 48) := by
    rw [Lib.toList_data, hE, Bool.eq_iff_iff, beq_iff_eq, beq_iff_eq]
    constructor
    · intro h
      injection h with h _
      exact h.symm
    · intro h
      rw [h]
  cases hc : (X[i] == 48)
  · rw [hc] at hcmp
    have hne : X.data.toList[i]'(by rw [toList_length]; exact hiX) ≠ 48 := by
      have : X[i] ≠ 48 := by simpa using hc
      exact this
    have hans : Conv.ansX D.data.toList = [] ∧ Conv.ansE D.data.toList = 11 := by
      have h := Conv.ans_set a0.data.toList (by omega) hok i (by rw [← dX, toList_length]; exact hiX) 48 rfl (by simpa only [dX] using hne)
      rw [dD, dX]
      exact h
    obtain ⟨y1, y2⟩ := hans
    have HX := Lib.hid hX
    have E2 := Lib.hid e2
    have X2 := Lib.hid x2
    have X3 := Lib.hid x3
    have Y1 := Lib.hid y1
    have Y2 := Lib.hid y2
    have HI := Lib.hid hiI
    have ZX := Lib.hid zX
    have ZD := Lib.hid zD
    have hZ1 : (X.size : Int) = 2 * (a0.size : Int) + 4 := by omega
    have hzb : (((X.size : Int)) != 2 * (a0.size : Int) + 4) = false := by rw [bne_eq_false_iff_eq]; exact hZ1
    have zDb : D.size ≤ 65536 := by omega
    have zXb : X.size ≤ 65536 := by omega
    have zX0 : 4 ≤ X.size := by omega
    have hEz : (X.extract i (i + 1)).size = 1 := by rw [← toList_length, hE]; rfl
    clear hX e1 e2 x1 x2 x3 y1 y2 dX dD hne hc hE hok hi hm hZ1 zX zD
    go_enter Tryd.func5, Tryd.ntmps5
    go_wp2_with (go_at_call 11; refine (alive_any _).mono ?_; rintro e w1 ⟨rfl, hb1⟩)
    refine (encode_any a0 _ z0).mono ?_
    rintro e w2 ⟨rfl, hb2⟩
    rw [E2.out, HX.out]
    go_wp2_with fail
    refine (extract_all X _ zXb).mono ?_
    rintro e w3 ⟨rfl, hb3⟩
    rw [X2.out, X3.out]
    have hc3 := bchain (bchain hb1 hb2) hb3
    clear hb1 hb2 hb3
    go_wp2_with fail
    rw [hiI]
    have q1 : IntKind.i64.wrap ((i : Int) + 1) = (i : Int) + 1 := IntWalk.i64_in _ (by omega)
    have q2 : (0 : Int) ≤ (i : Int) + 1 := by omega
    have q3 : ((i : Int) + 1).toNat = i + 1 := by omega
    have q4 : (i : Int) + 1 ≤ (X.size : Int) := by omega
    have q5 : (i : Int) ≤ (X.size : Int) := by omega
    have q6 : (0 : Int) ≤ (i : Int) := by omega
    go_region_with (go_at_call 12; refine (extract_all D _ zDb).mono ?_; rintro e w4 ⟨rfl, hb4⟩; rw [Y1.out, Y2.out]; have hc4 := bchain (bdrew hc3 1) hb4)
    go_wp2_with fail
    go_ret
    exact ⟨rfl, hc4⟩
  · rw [hc] at hcmp
    have HX := Lib.hid hX
    have E2 := Lib.hid e2
    have X2 := Lib.hid x2
    have X3 := Lib.hid x3
    have hZ1 : (X.size : Int) = 2 * (a0.size : Int) + 4 := by omega
    have hzb : (((X.size : Int)) != 2 * (a0.size : Int) + 4) = false := by rw [bne_eq_false_iff_eq]; exact hZ1
    have zXb : X.size ≤ 65536 := by omega
    have zX0 : 4 ≤ X.size := by omega
    have hEz : (X.extract i (i + 1)).size = 1 := by rw [← toList_length, hE]; rfl
    clear hX hD e1 e2 x1 x2 x3 dX dD hc hE hok hi hm hZ1 zX zD
    go_enter Tryd.func5, Tryd.ntmps5
    go_wp2_with (go_at_call 11; refine (alive_any _).mono ?_; rintro e w1 ⟨rfl, hb1⟩)
    refine (encode_any a0 _ z0).mono ?_
    rintro e w2 ⟨rfl, hb2⟩
    rw [E2.out, HX.out]
    go_wp2_with fail
    refine (extract_all X _ zXb).mono ?_
    rintro e w3 ⟨rfl, hb3⟩
    rw [X2.out, X3.out]
    have hc3 := bchain (bchain hb1 hb2) hb3
    clear hb1 hb2 hb3
    go_wp2_with fail
    go_ret
    exact ⟨rfl, hc3⟩

set_option maxHeartbeats 2000000 in
theorem law_round_c1 (a0 : ByteArray) (k t : Nat) (hk : k < 65536) (ht : t < 256) (h1 : ¬ 1000 < (a0.size : Int)) (hok : Conv.ok a0.data.toList = true) (hm : t % 3 = 1) (w : World) :
    Calls Tryd.prog 5 #[.string a0, .int .u16 k, .int .u8 t] w fun e w' => e = .returned (.bool true) ∧ Below w.heap.size w w' := by
  have hl0 := toList_length a0
  have z0 : a0.size ≤ 9223372036854775807 := by omega
  have hmI : (t : Int) % 3 = 1 := by omega
  have hsl : (⟨#[48, 49, 63]⟩ : ByteArray).extract 1 2 = ⟨#[49]⟩ := by decide +kernel
  obtain ⟨e1, e2⟩ := Conv.enc_ok (s := a0.data.toList) (by omega) hok
  obtain ⟨X, hX⟩ : ∃ V : ByteArray, ⟨(Conv.encX a0.data.toList).toArray⟩ = V := ⟨_, rfl⟩
  have dX : X.data.toList = Conv.code a0.data.toList := by rw [← hX]; exact e1
  have zX : X.size = 2 * a0.size + 4 := by rw [← toList_length, dX, Conv.code_length, hl0]
  obtain ⟨i, hi⟩ : ∃ i : Nat, k % X.size = i := ⟨_, rfl⟩
  have hiX : i < X.size := by rw [← hi]; exact Nat.mod_lt _ (by omega)
  have hiI : (k : Int) % (X.size : Int) = (i : Int) := by rw [← hi]; exact (Int.natCast_emod _ _).symm
  obtain ⟨x1, x2⟩ := Conv.ans_code a0.data.toList hok (by omega)
  rw [← dX] at x1 x2
  have x3 : (⟨(Conv.ansX X.data.toList).toArray⟩ : ByteArray) = a0 := by rw [x1]
  obtain ⟨D, hD⟩ : ∃ V : ByteArray, X.extract 0 i ++ (⟨#[49]⟩ : ByteArray) ++ X.extract (i + 1) X.size = V := ⟨_, rfl⟩
  have dD : D.data.toList = X.data.toList.set i 49 := by rw [← hD]; exact set_join X i 49 hiX
  have zD : D.size = X.size := by rw [← toList_length, dD, List.length_set, toList_length]
  have hE := one_cell X i hiX
  have hcmp : ([49] == (X.extract i (i + 1)).toList) = (X[i] == 49) := by
    rw [Lib.toList_data, hE, Bool.eq_iff_iff, beq_iff_eq, beq_iff_eq]
    constructor
    · intro h
      injection h with h _
      exact h.symm
    · intro h
      rw [h]
  cases hc : (X[i] == 49)
  · rw [hc] at hcmp
    have hne : X.data.toList[i]'(by rw [toList_length]; exact hiX) ≠ 49 := by
      have : X[i] ≠ 49 := by simpa using hc
      exact this
    have hans : Conv.ansX D.data.toList = [] ∧ Conv.ansE D.data.toList = 11 := by
      have h := Conv.ans_set a0.data.toList (by omega) hok i (by rw [← dX, toList_length]; exact hiX) 49 rfl (by simpa only [dX] using hne)
      rw [dD, dX]
      exact h
    obtain ⟨y1, y2⟩ := hans
    have HX := Lib.hid hX
    have E2 := Lib.hid e2
    have X2 := Lib.hid x2
    have X3 := Lib.hid x3
    have Y1 := Lib.hid y1
    have Y2 := Lib.hid y2
    have HI := Lib.hid hiI
    have ZX := Lib.hid zX
    have ZD := Lib.hid zD
    have hZ1 : (X.size : Int) = 2 * (a0.size : Int) + 4 := by omega
    have hzb : (((X.size : Int)) != 2 * (a0.size : Int) + 4) = false := by rw [bne_eq_false_iff_eq]; exact hZ1
    have zDb : D.size ≤ 65536 := by omega
    have zXb : X.size ≤ 65536 := by omega
    have zX0 : 4 ≤ X.size := by omega
    have hEz : (X.extract i (i + 1)).size = 1 := by rw [← toList_length, hE]; rfl
    clear hX e1 e2 x1 x2 x3 y1 y2 dX dD hne hc hE hok hi hm hZ1 zX zD
    go_enter Tryd.func5, Tryd.ntmps5
    go_wp2_with (go_at_call 11; refine (alive_any _).mono ?_; rintro e w1 ⟨rfl, hb1⟩)
    refine (encode_any a0 _ z0).mono ?_
    rintro e w2 ⟨rfl, hb2⟩
    rw [E2.out, HX.out]
    go_wp2_with fail
    refine (extract_all X _ zXb).mono ?_
    rintro e w3 ⟨rfl, hb3⟩
    rw [X2.out, X3.out]
    have hc3 := bchain (bchain hb1 hb2) hb3
    clear hb1 hb2 hb3
    go_wp2_with fail
    rw [hiI]
    have q1 : IntKind.i64.wrap ((i : Int) + 1) = (i : Int) + 1 := IntWalk.i64_in _ (by omega)
    have q2 : (0 : Int) ≤ (i : Int) + 1 := by omega
    have q3 : ((i : Int) + 1).toNat = i + 1 := by omega
    have q4 : (i : Int) + 1 ≤ (X.size : Int) := by omega
    have q5 : (i : Int) ≤ (X.size : Int) := by omega
    have q6 : (0 : Int) ≤ (i : Int) := by omega
    go_region_with (go_at_call 12; refine (extract_all D _ zDb).mono ?_; rintro e w4 ⟨rfl, hb4⟩; rw [Y1.out, Y2.out]; have hc4 := bchain (bdrew hc3 1) hb4)
    go_wp2_with fail
    go_ret
    exact ⟨rfl, hc4⟩
  · rw [hc] at hcmp
    have HX := Lib.hid hX
    have E2 := Lib.hid e2
    have X2 := Lib.hid x2
    have X3 := Lib.hid x3
    have hZ1 : (X.size : Int) = 2 * (a0.size : Int) + 4 := by omega
    have hzb : (((X.size : Int)) != 2 * (a0.size : Int) + 4) = false := by rw [bne_eq_false_iff_eq]; exact hZ1
    have zXb : X.size ≤ 65536 := by omega
    have zX0 : 4 ≤ X.size := by omega
    have hEz : (X.extract i (i + 1)).size = 1 := by rw [← toList_length, hE]; rfl
    clear hX hD e1 e2 x1 x2 x3 dX dD hc hE hok hi hm hZ1 zX zD
    go_enter Tryd.func5, Tryd.ntmps5
    go_wp2_with (go_at_call 11; refine (alive_any _).mono ?_; rintro e w1 ⟨rfl, hb1⟩)
    refine (encode_any a0 _ z0).mono ?_
    rintro e w2 ⟨rfl, hb2⟩
    rw [E2.out, HX.out]
    go_wp2_with fail
    refine (extract_all X _ zXb).mono ?_
    rintro e w3 ⟨rfl, hb3⟩
    rw [X2.out, X3.out]
    have hc3 := bchain (bchain hb1 hb2) hb3
    clear hb1 hb2 hb3
    go_wp2_with fail
    go_ret
    exact ⟨rfl, hc3⟩

set_option maxHeartbeats 2000000 in
theorem law_round_c2 (a0 : ByteArray) (k t : Nat) (hk : k < 65536) (ht : t < 256) (h1 : ¬ 1000 < (a0.size : Int)) (hok : Conv.ok a0.data.toList = true) (hm : t % 3 = 2) (w : World) :
    Calls Tryd.prog 5 #[.string a0, .int .u16 k, .int .u8 t] w fun e w' => e = .returned (.bool true) ∧ Below w.heap.size w w' := by
  have hl0 := toList_length a0
  have z0 : a0.size ≤ 9223372036854775807 := by omega
  have hmI : (t : Int) % 3 = 2 := by omega
  have hsl : (⟨#[48, 49, 63]⟩ : ByteArray).extract 2 3 = ⟨#[63]⟩ := by decide +kernel
  obtain ⟨e1, e2⟩ := Conv.enc_ok (s := a0.data.toList) (by omega) hok
  obtain ⟨X, hX⟩ : ∃ V : ByteArray, ⟨(Conv.encX a0.data.toList).toArray⟩ = V := ⟨_, rfl⟩
  have dX : X.data.toList = Conv.code a0.data.toList := by rw [← hX]; exact e1
  have zX : X.size = 2 * a0.size + 4 := by rw [← toList_length, dX, Conv.code_length, hl0]
  obtain ⟨i, hi⟩ : ∃ i : Nat, k % X.size = i := ⟨_, rfl⟩
  have hiX : i < X.size := by rw [← hi]; exact Nat.mod_lt _ (by omega)
  have hiI : (k : Int) % (X.size : Int) = (i : Int) := by rw [← hi]; exact (Int.natCast_emod _ _).symm
  obtain ⟨x1, x2⟩ := Conv.ans_code a0.data.toList hok (by omega)
  rw [← dX] at x1 x2
  have x3 : (⟨(Conv.ansX X.data.toList).toArray⟩ : ByteArray) = a0 := by rw [x1]
  obtain ⟨D, hD⟩ : ∃ V : ByteArray, X.extract 0 i ++ (⟨#[63]⟩ : ByteArray) ++ X.extract (i + 1) X.size = V := ⟨_, rfl⟩
  have dD : D.data.toList = X.data.toList.set i 63 := by rw [← hD]; exact set_join X i 63 hiX
  have zD : D.size = X.size := by rw [← toList_length, dD, List.length_set, toList_length]
  have hE := one_cell X i hiX
  have hcmp : ([63] == (X.extract i (i + 1)).toList) = (X[i] == 63) := by
    rw [Lib.toList_data, hE, Bool.eq_iff_iff, beq_iff_eq, beq_iff_eq]
    constructor
    · intro h
      injection h with h _
      exact h.symm
    · intro h
      rw [h]
  cases hc : (X[i] == 63)
  · rw [hc] at hcmp
    have hne : X.data.toList[i]'(by rw [toList_length]; exact hiX) ≠ 63 := by
      have : X[i] ≠ 63 := by simpa using hc
      exact this
    have hans : Conv.ansX D.data.toList = [] ∧ Conv.ansE D.data.toList = 11 := by
      have h := Conv.ans_set a0.data.toList (by omega) hok i (by rw [← dX, toList_length]; exact hiX) 63 rfl (by simpa only [dX] using hne)
      rw [dD, dX]
      exact h
    obtain ⟨y1, y2⟩ := hans
    have HX := Lib.hid hX
    have E2 := Lib.hid e2
    have X2 := Lib.hid x2
    have X3 := Lib.hid x3
    have Y1 := Lib.hid y1
    have Y2 := Lib.hid y2
    have HI := Lib.hid hiI
    have ZX := Lib.hid zX
    have ZD := Lib.hid zD
    have hZ1 : (X.size : Int) = 2 * (a0.size : Int) + 4 := by omega
    have hzb : (((X.size : Int)) != 2 * (a0.size : Int) + 4) = false := by rw [bne_eq_false_iff_eq]; exact hZ1
    have zDb : D.size ≤ 65536 := by omega
    have zXb : X.size ≤ 65536 := by omega
    have zX0 : 4 ≤ X.size := by omega
    have hEz : (X.extract i (i + 1)).size = 1 := by rw [← toList_length, hE]; rfl
    clear hX e1 e2 x1 x2 x3 y1 y2 dX dD hne hc hE hok hi hm hZ1 zX zD
    go_enter Tryd.func5, Tryd.ntmps5
    go_wp2_with (go_at_call 11; refine (alive_any _).mono ?_; rintro e w1 ⟨rfl, hb1⟩)
    refine (encode_any a0 _ z0).mono ?_
    rintro e w2 ⟨rfl, hb2⟩
    rw [E2.out, HX.out]
    go_wp2_with fail
    refine (extract_all X _ zXb).mono ?_
    rintro e w3 ⟨rfl, hb3⟩
    rw [X2.out, X3.out]
    have hc3 := bchain (bchain hb1 hb2) hb3
    clear hb1 hb2 hb3
    go_wp2_with fail
    rw [hiI]
    have q1 : IntKind.i64.wrap ((i : Int) + 1) = (i : Int) + 1 := IntWalk.i64_in _ (by omega)
    have q2 : (0 : Int) ≤ (i : Int) + 1 := by omega
    have q3 : ((i : Int) + 1).toNat = i + 1 := by omega
    have q4 : (i : Int) + 1 ≤ (X.size : Int) := by omega
    have q5 : (i : Int) ≤ (X.size : Int) := by omega
    have q6 : (0 : Int) ≤ (i : Int) := by omega
    go_region_with (go_at_call 12; refine (extract_all D _ zDb).mono ?_; rintro e w4 ⟨rfl, hb4⟩; rw [Y1.out, Y2.out]; have hc4 := bchain (bdrew hc3 1) hb4)
    go_wp2_with fail
    go_ret
    exact ⟨rfl, hc4⟩
  · rw [hc] at hcmp
    have HX := Lib.hid hX
    have E2 := Lib.hid e2
    have X2 := Lib.hid x2
    have X3 := Lib.hid x3
    have hZ1 : (X.size : Int) = 2 * (a0.size : Int) + 4 := by omega
    have hzb : (((X.size : Int)) != 2 * (a0.size : Int) + 4) = false := by rw [bne_eq_false_iff_eq]; exact hZ1
    have zXb : X.size ≤ 65536 := by omega
    have zX0 : 4 ≤ X.size := by omega
    have hEz : (X.extract i (i + 1)).size = 1 := by rw [← toList_length, hE]; rfl
    clear hX hD e1 e2 x1 x2 x3 dX dD hc hE hok hi hm hZ1 zX zD
    go_enter Tryd.func5, Tryd.ntmps5
    go_wp2_with (go_at_call 11; refine (alive_any _).mono ?_; rintro e w1 ⟨rfl, hb1⟩)
    refine (encode_any a0 _ z0).mono ?_
    rintro e w2 ⟨rfl, hb2⟩
    rw [E2.out, HX.out]
    go_wp2_with fail
    refine (extract_all X _ zXb).mono ?_
    rintro e w3 ⟨rfl, hb3⟩
    rw [X2.out, X3.out]
    have hc3 := bchain (bchain hb1 hb2) hb3
    clear hb1 hb2 hb3
    go_wp2_with fail
    go_ret
    exact ⟨rfl, hc3⟩

theorem law_round (a0 : ByteArray) (a1 a2 : Int) (w0 : a0.size ≤ 140737488351232) (w1 : (Lit.int .u16 a1).wf = true) (w2 : (Lit.int .u8 a2).wf = true) (w : World) :
    Calls Tryd.prog 5 #[.string a0, .int .u16 a1, .int .u8 a2] w fun e w' => e = .returned (.bool true) ∧ Below w.heap.size w w' := by
  obtain ⟨k, rfl, hk⟩ := u16_nat w1
  obtain ⟨t, rfl, ht⟩ := u8_nat w2
  by_cases h1 : 1000 < (a0.size : Int)
  · exact law_round_1 a0 k t (by omega) (Or.inl h1) w
  cases hok : Conv.ok a0.data.toList
  · exact law_round_1 a0 k t (by omega) (Or.inr hok) w
  have h3 : t % 3 = 0 ∨ t % 3 = 1 ∨ t % 3 = 2 := by omega
  rcases h3 with h | h | h
  · exact law_round_c0 a0 k t hk ht h1 hok h w
  · exact law_round_c1 a0 k t hk ht h1 hok h w
  · exact law_round_c2 a0 k t hk ht h1 hok h w
end Go.Proofs.YtokjmcndjhdhfaaDoor
