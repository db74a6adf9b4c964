/-
  The law ConvcodePrefix, walked.
-/
import Derived.Test.YtokjmcndjhdhfaaDoorConvLaw2
import Derived.Test.YtokjmcndjhdhfaaDoorConvPre
namespace Go.Proofs.YtokjmcndjhdhfaaDoor
open Go.RowKit

theorem below_drewN3 {B : Nat} {a w : World} (h : Below B a w) (n : Nat) : Below B a (w.drewN n) := ⟨h.os, h.tape, h.output, h.size, h.block⟩

set_option maxHeartbeats 2000000 in
theorem law_prefix (a0 a1 : ByteArray) (a2 : Int) (w0 : a0.size ≤ 140737488351232) (w1 : a1.size ≤ 140737488351232) (w2 : (Lit.int .u8 a2).wf = true) (w : World) :
    Calls Tryd.prog 7 #[.string a0, .string a1, .int .u8 a2] w fun e w' => e = .returned (.bool true) ∧ Below w.heap.size w w' := by
  obtain ⟨n, rfl, hn⟩ := u8_nat w2
  clear w2
  have hl0 := toList_length a0
  have hl1 := toList_length a1
  obtain ⟨P, hP⟩ : ∃ X, a0 ++ a1 = X := ⟨_, rfl⟩
  have zP : P.size = a0.size + a1.size := by rw [← hP, ByteArray.size_append]
  have dP : P.data.toList = a0.data.toList ++ a1.data.toList := by rw [← hP, app_data]
  have zP1 : P.size ≤ 9223372036854775807 := by omega
  have z01 : a0.size ≤ 9223372036854775807 := by omega
  by_cases h1 : 1000 < (a0.size : Int) + a1.size
  · clear dP
    go_enter Tryd.func7, Tryd.ntmps7
    go_wp2_with (go_at_call 11; refine (alive_any _).mono ?_; rintro e w1 ⟨rfl, hb1⟩)
    refine (encode_any P _ zP1).mono ?_
    rintro e w2 ⟨rfl, hb2⟩
    go_wp2_with fail
    refine (encode_any a0 _ z01).mono ?_
    rintro e w3 ⟨rfl, hb3⟩
    go_wp2_with fail
    go_ret
    exact ⟨rfl, bchain (bchain hb1 hb2) hb3⟩
  cases hk : Conv.ok P.data.toList
  · obtain ⟨e1, e2⟩ := Conv.enc_bad (s := P.data.toList) (by rw [toList_length]; omega) hk
    have E2 := Lib.hid e2
    clear e1 e2 hk dP
    go_enter Tryd.func7, Tryd.ntmps7
    go_wp2_with (go_at_call 11; refine (alive_any _).mono ?_; rintro e w1 ⟨rfl, hb1⟩)
    refine (encode_any P _ zP1).mono ?_
    rintro e w2 ⟨rfl, hb2⟩
    rw [E2.out]
    go_wp2_with fail
    refine (encode_any a0 _ z01).mono ?_
    rintro e w3 ⟨rfl, hb3⟩
    go_wp2_with fail
    go_ret
    exact ⟨rfl, bchain (bchain hb1 hb2) hb3⟩
  have hk0 : Conv.ok a0.data.toList = true := by
    rw [dP, Conv.ok_append, Bool.and_eq_true] at hk
    exact hk.1
  obtain ⟨e1, e2⟩ := Conv.enc_ok (s := P.data.toList) (by rw [toList_length]; omega) hk
  obtain ⟨e3, e4⟩ := Conv.enc_ok (s := a0.data.toList) (by rw [toList_length]; omega) hk0
  rw [dP] at e1
  have t1 := Conv.code_take a0.data.toList a1.data.toList
  rw [← Conv.code_take_self a0.data.toList, ← e1, ← e3, ← dP, hl0] at t1
  have zX : (⟨(Conv.encX P.data.toList).toArray⟩ : ByteArray).size = 2 * P.size + 4 := by rw [mk_size, dP, e1, Conv.code_length, ← dP, toList_length]
  have zY : (⟨(Conv.encX a0.data.toList).toArray⟩ : ByteArray).size = 2 * a0.size + 4 := by rw [mk_size, e3, Conv.code_length, toList_length]
  have dX : (⟨(Conv.encX P.data.toList).toArray⟩ : ByteArray).data.toList = Conv.encX P.data.toList := rfl
  have dY : (⟨(Conv.encX a0.data.toList).toArray⟩ : ByteArray).data.toList = Conv.encX a0.data.toList := rfl
  rw [← dX, ← dY] at t1
  rw [← dY] at e3
  generalize hX : (⟨(Conv.encX P.data.toList).toArray⟩ : ByteArray) = X at zX dX t1
  generalize hY : (⟨(Conv.encX a0.data.toList).toArray⟩ : ByteArray) = Y at zY dY t1 e3
  have T1 := Lib.hid t1
  have E2 := Lib.hid e2
  have E4 := Lib.hid e4
  have E3 := Lib.hid e3
  have HX := Lib.hid hX
  have HY := Lib.hid hY
  have HK0 := Lib.hid hk0
  clear t1 e1 e2 e3 e4 hX hY dX dY hk hk0 dP
  go_enter Tryd.func7, Tryd.ntmps7
  go_wp2_with (go_at_call 11; refine (alive_any _).mono ?_; rintro e w1 ⟨rfl, hb1⟩)
  refine (encode_any P _ zP1).mono ?_
  rintro e w2 ⟨rfl, hb2⟩
  rw [E2.out, HX.out]
  go_wp2_with fail
  refine (encode_any a0 _ z01).mono ?_
  rintro e w3 ⟨rfl, hb3⟩
  rw [E4.out, HY.out]
  have hc3 := bchain (bchain hb1 hb2) hb3
  clear hb1 hb2 hb3
  have hcmp : ((X.extract 0 (2 * a0.size)).toList == (Y.extract 0 (2 * a0.size)).toList) = true := by
    rw [Lib.toList_data, Lib.toList_data, Lib.extract_data, Lib.extract_data, List.drop_zero, List.drop_zero, Nat.sub_zero, T1.out, beq_iff_eq]
  have hbX : 2 * (a0.size : Int) ≤ (X.size : Int) := by omega
  have hbY : 2 * (a0.size : Int) ≤ (Y.size : Int) := by omega
  go_wp2_with fail
  go_quiet (fail)
  have hc4 := below_drewN3 hc3 nq
  clear hc3 T1
  have hm21 : n % 20 < 20 := Nat.mod_lt _ (by omega)
  go_wp2_with fail
  go_loopg [11, 12, 56] (n % 20) (fun g zv cv iv wr => ∃ (k : Nat) (F G : ByteArray), g = n % 20 - k ∧ k ≤ n % 20 ∧ zv = .string F ∧ cv = .string G ∧ iv = .int .u8 k ∧ Hid (F.data.toList = List.replicate k 48) ∧ F.size = k ∧ Hid (G.data.toList = List.replicate (2 * k) 48) ∧ G.size = 2 * k ∧ wr = w3.drewN nq)
  case atStart => exact ⟨0, ⟨#[]⟩, ⟨#[]⟩, rfl, Nat.zero_le _, rfl, rfl, rfl, rfl, rfl, rfl, rfl, rfl⟩
  case round =>
    obtain ⟨k, F, G, hg, hk, rfl, rfl, rfl, hF, zF, hG, zG, rfl⟩ := hrel
    have HG := Lib.hid hg
    clear hg
    by_cases hlt : k < n % 20
    · have zF2 : (F ++ (⟨#[48]⟩ : ByteArray)).size = F.size + 1 := ByteArray.size_append
      have zG2 : (G ++ (⟨#[48, 48]⟩ : ByteArray)).size = G.size + 2 := ByteArray.size_append
      have dF2 : Hid ((F ++ (⟨#[48]⟩ : ByteArray)).data.toList = List.replicate (k + 1) 48) := by
        refine Lib.hid ?_
        rw [app_data, hF.out, ← List.replicate_append_replicate]
        rfl
      have dG2 : Hid ((G ++ (⟨#[48, 48]⟩ : ByteArray)).data.toList = List.replicate (2 * (k + 1)) 48) := by
        refine Lib.hid ?_
        rw [app_data, hG.out, show 2 * (k + 1) = 2 * k + 2 by omega, ← List.replicate_append_replicate]
        rfl
      have hkI : (k : Int) < (n : Int) % 20 := by omega
      go_wp2_with fail
      go_roundg (n % 20 - (k + 1))
      case measure => have := HG.out; omega
      case rel => exact ⟨k + 1, _, _, rfl, by omega, rfl, rfl, by go_num, dF2, by rw [zF2, zF], dG2, by rw [zG2, zG]; omega, rfl⟩
    · have hkI : ¬ (k : Int) < (n : Int) % 20 := by omega
      obtain ⟨Q, hQ⟩ : ∃ V, a0 ++ F = V := ⟨_, rfl⟩
      obtain ⟨R, hR⟩ : ∃ V, Y ++ G = V := ⟨_, rfl⟩
      have zQ : Q.size = a0.size + k := by rw [← hQ, ByteArray.size_append, zF]
      have dQ : Q.data.toList = a0.data.toList ++ List.replicate k 48 := by rw [← hQ, app_data, hF.out]
      have dR : R.data.toList = Conv.code a0.data.toList ++ List.replicate (2 * k) 48 := by rw [← hR, app_data, hG.out, E3.out]
      have hkQ : Conv.ok Q.data.toList = true := by rw [dQ, Conv.ok_append, HK0.out, Conv.ok_zeros]; rfl
      obtain ⟨e1, e2⟩ := Conv.enc_ok (s := Q.data.toList) (by rw [toList_length]; omega) hkQ
      have e3 : (⟨(Conv.encX Q.data.toList).toArray⟩ : ByteArray) = R := by
        refine of_toList ?_
        rw [dR, ← Conv.code_zeros, ← dQ]
        exact e1
      have B2 := Lib.hid e2
      have B3 := Lib.hid e3
      have zQ1 : Q.size ≤ 9223372036854775807 := by omega
      clear dQ dR hkQ e1 e2 e3
      go_wp2_with fail
      refine (encode_any Q _ zQ1).mono ?_
      rintro e w9 ⟨rfl, hb9⟩
      rw [B2.out, B3.out]
      go_wp2_with fail
      go_ret
      exact ⟨rfl, bchain hc4 hb9⟩
end Go.Proofs.YtokjmcndjhdhfaaDoor
