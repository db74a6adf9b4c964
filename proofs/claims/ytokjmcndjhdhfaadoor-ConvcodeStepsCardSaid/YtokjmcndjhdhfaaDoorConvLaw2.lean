/-
  The laws ConvcodeShift, ConvcodePrefix, walked.
-/
import Derived.Test.YtokjmcndjhdhfaaDoorConvLaw1
namespace Go.Proofs.YtokjmcndjhdhfaaDoor
open Go.RowKit

namespace Conv
theorem ok_cons (s : List UInt8) (h : ok s = true) : ok (48 :: s) = true := by
  unfold ok at h ⊢
  rw [List.all_cons, h]
  rfl
theorem code_cons (s : List UInt8) : code (48 :: s) = 48 :: 48 :: code s := rfl
theorem weight_cons (s : List UInt8) : weight (48 :: 48 :: s) = weight s := by
  unfold weight
  rw [List.count_cons_of_ne (by decide), List.count_cons_of_ne (by decide)]
def zeros (k : Nat) : List UInt8 := List.replicate (2 * k) 48
theorem zeros_succ (k : Nat) : zeros k ++ [48, 48] = zeros (k + 1) := by
  unfold zeros
  rw [show 2 * (k + 1) = 2 * k + 2 by omega, ← List.replicate_append_replicate]
  rfl
theorem burst : ∀ k : Fin 20, encX (zeros k.val ++ [49] ++ zeros k.val) = zeros k.val ++ zeros k.val ++ [49, 49, 49, 48, 49, 49] ++ zeros k.val ++ zeros k.val ∧ encE (zeros k.val ++ [49] ++ zeros k.val) = 0 := by decide +kernel
end Conv

set_option maxHeartbeats 2000000 in
theorem law_shift (a0 : ByteArray) (a1 : Int) (w0 : a0.size ≤ 140737488351232) (w1 : (Lit.int .u8 a1).wf = true) (w : World) :
    Calls Tryd.prog 10 #[.string a0, .int .u8 a1] w fun e w' => e = .returned (.bool true) ∧ Below w.heap.size w w' := by
  obtain ⟨n, rfl, hn⟩ := u8_nat w1
  clear w1
  have hl0 := toList_length a0
  by_cases h1 : 1000 < (a0.size : Int)
  · go_enter Tryd.func10, Tryd.ntmps10
    go_wp2_with (go_at_call 11; refine (alive_any _).mono ?_; rintro e w1 ⟨rfl, hb1⟩)
    refine (encode_any a0 _ (by omega)).mono ?_
    rintro e w2 ⟨rfl, hb2⟩
    go_wp2_with fail
    go_ret
    exact ⟨rfl, bchain hb1 hb2⟩
  cases hk : Conv.ok a0.data.toList
  · obtain ⟨e1, e2⟩ := Conv.enc_bad (s := a0.data.toList) (by omega) hk
    have E2 := Lib.hid e2
    clear e1 e2 hk
    go_enter Tryd.func10, Tryd.ntmps10
    go_wp2_with (go_at_call 11; refine (alive_any _).mono ?_; rintro e w1 ⟨rfl, hb1⟩)
    refine (encode_any a0 _ (by omega)).mono ?_
    rintro e w2 ⟨rfl, hb2⟩
    rw [E2.out]
    go_wp2_with fail
    go_ret
    exact ⟨rfl, bchain hb1 hb2⟩
  obtain ⟨e1, e2⟩ := Conv.enc_ok (s := a0.data.toList) (by omega) hk
  have dB : ((⟨#[48]⟩ : ByteArray) ++ a0).data.toList = 48 :: a0.data.toList := by rw [app_data]; rfl
  have zB : ((⟨#[48]⟩ : ByteArray) ++ a0).size = 1 + a0.size := ByteArray.size_append
  obtain ⟨e3, e4⟩ := Conv.enc_ok (s := ((⟨#[48]⟩ : ByteArray) ++ a0).data.toList) (by rw [dB, List.length_cons]; omega) (by rw [dB]; exact Conv.ok_cons _ hk)
  rw [dB, Conv.code_cons] at e3
  have hlen := Conv.encX_length a0.data.toList
  have e5 : (⟨(Conv.encX ((⟨#[48]⟩ : ByteArray) ++ a0).data.toList).toArray⟩ : ByteArray) = ⟨#[48, 48]⟩ ++ ⟨(Conv.encX a0.data.toList).toArray⟩ := by
    refine of_toList ?_
    rw [show (⟨(Conv.encX ((⟨#[48]⟩ : ByteArray) ++ a0).data.toList).toArray⟩ : ByteArray).data.toList = Conv.encX ((⟨#[48]⟩ : ByteArray) ++ a0).data.toList from rfl, dB, e3, app_data, e1]
    rfl
  have e6 : Conv.weight (Conv.encX ((⟨#[48]⟩ : ByteArray) ++ a0).data.toList) = Conv.weight (Conv.encX a0.data.toList) := by
    rw [dB, e3, e1, Conv.weight_cons]
  have zA : (⟨(Conv.encX a0.data.toList).toArray⟩ : ByteArray).size = (Conv.encX a0.data.toList).length := mk_size _
  have E2 := Lib.hid e2
  have E4 := Lib.hid e4
  have E5 := Lib.hid e5
  have E6 := Lib.hid e6
  clear e1 e2 e3 e4 e5 e6 dB hk
  go_enter Tryd.func10, Tryd.ntmps10
  go_wp2_with (go_at_call 11; refine (alive_any _).mono ?_; rintro e w1 ⟨rfl, hb1⟩)
  refine (encode_any a0 _ (by omega)).mono ?_
  rintro e w2 ⟨rfl, hb2⟩
  rw [E2.out]
  go_wp2_with fail
  generalize hB : (⟨#[48]⟩ : ByteArray) ++ a0 = B at zB E4 E5 E6 ⊢
  have zB1 : B.size ≤ 9223372036854775807 := by clear zA; omega
  have z01 : a0.size ≤ 9223372036854775807 := by clear zA; omega
  clear zB
  refine (encode_any B w2 zB1).mono ?_
  rintro e w3 ⟨rfl, hb3⟩
  rw [E4.out, E5.out]
  generalize (⟨(Conv.encX a0.data.toList).toArray⟩ : ByteArray) = A at zA ⊢
  go_wp2_with fail
  refine (weight_any a0 _ z01).mono ?_
  rintro e w4 ⟨rfl, hb4⟩
  rw [E2.out]
  go_wp2_with fail
  refine (weight_any B _ zB1).mono ?_
  rintro e w5 ⟨rfl, hb5⟩
  rw [E4.out, E6.out]
  have hc5 := bchain (bchain (bchain (bchain hb1 hb2) hb3) hb4) hb5
  generalize Conv.weight (Conv.encX a0.data.toList) = W0
  clear hb1 hb2 hb3 hb4 hb5 E2 E4 E5 E6
  clear hB
  have hm21 : n % 20 < 20 := Nat.mod_lt _ (by omega)
  have zA2 : A.size ≤ 131076 := by omega
  clear zA hlen
  go_wp2_with fail
  go_loopg [13, 70] (n % 20) (fun g sv iv wr => ∃ (k : Nat) (F : ByteArray), g = n % 20 - k ∧ k ≤ n % 20 ∧ sv = .string F ∧ iv = .int .u8 k ∧ Hid (F.data.toList = Conv.zeros k) ∧ F.size = 2 * k ∧ wr = w5)
  case atStart => exact ⟨0, ⟨#[]⟩, rfl, Nat.zero_le _, rfl, rfl, rfl, rfl, rfl⟩
  case round =>
    obtain ⟨k, F, hg, hk, rfl, rfl, hF, zF, rfl⟩ := hrel
    have HG := Lib.hid hg
    clear hg
    by_cases hlt : k < n % 20
    · have zF2 : (F ++ (⟨#[48, 48]⟩ : ByteArray)).size = F.size + 2 := ByteArray.size_append
      have dF2 : Hid ((F ++ (⟨#[48, 48]⟩ : ByteArray)).data.toList = Conv.zeros (k + 1)) := by
        refine Lib.hid ?_
        rw [app_data, hF.out]
        exact Conv.zeros_succ k
      have hkI : (k : Int) < (n : Int) % 20 := by omega
      go_wp2_with fail
      go_roundg (n % 20 - (k + 1))
      case measure => have := HG.out; omega
      case rel => exact ⟨k + 1, _, rfl, by omega, rfl, by go_num, dF2, by omega, rfl⟩
    · have hkI : ¬ (k : Int) < (n : Int) % 20 := by omega
      obtain ⟨P1, hP1⟩ : ∃ X, F ++ (⟨#[49]⟩ : ByteArray) = X := ⟨_, rfl⟩
      obtain ⟨P2, hP2⟩ : ∃ X, P1 ++ F = X := ⟨_, rfl⟩
      obtain ⟨Q1, hQ1⟩ : ∃ X, F ++ F = X := ⟨_, rfl⟩
      obtain ⟨Q2, hQ2⟩ : ∃ X, Q1 ++ (⟨#[49, 49, 49, 48, 49, 49]⟩ : ByteArray) = X := ⟨_, rfl⟩
      obtain ⟨Q3, hQ3⟩ : ∃ X, Q2 ++ F = X := ⟨_, rfl⟩
      obtain ⟨Q4, hQ4⟩ : ∃ X, Q3 ++ F = X := ⟨_, rfl⟩
      have z1 : P1.size = 2 * k + 1 := by rw [← hP1, ByteArray.size_append, zF]; rfl
      have z2 : P2.size = 2 * k + 1 + 2 * k := by rw [← hP2, ByteArray.size_append, z1, zF]
      have z3 : Q1.size = 2 * k + 2 * k := by rw [← hQ1, ByteArray.size_append, zF]
      have z4 : Q2.size = 2 * k + 2 * k + 6 := by rw [← hQ2, ByteArray.size_append, z3]; rfl
      have z5 : Q3.size = 2 * k + 2 * k + 6 + 2 * k := by rw [← hQ3, ByteArray.size_append, z4, zF]
      have dP : P2.data.toList = Conv.zeros k ++ [49] ++ Conv.zeros k := by
        rw [← hP2, ← hP1, app_data, app_data, hF.out]
      have dQ : Q4.data.toList = Conv.zeros k ++ Conv.zeros k ++ [49, 49, 49, 48, 49, 49] ++ Conv.zeros k ++ Conv.zeros k := by
        rw [← hQ4, ← hQ3, ← hQ2, ← hQ1, app_data, app_data, app_data, app_data, hF.out]
      obtain ⟨b1, b2⟩ := Conv.burst ⟨k, by omega⟩
      have b3 : Conv.encE P2.data.toList = 0 := by rw [dP]; exact b2
      have b4 : (⟨(Conv.encX P2.data.toList).toArray⟩ : ByteArray) = Q4 := by
        refine of_toList ?_
        rw [dQ, dP]
        exact b1
      have B3 := Lib.hid b3
      have B4 := Lib.hid b4
      have z2' : P2.size ≤ 9223372036854775807 := by omega
      clear b1 b2 b3 b4 dP dQ
      go_wp2_with fail
      refine (encode_any P2 wr z2').mono ?_
      rintro e w9 ⟨rfl, hb9⟩
      rw [B3.out, B4.out]
      clear B3 B4
      go_wp2_with fail
      go_ret
      exact ⟨rfl, bchain hc5 hb9⟩
end Go.Proofs.YtokjmcndjhdhfaaDoor
