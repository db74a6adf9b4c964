/-
  The laws InterleaveSpreads, InterleaveInverse and InterleaveTransposes, walked.
-/
import Derived.Test.YtkeknmncbncgkaaInterLaw1
namespace Go.Proofs.Ytkeknmncbncgkaa
open Go.RowKit

theorem of_toList {a b : ByteArray} (h : a.data.toList = b.data.toList) : a = b := by rw [← mk_toList a, ← mk_toList b, h]
theorem wf_u16 {n : Int} (h : (Lit.int .u16 n).wf = true) : 0 ≤ n ∧ n ≤ 65535 := by
  simpa [Lit.wf, IntKind.min, IntKind.max, IntKind.signed, IntKind.bits] using h
theorem wf_u8 {n : Int} (h : (Lit.int .u8 n).wf = true) : 0 ≤ n ∧ n ≤ 255 := by
  simpa [Lit.wf, IntKind.min, IntKind.max, IntKind.signed, IntKind.bits] using h

set_option maxHeartbeats 1000000 in
theorem law_spreads (a0 a1 a2 a3 : Int) (w0 : (Lit.int .u16 a0).wf = true) (w1 : (Lit.int .u16 a1).wf = true) (w2 : (Lit.int .u16 a2).wf = true) (w3 : (Lit.int .u16 a3).wf = true) (w : World) :
    Calls Try.prog 5 #[.int .u16 a0, .int .u16 a1, .int .u16 a2, .int .u16 a3] w fun e w' => e = .returned (.bool true) ∧ Below w.heap.size w w' := by
  obtain ⟨l0, u0⟩ := wf_u16 w0
  obtain ⟨l1, u1⟩ := wf_u16 w1
  obtain ⟨l2, u2⟩ := wf_u16 w2
  obtain ⟨l3, u3⟩ := wf_u16 w3
  clear w0 w1 w2 w3
  obtain ⟨i, rfl⟩ := Int.eq_ofNat_of_zero_le l0
  obtain ⟨j, rfl⟩ := Int.eq_ofNat_of_zero_le l1
  obtain ⟨n, rfl⟩ := Int.eq_ofNat_of_zero_le l2
  obtain ⟨r, rfl⟩ := Int.eq_ofNat_of_zero_le l3
  by_cases h1 : (r : Int) < 1
  · go_enter Try.func5, Try.ntmps5
    go_wp2_with (go_at_call 12; refine (awake_any _).mono ?_; rintro e w1 ⟨rfl, hb⟩)
    go_ret
    exact ⟨rfl, hb⟩
  have hr : 1 ≤ r := by omega
  by_cases h2 : n ≤ i
  · go_enter Try.func5, Try.ntmps5
    go_wp2_with (go_at_call 12; refine (awake_any _).mono ?_; rintro e w1 ⟨rfl, hb⟩)
    go_ret
    exact ⟨rfl, hb⟩
  have hi : i < n := by omega
  by_cases h3 : n ≤ j
  · go_enter Try.func5, Try.ntmps5
    go_wp2_with (go_at_call 12; refine (awake_any _).mono ?_; rintro e w1 ⟨rfl, hb⟩)
    go_ret
    exact ⟨rfl, hb⟩
  have hj : j < n := by omega
  by_cases h4 : i = j
  · subst h4
    go_enter Try.func5, Try.ntmps5
    go_wp2_with (go_at_call 12; refine (awake_any _).mono ?_; rintro e w1 ⟨rfl, hb⟩)
    go_ret
    exact ⟨rfl, hb⟩
  have hij : ((i : Int) == j) = false := by simp; omega
  have hsp := Inter.spread n r i j hr h4
  have hx := Inter.idx_lt n r i hr hi
  have hy := Inter.idx_lt n r j hr hj
  have hq : 0 ≤ (n : Int) / r := Int.ediv_nonneg (by omega) (by omega)
  have hq2 : (n : Int) / r ≤ n := Int.ediv_le_self _ (by omega)
  have hq3 : ((n / r : Nat) : Int) = (n : Int) / r := by simp
  clear h4
  have near : ((Inter.idx n r i : Int) - Inter.idx n r j < (n : Int) / r - 1 ∧ (Inter.idx n r j : Int) - Inter.idx n r i < (n : Int) / r - 1) → i + r ≤ j ∨ j + r ≤ i := fun h => hsp (by omega) (by omega)
  clear hsp hq3
  generalize hX : Inter.idx n r i = x at *
  generalize hY : Inter.idx n r j = y at *
  have HX := Lib.hid hX
  have HY := Lib.hid hY
  clear hX hY
  by_cases nr : (x : Int) - y < (n : Int) / r - 1 ∧ (y : Int) - x < (n : Int) / r - 1
  all_goals
    try
      have sp := near nr
    clear near
    go_enter Try.func5, Try.ntmps5
    go_wp2_with fail
    refine (Index_ok i n r _ hr hi (by omega) (by omega)).mono ?_
    rintro e w1 ⟨rfl, m, rfl⟩
    rw [HX.out]
    go_wp2_with fail
    refine (Index_ok j n r _ hr hj (by omega) (by omega)).mono ?_
    rintro e w1 ⟨rfl, m', rfl⟩
    rw [HY.out]
    go_wp2_with (go_at_call 12; refine (awake_any _).mono ?_; rintro e w1 ⟨rfl, hb⟩)
    all_goals
      go_ret
      exact ⟨rfl, (below_drewN (Below.refl _ _) _).trans hb⟩

set_option maxHeartbeats 1000000 in
theorem law_inverse (a0 : ByteArray) (a1 : Int) (w0 : a0.size ≤ maxLen) (w1 : (Lit.int .i64 a1).wf = true) (w : World) :
    Calls Try.prog 8 #[.string a0, .int .i64 a1] w fun e w' => e = .returned (.bool true) ∧ Below w.heap.size w w' := by
  obtain ⟨l1, u1⟩ := wf_int w1
  clear w1
  unfold maxLen at w0
  by_cases h1 : 900 < (a0.size : Int)
  · go_enter Try.func8, Try.ntmps8
    go_wp2_with (go_at_call 12; refine (awake_any _).mono ?_; rintro e w1 ⟨rfl, hb⟩)
    go_ret
    exact ⟨rfl, hb⟩
  by_cases h2 : a1 < 1
  · go_enter Try.func8, Try.ntmps8
    go_wp2_with (go_at_call 12; refine (awake_any _).mono ?_; rintro e w1 ⟨rfl, hb⟩)
    go_ret
    exact ⟨rfl, hb⟩
  obtain ⟨r, rfl⟩ := Int.eq_ofNat_of_zero_le (show 0 ≤ a1 by omega)
  have hr : 0 < r := by omega
  go_enter Try.func8, Try.ntmps8
  go_wp2_with fail
  refine (Interleave_abs a0 r _ (by omega) (by omega) (by omega)).mono ?_
  rintro e w1 ⟨X, rfl, hX, zX, hb1⟩
  have cX : X.size ≤ 900 := by rw [zX.out]; omega
  go_wp2_with fail
  refine (Deinterleave_abs X r _ (by omega) (by omega) (by omega)).mono ?_
  rintro e w2 ⟨Y, rfl, hY, zY, hb2⟩
  go_wp2_with fail
  refine (Deinterleave_abs a0 r _ (by omega) (by omega) (by omega)).mono ?_
  rintro e w3 ⟨U, rfl, hU, zU, hb3⟩
  have cU : U.size ≤ 900 := by rw [zU.out]; omega
  go_wp2_with fail
  refine (Interleave_abs U r _ (by omega) (by omega) (by omega)).mono ?_
  rintro e w4 ⟨V, rfl, hV, zV, hb4⟩
  have z := zX.out
  obtain rfl : Y = a0 := of_toList (by rw [hY.out, hX.out, Inter.deinter_inter _ _ (by omega)])
  obtain rfl : V = Y := of_toList (by rw [hV.out, hU.out, Inter.inter_deinter _ _ (by omega)])
  go_wp2_with (go_at_call 12; refine (awake_any _).mono ?_; rintro e w5 ⟨rfl, hb⟩)
  go_ret
  exact ⟨rfl, bchain (bchain (bchain (bchain hb1 hb2) hb3) hb4) hb⟩

set_option maxHeartbeats 1000000 in
theorem law_transposes (a0 : ByteArray) (a1 a2 : Int) (_w0 : a0.size ≤ maxLen) (w1 : (Lit.int .u8 a1).wf = true) (w2 : (Lit.int .u8 a2).wf = true) (w : World) :
    Calls Try.prog 9 #[.string a0, .int .u8 a1, .int .u8 a2] w fun e w' => e = .returned (.bool true) ∧ Below w.heap.size w w' := by
  obtain ⟨l1, u1⟩ := wf_u8 w1
  obtain ⟨l2, u2⟩ := wf_u8 w2
  clear w1 w2
  obtain ⟨p, rfl⟩ := Int.eq_ofNat_of_zero_le l1
  obtain ⟨q, rfl⟩ := Int.eq_ofNat_of_zero_le l2
  by_cases g0 : (p : Int) < 1
  · skip
    go_enter Try.func9, Try.ntmps9
    go_wp2_with (go_at_call 12; refine (awake_any _).mono ?_; rintro e w1 ⟨rfl, hb⟩)
    go_ret
    exact ⟨rfl, hb⟩
  by_cases g1 : (q : Int) < 1
  · skip
    go_enter Try.func9, Try.ntmps9
    go_wp2_with (go_at_call 12; refine (awake_any _).mono ?_; rintro e w1 ⟨rfl, hb⟩)
    go_ret
    exact ⟨rfl, hb⟩
  by_cases g2 : 30 < (p : Int)
  · skip
    go_enter Try.func9, Try.ntmps9
    go_wp2_with (go_at_call 12; refine (awake_any _).mono ?_; rintro e w1 ⟨rfl, hb⟩)
    go_ret
    exact ⟨rfl, hb⟩
  by_cases g3 : 30 < (q : Int)
  · skip
    go_enter Try.func9, Try.ntmps9
    go_wp2_with (go_at_call 12; refine (awake_any _).mono ?_; rintro e w1 ⟨rfl, hb⟩)
    go_ret
    exact ⟨rfl, hb⟩
  have h6 : (p : Int) * q ≤ 900 := by
    have : p * q ≤ 30 * 30 := Nat.mul_le_mul (by omega) (by omega)
    rw [← Int.natCast_mul]
    omega
  have h7 : 0 ≤ (p : Int) * q := by rw [← Int.natCast_mul]; omega
  by_cases g4 : (a0.size : Int) < (p : Int) * q
  · skip
    go_enter Try.func9, Try.ntmps9
    go_wp2_with (go_at_call 12; refine (awake_any _).mono ?_; rintro e w1 ⟨rfl, hb⟩)
    go_ret
    exact ⟨rfl, hb⟩
  have zS : (a0.extract 0 (p * q)).size = p * q := by
    have h5 : (p : Int) * q ≤ a0.size := by omega
    rw [← Int.natCast_mul] at h5
    rw [ByteArray.size_extract]
    omega
  go_enter Try.func9, Try.ntmps9
  go_wp2_with fail
  generalize hS : a0.extract 0 (p * q) = S at *
  have HS := Lib.hid hS
  clear hS
  have ZS := Lib.hid zS
  clear zS
  have cS : S.size ≤ 900 := by
    rw [← Int.natCast_mul] at h6
    rw [ZS.out]
    omega
  refine (Deinterleave_abs S p _ (by omega) (by omega) (by omega)).mono ?_
  rintro e w1 ⟨X, rfl, hX, zX, hb1⟩
  go_wp2_with fail
  rw [show a0.extract 0 (p * q) = S from HS.out]
  refine (Interleave_abs S q _ (by omega) (by omega) (by omega)).mono ?_
  rintro e w2 ⟨Y, rfl, hY, zY, hb2⟩
  obtain rfl : Y = X := of_toList (by rw [hY.out, hX.out, Int.toNat_natCast, Int.toNat_natCast, Inter.transpose _ p q (by omega) (by omega) (by rw [toList_length, ZS.out])])
  go_wp2_with (go_at_call 12; refine (awake_any _).mono ?_; rintro e w5 ⟨rfl, hb⟩)
  go_ret
  exact ⟨rfl, bchain (bchain hb1 hb2) hb⟩
end Go.Proofs.Ytkeknmncbncgkaa
