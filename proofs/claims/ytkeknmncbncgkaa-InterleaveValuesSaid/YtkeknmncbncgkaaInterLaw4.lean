/-
  The law InterleaveValues, walked.
-/
import Derived.Test.YtkeknmncbncgkaaInterRef
import Derived.Test.YtkeknmncbncgkaaInterLaw1
namespace Go.Proofs.Ytkeknmncbncgkaa
open Go.RowKit

set_option maxHeartbeats 1000000 in
theorem law_values (a0 : ByteArray) (a1 : Int) (w0 : a0.size ≤ maxLen) (w1 : (Lit.int .i64 a1).wf = true) (w : World) :
    Calls Try.prog 7 #[.string a0, .int .i64 a1] w fun e w' => e = .returned (.bool true) ∧ Below w.heap.size w w' := by
  obtain ⟨l1, u1⟩ := wf_int w1
  clear w1
  unfold maxLen at w0
  by_cases h1 : 900 < (a0.size : Int)
  · go_enter Try.func7, Try.ntmps7
    go_wp2_with (go_at_call 12; refine (awake_any _).mono ?_; rintro e w1 ⟨rfl, hb⟩)
    go_ret
    exact ⟨rfl, hb⟩
  by_cases h2 : a1 < 1
  · go_enter Try.func7, Try.ntmps7
    go_wp2_with fail
    refine (Interleave_arg _ _ _ h2).mono ?_
    rintro e w1 ⟨rfl, hb1⟩
    go_wp2_with fail
    refine (RefInterleave_arg _ _ _ h2).mono ?_
    rintro e w2 ⟨rfl, hb2⟩
    go_wp2_with fail
    refine (Deinterleave_arg _ _ _ h2).mono ?_
    rintro e w3 ⟨rfl, hb3⟩
    go_wp2_with fail
    refine (RefDeinterleave_arg _ _ _ h2).mono ?_
    rintro e w4 ⟨rfl, hb4⟩
    go_wp2_with (go_at_call 12; refine (awake_any _).mono ?_; rintro e w5 ⟨rfl, hb⟩)
    go_ret
    exact ⟨rfl, bchain (bchain (bchain (bchain hb1 hb2) hb3) hb4) hb⟩
  obtain ⟨r, rfl⟩ := Int.eq_ofNat_of_zero_le (show 0 ≤ a1 by omega)
  go_enter Try.func7, Try.ntmps7
  go_wp2_with fail
  refine (Interleave_ok a0 r _ (by omega) (by omega) (by omega)).mono ?_
  rintro e w1 ⟨rfl, hb1⟩
  rw [Int.toNat_natCast]
  generalize hX : (⟨(Inter.inter a0.data.toList r).toArray⟩ : ByteArray) = X
  have HX := Lib.hid hX
  clear hX
  go_wp2_with fail
  refine (RefInterleave_ok a0 r _ (by omega) (by omega) (by omega)).mono ?_
  rintro e w2 ⟨rfl, hb2⟩
  rw [HX.out]
  go_wp2_with fail
  refine (Deinterleave_ok a0 r _ (by omega) (by omega) (by omega)).mono ?_
  rintro e w3 ⟨rfl, hb3⟩
  rw [Int.toNat_natCast]
  generalize hY : (⟨(Inter.deinter a0.data.toList r).toArray⟩ : ByteArray) = Y
  have HY := Lib.hid hY
  clear hY
  go_wp2_with fail
  refine (RefDeinterleave_ok a0 r _ (by omega) (by omega) (by omega)).mono ?_
  rintro e w4 ⟨rfl, hb4⟩
  rw [HY.out]
  go_wp2_with (go_at_call 12; refine (awake_any _).mono ?_; rintro e w5 ⟨rfl, hb⟩)
  go_ret
  exact ⟨rfl, bchain (bchain (bchain (bchain hb1 hb2) hb3) hb4) hb⟩
end Go.Proofs.Ytkeknmncbncgkaa
