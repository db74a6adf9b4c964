/-
  The law InterleaveIndices, walked.
-/
import Derived.Test.YtkeknmncbncgkaaInterTop
namespace Go.Proofs.Ytkeknmncbncgkaa
open Go.RowKit

theorem wf_int {n : Int} (h : (Lit.int .i64 n).wf = true) : -9223372036854775808 ≤ n ∧ n ≤ 9223372036854775807 := by
  simpa [Lit.wf, IntKind.min, IntKind.max, IntKind.signed, IntKind.bits] using h

set_option maxHeartbeats 400000 in
theorem law_indices (a0 a1 a2 : Int) (w0 : (Lit.int .i64 a0).wf = true) (w1 : (Lit.int .i64 a1).wf = true) (w2 : (Lit.int .i64 a2).wf = true) (w : World) :
    Calls Try.prog 3 #[.int .i64 a0, .int .i64 a1, .int .i64 a2] w fun e w' => e = .returned (.bool true) ∧ Below w.heap.size w w' := by
  have b0 := wf_int w0
  have b1 := wf_int w1
  have b2 := wf_int w2
  by_cases h1 : a2 < 1 ∨ a1 < 0
  · go_enter Try.func3, Try.ntmps3
    go_wp2_with fail
    refine (Index_arg _ _ _ _ h1).mono ?_
    rintro e w1 ⟨rfl, m, rfl⟩
    go_wp2_with fail
    refine (RefIndex_arg _ _ _ _ h1).mono ?_
    rintro e w1 ⟨rfl, m', rfl⟩
    go_wp2_with fail
    refine (awake_any _).mono ?_
    rintro e w1 ⟨rfl, hb⟩
    go_wp2_with fail
    go_ret
    exact ⟨rfl, (below_drewN (Below.refl _ _) _).trans hb⟩
  · by_cases h2 : a0 < 0 ∨ a1 ≤ a0
    · go_enter Try.func3, Try.ntmps3
      go_wp2_with fail
      refine (Index_range _ _ _ _ (by omega) (by omega) h2).mono ?_
      rintro e w1 ⟨rfl, m, rfl⟩
      go_wp2_with fail
      refine (RefIndex_range _ _ _ _ (by omega) (by omega) h2).mono ?_
      rintro e w1 ⟨rfl, m', rfl⟩
      go_wp2_with fail
      refine (awake_any _).mono ?_
      rintro e w1 ⟨rfl, hb⟩
      go_wp2_with fail
      go_ret
      exact ⟨rfl, (below_drewN (Below.refl _ _) _).trans hb⟩
    · obtain ⟨i, rfl⟩ := Int.eq_ofNat_of_zero_le (show 0 ≤ a0 by omega)
      obtain ⟨n, rfl⟩ := Int.eq_ofNat_of_zero_le (show 0 ≤ a1 by omega)
      obtain ⟨r, rfl⟩ := Int.eq_ofNat_of_zero_le (show 0 ≤ a2 by omega)
      go_enter Try.func3, Try.ntmps3
      go_wp2_with fail
      refine (Index_ok i n r _ (by omega) (by omega) (by omega) (by omega)).mono ?_
      rintro e w1 ⟨rfl, m, rfl⟩
      go_wp2_with fail
      refine (RefIndex_ok i n r _ (by omega) (by omega) (by omega) (by omega)).mono ?_
      rintro e w1 ⟨rfl, m', rfl⟩
      go_wp2_with fail
      refine (awake_any _).mono ?_
      rintro e w1 ⟨rfl, hb⟩
      go_wp2_with fail
      go_ret
      exact ⟨rfl, (below_drewN (Below.refl _ _) _).trans hb⟩
end Go.Proofs.Ytkeknmncbncgkaa
