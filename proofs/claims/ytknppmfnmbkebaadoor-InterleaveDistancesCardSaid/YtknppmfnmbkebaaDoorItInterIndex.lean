/-
  The walks of interleave.index, interleave.Index and the reference's Index.
-/
import Derived.Test.YtknppmfnmbkebaaDoorItBytes
import Derived.Test.YtknppmfnmbkebaaDoorItInterPlain
namespace Go.Proofs.YtknppmfnmbkebaaDoor.It
open Go.RowKit


theorem Inter.idx_cast (i n r : Nat) : (Inter.idx n r i : Int) = (i : Int) % r * ((n : Int) / r) + min ((i : Int) % r) ((n : Int) % r) + (i : Int) / r := by
  unfold Inter.idx
  simp only [Int.natCast_add, Int.natCast_mul, Int.natCast_ediv, Int.natCast_emod]
  congr 2
  omega

/-- The bounds that the walk of index wants. -/
theorem Inter.idx_bounds (i n r : Nat) (hr : 1 ≤ r) (hi : i < n) :
    0 ≤ (i : Int) % r * ((n : Int) / r) ∧ (i : Int) % r * ((n : Int) / r) ≤ n ∧ 0 ≤ (i : Int) % r ∧ (i : Int) % r < r ∧ 0 ≤ (n : Int) % r ∧ (n : Int) % r < r ∧ 0 ≤ (i : Int) / r ∧ 0 ≤ (n : Int) / r ∧ (n : Int) / r ≤ n ∧
    (i : Int) % r * ((n : Int) / r) + min ((i : Int) % r) ((n : Int) % r) + (i : Int) / r < n := by
  have h := Inter.idx_lt n r i hr hi
  have e := Inter.idx_cast i n r
  have h0 : 0 ≤ (i : Int) % r * ((n : Int) / r) := by
    rw [← Int.natCast_emod, ← Int.natCast_ediv, ← Int.natCast_mul]
    exact Int.natCast_nonneg _
  have h1 : 0 ≤ (i : Int) % r := Int.emod_nonneg _ (by omega)
  have h2 : (i : Int) % r < r := Int.emod_lt_of_pos _ (by omega)
  have h3 : 0 ≤ (n : Int) % r := Int.emod_nonneg _ (by omega)
  have h4 : (n : Int) % r < r := Int.emod_lt_of_pos _ (by omega)
  have h5 : 0 ≤ (i : Int) / r := Int.ediv_nonneg (by omega) (by omega)
  have h6 : 0 ≤ (n : Int) / r := Int.ediv_nonneg (by omega) (by omega)
  have h7 : (n : Int) / r ≤ n := Int.ediv_le_self _ (by omega)
  refine ⟨h0, ?_, h1, h2, h3, h4, h5, h6, h7, ?_⟩ <;> omega

set_option maxHeartbeats 400000 in
theorem index_nat (i n r : Nat) (w : World) (hr : 1 ≤ r) (hi : i < n) (hn : n ≤ 9223372036854775807) (hr2 : r ≤ 9223372036854775807) :
    Calls Tryd.prog 49 #[.int .i64 i, .int .i64 n, .int .i64 r] w fun e w' => e = .returned (.int .i64 (Inter.idx n r i)) ∧ ∃ m, w' = w.drewN m := by
  obtain ⟨b1, b2, b3, b4, b5, b6, b7, b8, b9, b10⟩ := Inter.idx_bounds i n r hr hi
  go_enter Tryd.func49, Tryd.ntmps49
  go_wp2_with fail
  go_quiet (fail)
  go_wp2_with fail
  go_quiet (fail)
  go_wp2_with fail
  all_goals
    go_ret
    exact ⟨ret_int (by rw [Inter.idx_cast]; omega), _, rfl⟩

set_option maxHeartbeats 400000 in
theorem Index_ok (i n r : Nat) (w : World) (hr : 1 ≤ r) (hi : i < n) (hn : n ≤ 9223372036854775807) (hr2 : r ≤ 9223372036854775807) :
    Calls Tryd.prog 37 #[.int .i64 i, .int .i64 n, .int .i64 r] w fun e w' => e = .returned (.tuple #[.int .i64 (Inter.idx n r i), .int .i64 0]) ∧ ∃ m, w' = w.drewN m := by
  go_enter Tryd.func37, Tryd.ntmps37
  go_wp2_with fail
  refine (index_nat i n r _ hr hi hn hr2).mono ?_
  rintro e w1 ⟨rfl, m1, rfl⟩
  go_wp2_with fail
  go_ret2
  exact ⟨rfl, m1, rfl⟩
set_option maxHeartbeats 400000 in
theorem Index_arg (i n r : Int) (w : World) (h : r < 1 ∨ n < 0) :
    Calls Tryd.prog 37 #[.int .i64 i, .int .i64 n, .int .i64 r] w fun e w' => e = .returned (.tuple #[.int .i64 0, .int .i64 1]) ∧ ∃ m, w' = w.drewN m := by
  go_enter Tryd.func37, Tryd.ntmps37
  go_wp2_with fail
  all_goals
    go_ret2
    exact ⟨rfl, 0, rfl⟩
set_option maxHeartbeats 400000 in
theorem Index_range (i n r : Int) (w : World) (h1 : 1 ≤ r) (h2 : 0 ≤ n) (h : i < 0 ∨ n ≤ i) :
    Calls Tryd.prog 37 #[.int .i64 i, .int .i64 n, .int .i64 r] w fun e w' => e = .returned (.tuple #[.int .i64 0, .int .i64 2]) ∧ ∃ m, w' = w.drewN m := by
  go_enter Tryd.func37, Tryd.ntmps37
  go_wp2_with fail
  all_goals
    go_ret2
    exact ⟨rfl, 0, rfl⟩
end Go.Proofs.YtknppmfnmbkebaaDoor.It
