/-
  The walks of interleave.Interleave, interleave.Deinterleave and of the chapter's example.
-/
import Derived.Test.YtknppmfnmbkebaaDoorItInterPerm
namespace Go.Proofs.YtknppmfnmbkebaaDoor.It
open Go.RowKit

set_option maxHeartbeats 400000 in
theorem Interleave_ok (s : ByteArray) (r : Int) (w : World) (hr : 1 ≤ r) (hs : s.size ≤ 65536) (hr2 : r ≤ 9223372036854775807) :
    Calls Tryd.prog 30 #[.string s, .int .i64 r] w fun e w' => e = .returned (.tuple #[.string ⟨(Inter.inter s.data.toList r.toNat).toArray⟩, .int .i64 0]) ∧ Below w.heap.size w w' := by
  obtain ⟨r, rfl⟩ := Int.eq_ofNat_of_zero_le (show 0 ≤ r by omega)
  rw [Int.toNat_natCast]
  go_enter Tryd.func30, Tryd.ntmps30
  go_wp2_with fail
  refine (permute_inter s r _ (by omega) hs (by omega)).mono ?_
  rintro e w1 ⟨rfl, hb⟩
  go_wp2_with fail
  go_ret2
  exact ⟨rfl, hb⟩
set_option maxHeartbeats 400000 in
theorem Interleave_arg (s : ByteArray) (r : Int) (w : World) (hr : r < 1) :
    Calls Tryd.prog 30 #[.string s, .int .i64 r] w fun e w' => e = .returned (.tuple #[.string ⟨#[]⟩, .int .i64 1]) ∧ Below w.heap.size w w' := by
  go_enter Tryd.func30, Tryd.ntmps30
  go_wp2
  go_ret2
  exact ⟨rfl, Below.refl _ _⟩
/-- Two steps, each of which only makes blocks. -/
theorem bchain {w w1 w2 : World} (h : Below w.heap.size w w1) (k : Below w1.heap.size w1 w2) : Below w.heap.size w w2 := h.trans (k.mono h.size)
theorem bdrew {w w1 : World} (h : Below w.heap.size w w1) (n : Nat) : Below w.heap.size w (w1.drewN n) := below_drewN h n


/-- The result under a name of its own. -/
theorem Interleave_abs (s : ByteArray) (r : Int) (w : World) (hr : 1 ≤ r) (hs : s.size ≤ 65536) (hr2 : r ≤ 9223372036854775807) :
    Calls Tryd.prog 30 #[.string s, .int .i64 r] w fun e w' => ∃ X : ByteArray, e = .returned (.tuple #[.string X, .int .i64 0]) ∧ Hid (X.data.toList = Inter.inter s.data.toList r.toNat) ∧ Hid (X.size = s.size) ∧ Below w.heap.size w w' := by
  refine (Interleave_ok s r w hr hs hr2).mono ?_
  rintro e w' ⟨rfl, h⟩
  refine ⟨_, rfl, by simp [Hid], ?_, h⟩
  show _ = _
  rw [mk_size, Inter.inter_length _ _ (by omega), toList_length]

/-- The chapter's example. -/
theorem inter_example : Inter.inter [97, 98, 99, 100, 101, 102, 103] 3 = [97, 100, 103, 98, 101, 99, 102] := by decide
theorem idx_example : Inter.idx 7 3 5 = 6 := by decide
theorem ex_inter (w : World) :
    Calls Tryd.prog 30 #[.string ⟨#[97, 98, 99, 100, 101, 102, 103]⟩, .int .i64 3] w fun e w' => e = .returned (.tuple #[.string ⟨#[97, 100, 103, 98, 101, 99, 102]⟩, .int .i64 0]) ∧ Below w.heap.size w w' := by
  refine (Interleave_ok ⟨#[97, 98, 99, 100, 101, 102, 103]⟩ 3 w (by decide) (by decide) (by decide)).mono ?_
  rintro e w' ⟨rfl, h⟩
  exact ⟨ret_str2 inter_example, h⟩
theorem ex_index (w : World) :
    Calls Tryd.prog 37 #[.int .i64 5, .int .i64 7, .int .i64 3] w fun e w' => e = .returned (.tuple #[.int .i64 6, .int .i64 0]) ∧ ∃ m, w' = w.drewN m := by
  refine (Index_ok 5 7 3 w (by decide) (by decide) (by decide) (by decide)).mono ?_
  rintro e w' ⟨rfl, h⟩
  exact ⟨ret_int2 (by rw [idx_example]; rfl), h⟩
set_option maxHeartbeats 400000 in
theorem awake_any (w : World) :
    Calls Tryd.prog 29 #[] w fun e w' => e = .returned (.bool true) ∧ Below w.heap.size w w' := by
  go_enter Tryd.func29, Tryd.ntmps29
  go_wp2_with fail
  refine (ex_inter w).mono ?_
  rintro e w1 ⟨rfl, hb⟩
  go_wp2_with fail
  refine (ex_index w1).mono ?_
  rintro e w2 ⟨rfl, m, rfl⟩
  go_wp2_with fail
  go_ret
  exact ⟨rfl, below_drewN hb m⟩
end Go.Proofs.YtknppmfnmbkebaaDoor.It
