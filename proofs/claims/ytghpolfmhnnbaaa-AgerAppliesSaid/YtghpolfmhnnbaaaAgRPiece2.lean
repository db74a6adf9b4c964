/-
  The reference's piece where it answers none.
-/
import Derived.Test.YtghpolfmhnnbaaaAgRPiece
namespace Go.Proofs.Ytghpolfmhnnbaaa
open Go.RowKit

set_option maxHeartbeats 4000000 in
theorem rpiece_out1 (k : Int) (hk : k = 1 ∨ k = 2 ∨ k = 5 ∨ k = 8) (x : List UInt8) (r p a l : Int) (w : World) (ha : a < 0) :
    Calls Try.prog 24 #[.string ⟨x.toArray⟩, .agg #[.int .i64 k, .int .i64 r, .int .i64 p, .int .i64 a, .int .i64 l]] w (PieceP none w) := by
  obtain ⟨W, hW, hbW, hzW, d0, d1, d2, d3, d4⟩ := dbox w k r p a l
  have h1 : ¬ (0 ≤ a) := by omega
  clear hzW
  generalize (⟨x.toArray⟩ : ByteArray) = U at *
  rcases hk with rfl | rfl | rfl | rfl
  all_goals
    go_enter Try.func24, Try.ntmps24
    go_wp2_with fail
    go_ret2
    exact ⟨_, rfl, (fun q hq => by cases hq), hbW⟩
set_option maxHeartbeats 4000000 in
theorem rpiece_out2 (k : Int) (hk : k = 1 ∨ k = 2 ∨ k = 5 ∨ k = 8) (x : List UInt8) (r p a l : Int) (w : World) (ha : 0 ≤ a) (hx : (x.length : Int) ≤ a) :
    Calls Try.prog 24 #[.string ⟨x.toArray⟩, .agg #[.int .i64 k, .int .i64 r, .int .i64 p, .int .i64 a, .int .i64 l]] w (PieceP none w) := by
  obtain ⟨W, hW, hbW, hzW, d0, d1, d2, d3, d4⟩ := dbox w k r p a l
  have hsz : (⟨x.toArray⟩ : ByteArray).size = x.length := mk_size x
  rw [← hsz] at hx
  clear hzW hsz
  generalize (⟨x.toArray⟩ : ByteArray) = U at *
  rcases hk with rfl | rfl | rfl | rfl
  all_goals
    go_enter Try.func24, Try.ntmps24
    go_wp2_with fail
    go_ret2
    exact ⟨_, rfl, (fun q hq => by cases hq), hbW⟩
end Go.Proofs.Ytghpolfmhnnbaaa
