/-
  The reference's piece: a burst of no length, unknown kinds.
-/
import Derived.Test.YtghpolfmhnnbaaaAgRPiece4
namespace Go.Proofs.Ytghpolfmhnnbaaa
open Go.RowKit

set_option maxHeartbeats 4000000 in
theorem rpiece_80 (x : List UInt8) (r p l : Int) (a : Nat) (w : World) (ha : a < x.length) (hl : l < 1) :
    Calls Try.prog 24 #[.string ⟨x.toArray⟩, .agg #[.int .i64 8, .int .i64 r, .int .i64 p, .int .i64 a, .int .i64 l]] w (PieceP none w) := by
  have hsz : (⟨x.toArray⟩ : ByteArray).size = x.length := mk_size x
  obtain ⟨W, hW, hbW, hzW, d0, d1, d2, d3, d4⟩ := dbox w 8 r p a l
  have h2 : (0 : Int) ≤ (a : Int) := by omega
  have h3 : (a : Int) < ((⟨x.toArray⟩ : ByteArray).size : Int) := by omega
  have h4 : ¬ (0 < l) := by omega
  clear hsz hzW hl
  generalize (⟨x.toArray⟩ : ByteArray) = U at *
  go_enter Try.func24, Try.ntmps24
  go_wp2_with fail
  go_ret2
  exact ⟨_, rfl, (fun q hq => by cases hq), hbW⟩
set_option maxHeartbeats 4000000 in
theorem rpiece_other (k : Int) (x : List UInt8) (r p a l : Int) (w : World) (h1 : (k == 1) = false) (h2 : (k == 2) = false) (h3 : (k == 3) = false) (h5 : (k == 5) = false) (h7 : (k == 7) = false) (h8 : (k == 8) = false) :
    Calls Try.prog 24 #[.string ⟨x.toArray⟩, .agg #[.int .i64 k, .int .i64 r, .int .i64 p, .int .i64 a, .int .i64 l]] w (PieceP none w) := by
  obtain ⟨W, hW, hbW, hzW, d0, d1, d2, d3, d4⟩ := dbox w k r p a l
  clear hzW
  generalize (⟨x.toArray⟩ : ByteArray) = U at *
  by_cases g0 : a < 0
  · have g1 : ¬ (0 ≤ a) := by omega
    go_enter Try.func24, Try.ntmps24
    go_wp2_with fail
    go_ret2
    exact ⟨_, rfl, (fun q hq => by cases hq), hbW⟩
  · have g1 : 0 ≤ a := by omega
    by_cases g2 : a < (U.size : Int)
    · go_enter Try.func24, Try.ntmps24
      go_wp2_with fail
      go_ret2
      exact ⟨_, rfl, (fun q hq => by cases hq), hbW⟩
    · go_enter Try.func24, Try.ntmps24
      go_wp2_with fail
      go_ret2
      exact ⟨_, rfl, (fun q hq => by cases hq), hbW⟩
end Go.Proofs.Ytghpolfmhnnbaaa
