/-
  The reference's Apply, where no reel or no piece is meant.
-/
import Derived.Test.YtghpolfmhnnbaaaAgRPiece6
import Derived.Test.YtghpolfmhnnbaaaAgApp2
namespace Go.Proofs.Ytghpolfmhnnbaaa
open Go.RowKit

set_option maxHeartbeats 4000000 in
set_option maxRecDepth 100000 in
theorem rapply_out (ao : Option Addr) (n cap : Nat) (rs : List Reel) (k r p a l : Int) (w : World) (hr : Reels w ao n rs) (hf : Fine rs) (ho : r < 0 ∨ (rs.length : Int) ≤ r) :
    Calls Try.prog 15 #[.slice ao n cap, .agg #[.int .i64 k, .int .i64 r, .int .i64 p, .int .i64 a, .int .i64 l]] w fun e w' => ∃ v, e = .returned v ∧ OwnRs w' w.heap.size v (applyR rs ⟨k, r, p, a, l⟩) ∧ Below w.heap.size w w' := by
  have hfin : applyR rs ⟨k, r, p, a, l⟩ = rs := by
    unfold applyR
    rw [if_neg (by show ¬ (0 ≤ r ∧ r < rs.length); omega)]
  rw [hfin]
  obtain ⟨rfl, hr2⟩ := hr
  have hn6 := hf.1
  obtain ⟨W, hW, hbW, hzW, d0, d1, d2, d3, d4⟩ := dbox w k r p a l
  have HC := Lib.hid (rcopy_any ao rs.length cap rs W (Reels.below ⟨rfl, hr2⟩ hbW) (by omega) (fun r hr => (hf.2 r hr).1))
  have hlw : w.heap.size < W.heap.size := by omega
  clear hr2 hf hzW hfin d0 d2 d3 d4
  by_cases h0 : r < 0
  · clear ho
    go_enter Try.func15, Try.ntmps15
    go_wp2_with fail
    refine HC.out.mono ?_
    rintro e w1 ⟨v, rfl, ho1, hb1⟩
    have c1 := (hb1.cell (p := ⟨w.heap.size, 1, none⟩) hlw).trans d1
    go_wp2_with fail
    go_ret
    exact ⟨_, rfl, ho1.more hbW.size, hbW.trans (hb1.mono hbW.size)⟩
  · have h1 : (rs.length : Int) ≤ r := by omega
    clear ho
    go_enter Try.func15, Try.ntmps15
    go_wp2_with fail
    refine HC.out.mono ?_
    rintro e w1 ⟨v, rfl, ho1, hb1⟩
    have c1 := (hb1.cell (p := ⟨w.heap.size, 1, none⟩) hlw).trans d1
    go_wp2_with fail
    go_ret
    exact ⟨_, rfl, ho1.more hbW.size, hbW.trans (hb1.mono hbW.size)⟩
end Go.Proofs.Ytghpolfmhnnbaaa
