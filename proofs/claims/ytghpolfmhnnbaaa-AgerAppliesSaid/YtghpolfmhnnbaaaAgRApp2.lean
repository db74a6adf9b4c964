/-
  The reference's Apply, where no piece is meant.
-/
import Derived.Test.YtghpolfmhnnbaaaAgRApp1
namespace Go.Proofs.Ytghpolfmhnnbaaa
open Go.RowKit

set_option maxHeartbeats 4000000 in
set_option maxRecDepth 100000 in
theorem rapply_nop (ao : Option Addr) (n cap j : Nat) (rs : List Reel) (r : Reel) (k p a l : Int) (w : World) (hr : Reels w ao n rs) (hf : Fine rs) (hj : rs[j]? = some r) (hk : k ≠ 4) (ho : p < 0 ∨ (r.ps.length : Int) ≤ p) :
    Calls Try.prog 15 #[.slice ao n cap, .agg #[.int .i64 k, .int .i64 j, .int .i64 p, .int .i64 a, .int .i64 l]] w fun e w' => ∃ v, e = .returned v ∧ OwnRs w' w.heap.size v (applyR rs ⟨k, j, p, a, l⟩) ∧ Below w.heap.size w w' := by
  have hfin : applyR rs ⟨k, j, p, a, l⟩ = rs := by
    rw [applyR_in hj hk, editP_out (by show ¬ (0 ≤ p ∧ p < r.ps.length); omega)]
    exact set_same hj
  rw [hfin]
  obtain ⟨rfl, hr2⟩ := hr
  have hn6 := hf.1
  have hjl := (List.getElem?_eq_some_iff.1 hj).1
  obtain ⟨W, hW, hbW, hzW, d0, d1, d2, d3, d4⟩ := dbox w k j p a l
  have HC := Lib.hid (rcopy_any ao rs.length cap rs W (Reels.below ⟨rfl, hr2⟩ hbW) (by omega) (fun r hr => (hf.2 r hr).1))
  have hlw : w.heap.size < W.heap.size := by omega
  have h0 : ¬ ((j : Int) < 0) := by omega
  have h1 : ¬ ((rs.length : Int) ≤ (j : Int)) := by omega
  have h2 : (0 : Int) ≤ (j : Int) := by omega
  have h3 : (j : Int) < (rs.length : Int) := by omega
  have h4 : (k == 4) = false := beq_eq_false_iff_ne.2 hk
  have HJ := Lib.hid hj
  clear hr2 hf hzW hfin d3 d4 hj
  go_enter Try.func15, Try.ntmps15
  go_wp2_with fail
  refine HC.out.mono ?_
  rintro e w1 ⟨v, rfl, ho1, hb1⟩
  have c0 := (hb1.cell (p := ⟨w.heap.size, 0, none⟩) hlw).trans d0
  have c1 := (hb1.cell (p := ⟨w.heap.size, 1, none⟩) hlw).trans d1
  have c2 := (hb1.cell (p := ⟨w.heap.size, 2, none⟩) hlw).trans d2
  obtain ⟨ao1, cap1, rfl, _, _, hao⟩ := ho1.form
  obtain ⟨g, rfl, _, _⟩ := hao (by omega)
  obtain ⟨ap, cp, g0, g1, hcp, hcp2, hown, z0, z1⟩ := ho1.at_ HJ.out
  have HO := Lib.hid (ho1.more hbW.size)
  have hbb := hbW.trans (hb1.mono hbW.size)
  clear ho1 hao hown z0 z1 d0 d1 d2
  by_cases hp : p < 0
  · clear ho
    go_wp2_with fail
    go_ret
    exact ⟨_, rfl, HO.out, hbb⟩
  · have hp2 : (r.ps.length : Int) ≤ p := by omega
    clear ho
    go_wp2_with fail
    go_ret
    exact ⟨_, rfl, HO.out, hbb⟩
end Go.Proofs.Ytghpolfmhnnbaaa
