/-
  The reference's Apply, the loss of a reel.
-/
import Derived.Test.YtghpolfmhnnbaaaAgRApp2
import Derived.Test.YtghpolfmhnnbaaaAgDel
namespace Go.Proofs.Ytghpolfmhnnbaaa
open Go.RowKit

set_option maxHeartbeats 4000000 in
set_option maxRecDepth 100000 in
theorem rapply_4 (ao : Option Addr) (n cap j : Nat) (rs : List Reel) (p a l : Int) (w : World) (hr : Reels w ao n rs) (hf : Fine rs) (hj : j < rs.length) :
    Calls Try.prog 15 #[.slice ao n cap, .agg #[.int .i64 4, .int .i64 j, .int .i64 p, .int .i64 a, .int .i64 l]] w fun e w' => ∃ v, e = .returned v ∧ OwnRs w' w.heap.size v (applyR rs ⟨4, j, p, a, l⟩) ∧ Below w.heap.size w w' := by
  rw [applyR_4 hj]
  obtain ⟨W, hW, hbW, hzW, d0, d1, d2, d3, d4⟩ := dbox w 4 j p a l
  obtain ⟨rfl, hr2⟩ := hr
  obtain ⟨m, hm⟩ : ∃ m, rs.length = m + 1 := ⟨rs.length - 1, by omega⟩
  have hn6 := hf.1
  have HC := Lib.hid (rcopy_any ao rs.length cap rs W (Reels.below ⟨rfl, hr2⟩ hbW) (by omega) (fun r hr => (hf.2 r hr).1))
  have hlw : w.heap.size < W.heap.size := by omega
  have h0 : ¬ ((j : Int) < 0) := by omega
  have h1 : ¬ ((rs.length : Int) ≤ (j : Int)) := by omega
  have HM := Lib.hid hm
  clear hr2 hf hzW d2 d3 d4 hm
  go_enter Try.func15, Try.ntmps15
  go_wp2_with fail
  refine HC.out.mono ?_
  rintro e w1 ⟨v, rfl, ho1, hb1⟩
  have hm := HM.out
  have c0 := (hb1.cell (p := ⟨w.heap.size, 0, none⟩) hlw).trans d0
  have c1 := (hb1.cell (p := ⟨w.heap.size, 1, none⟩) hlw).trans d1
  obtain ⟨ao1, cap1, rfl, hc1, hcm, hao⟩ := ho1.form
  obtain ⟨g, rfl, _, _⟩ := hao (by omega)
  rw [hm] at ho1 hc1 h1 ⊢
  unfold maxLen at hcm
  have hjm : j ≤ m := by omega
  have q1 : (0 : Int) ≤ (j : Int) := by omega
  have q2 : (j : Int) ≤ (m : Int) + 1 := by omega
  have q3 : (j : Int) ≤ (cap1 : Int) := by omega
  have q4 : (0 : Int) ≤ (j : Int) + 1 := by omega
  have q5 : (j : Int) + 1 ≤ (m : Int) + 1 := by omega
  have q6 : (j : Int) + 1 ≤ (cap1 : Int) := by omega
  have q7 : IntKind.i64.wrap ((j : Int) + 1) = (j : Int) + 1 := IntWalk.i64_in _ (by omega)
  have q8 : ((j : Int) + 1).toNat = j + 1 := by omega
  have q9 : j ≤ cap1 := by omega
  have q10 : j + 1 ≤ cap1 := by omega
  have hbb := hbW.trans (hb1.mono hbW.size)
  have HH := Lib.hid ((ho1.kept ((Below.refl w1.heap.size w1).drew)))
  clear ho1 hao hm
  go_upto_region 5 with (fail)
  by_cases hce : cap1 = j + 1
  · obtain rfl : j = m := by omega
    subst hce
    obtain ⟨W1, hrun, ho2, hb2, _, hz1⟩ := cut_run (W := w1.drew) (i := j) HH.out hjm ⟨g, 0, none⟩ (fun h => by omega) 0
    simp only [Nat.sub_self] at hrun
    have HRUN := Lib.hid hrun
    have HO := Lib.hid (ho2.more hbW.size)
    have HBB := Lib.hid ((Below.refl W.heap.size w1).drew.trans hb2)
    clear hrun ho2 hb2 hz1
    go_region_law (refine step_runApp (by rfl) (.tmp 28) (.tmp 33) (by rfl) (.slice (some ⟨g, 0, none⟩) j (j + 1)) (.slice (some ⟨g, 0, none⟩) 0 0) (by rfl) (by rfl) _ _ HRUN.out ?_)
    all_goals (go_wp2_with fail; go_ret; exact ⟨_, rfl, HO.out, hbb.trans (HBB.out.mono hbW.size)⟩)
  · obtain ⟨W1, hrun, ho2, hb2, _, hz1⟩ := cut_run (W := w1.drew) (i := j) HH.out hjm ⟨g, (j + 1) * 2, none⟩ (fun _ => rfl) (cap1 - (j + 1))
    have HRUN := Lib.hid hrun
    have HO := Lib.hid (ho2.more hbW.size)
    have HBB := Lib.hid ((Below.refl W.heap.size w1).drew.trans hb2)
    clear hrun ho2 hb2 hz1
    go_region_law (refine step_runApp (by rfl) (.tmp 28) (.tmp 33) (by rfl) (.slice (some ⟨g, 0, none⟩) j cap1) (.slice (some ⟨g, (j + 1) * 2, none⟩) (m - j) (cap1 - (j + 1))) (by rfl) (by rfl) _ _ HRUN.out ?_)
    all_goals (go_wp2_with fail; go_ret; exact ⟨_, rfl, HO.out, hbb.trans (HBB.out.mono hbW.size)⟩)
end Go.Proofs.Ytghpolfmhnnbaaa
