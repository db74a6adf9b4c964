/-
  The walk of AgerPlans.
-/
import Derived.Test.YtghpolfmhnnbaaaAgLaw1
import Derived.Test.YtghpolfmhnnbaaaAgRPlan
namespace Go.Proofs.Ytghpolfmhnnbaaa
open Go.RowKit

theorem rplan_form (s n : Int) (N : Nat) (hN : planN n = N) (ao : Option Addr) (len cap : Nat) (rs : List Reel) (w : World) (hr : Reels w ao len rs) (hf : Fine rs) (hn0 : -9223372036854775808 ≤ n) (hn1 : n ≤ 9223372036854775807) :
    Calls Try.prog 17 #[.int .u64 s, .int .i64 n, .slice ao len cap] w fun e w' => ∃ ad cd, e = .returned (.slice ad N cd) ∧ Dmgs w' ad N (plan rs N s) ∧ Below w.heap.size w w' := by
  refine (rplan_any s n ao len cap rs w hr (by rw [hr.1]; exact hf.1) hf.2 hn0 hn1).mono ?_
  rintro e w' ⟨v, rfl, ho, hb⟩
  rw [hN] at ho
  obtain ⟨ad, cd, rfl, _⟩ := ho.form
  rw [plan_length] at ho ⊢
  exact ⟨ad, cd, rfl, ho.read, hb⟩

set_option maxHeartbeats 4000000 in
set_option maxRecDepth 100000 in
theorem plans_big (s n : Int) (ao : Option Addr) (cap : Nat) (rs : List Reel) (w : World) (HG : Hid (Calls Try.prog 10 #[.slice ao rs.length cap] w fun e w' => e = .returned (.int .i64 1) ∧ w' = w)) :
    Calls Try.prog 4 #[.int .u64 s, .int .i64 n, .slice ao rs.length cap] w fun e w' => e = .returned (.bool true) ∧ Below w.heap.size w w' := by
  go_enter Try.func4, Try.ntmps4
  go_wp2_with fail
  refine HG.out.mono ?_
  rintro e w1 ⟨rfl, rfl⟩
  go_wp2_with fail
  refine (awake59_any _).mono ?_
  rintro e w2 ⟨rfl, hb2⟩
  go_wp2_with fail
  go_ret
  exact ⟨rfl, hb2⟩

set_option maxHeartbeats 4000000 in
set_option maxRecDepth 100000 in
theorem plans_mid (s n : Int) (ao : Option Addr) (cap : Nat) (rs : List Reel) (w : World) (HG : Hid (Calls Try.prog 10 #[.slice ao rs.length cap] w fun e w' => e = .returned (.int .i64 0) ∧ w' = w)) (h60 : 60 < n) (h1000 : n ≤ 1000) :
    Calls Try.prog 4 #[.int .u64 s, .int .i64 n, .slice ao rs.length cap] w fun e w' => e = .returned (.bool true) ∧ Below w.heap.size w w' := by
  go_enter Try.func4, Try.ntmps4
  go_wp2_with fail
  refine HG.out.mono ?_
  rintro e w1 ⟨rfl, rfl⟩
  go_wp2_with fail
  refine (awake59_any _).mono ?_
  rintro e w2 ⟨rfl, hb2⟩
  go_wp2_with fail
  go_ret
  exact ⟨rfl, hb2⟩

set_option maxHeartbeats 4000000 in
set_option maxRecDepth 100000 in
theorem plans_low (s n : Int) (ao : Option Addr) (cap : Nat) (rs : List Reel) (w : World) (HG : Hid (Calls Try.prog 10 #[.slice ao rs.length cap] w fun e w' => e = .returned (.int .i64 0) ∧ w' = w)) (N : Nat) (PN : Hid (planN n = N)) (hN : N ≤ 1000) (HR : Hid (Reels w ao rs.length rs)) (HF : Hid (Fine rs)) (hn0 : -9223372036854775808 ≤ n) (hn1 : n ≤ 9223372036854775807) (h60 : ¬ 60 < n) :
    Calls Try.prog 4 #[.int .u64 s, .int .i64 n, .slice ao rs.length cap] w fun e w' => e = .returned (.bool true) ∧ Below w.heap.size w w' := by
  go_enter Try.func4, Try.ntmps4
  go_wp2_with fail
  refine HG.out.mono ?_
  rintro e w1 ⟨rfl, rfl⟩
  go_wp2_with fail
  refine (plan_form s n N PN.out ao rs.length cap rs _ HR.out HF.out (by omega) (by omega)).mono ?_
  rintro e w2 ⟨ad, cd, rfl, hd1, hb1⟩
  go_wp2_with fail
  refine (rplan_form s n N PN.out ao rs.length cap rs _ (HR.out.below hb1) HF.out (by omega) (by omega)).mono ?_
  rintro e w3 ⟨ae, ce, rfl, hd2, hb2⟩
  have hb12 := hb1.trans (hb2.mono hb1.size)
  have HD1 := Lib.hid (hd1.below hb2).2
  have HD2 := Lib.hid hd2.2
  clear hd1 hd2
  go_wp2_with fail
  go_loopw [37] (fun i wr => ∃ k q : Nat, k ≤ N ∧ i = .int .i64 k ∧ wr = w3.drewN q) (fun i _ => N - (intOf i).toNat)
  case atStart => exact ⟨0, 0, Nat.zero_le _, rfl, rfl⟩
  case round =>
    obtain ⟨k, q, hk, rfl, rfl⟩ := hrel
    by_cases hlt : k < N
    · obtain ⟨b1, o1, rfl, x0, x1, x2, x3, x4⟩ := HD1.out k _ (plan_get rs N k s hlt)
      obtain ⟨b2, o2, rfl, y0, y1, y2, y3, y4⟩ := HD2.out k _ (plan_get rs N k s hlt)
      obtain ⟨f0, f1, f2, f3, f4⟩ := dmgOf_wf HF.out (stK k s)
      have hq := Lib.hid fun w => dmg_neq _ _ _ _ _ f0 f1 f2 f3 f4 w
      generalize (dmgOf rs (stK k s)).kind = c0 at *
      generalize (dmgOf rs (stK k s)).reel = c1 at *
      generalize (dmgOf rs (stK k s)).piece = c2 at *
      generalize (dmgOf rs (stK k s)).at_ = c3 at *
      generalize (dmgOf rs (stK k s)).len = c4 at *
      have h9 : (k : Int) < (N : Int) := by omega
      clear f0 f1 f2 f3 f4
      go_wp2_with fail
      refine wp_region_quiet_lit (by kernel_rfl) (by kernel_rfl) ?_
      iterate 8 (go_big_quiet_step (fail))
      refine wpQuiet_step (fun K hK => ?_)
      refine step_qneq (by rfl) _ _ _ _ (by rfl) _ _ _ (by rfl) (by rfl) (fun w => dmg_guard _ _ _ _ w) hq.out (hK _ ?_)
      clear hK K
      refine wpQuiet_nil ?_
      rintro _ ⟨nq, rfl⟩
      go_wp2_with fail
      go_roundw
      case rel => first | exact ⟨k + 1, q + nq, by omega, by go_num, by first | rfl | simp⟩ | ((repeat apply Exists.intro); exact ⟨⟨k + 1, q + nq, by omega, by go_num, by first | rfl | simp⟩, rfl⟩)
      case measure => simp [intOf]; omega
    · obtain rfl : k = N := by omega
      go_wp2_with fail
      refine (awake59_any _).mono ?_
      rintro e w5 ⟨rfl, hb5⟩
      go_wp2_with fail
      go_ret
      exact ⟨rfl, (below_drewN hb12 q).trans (hb5.mono hb12.size)⟩

set_option maxHeartbeats 4000000 in
set_option maxRecDepth 100000 in
theorem plans_high (s n : Int) (ao : Option Addr) (cap : Nat) (rs : List Reel) (w : World) (HG : Hid (Calls Try.prog 10 #[.slice ao rs.length cap] w fun e w' => e = .returned (.int .i64 0) ∧ w' = w)) (N : Nat) (PN : Hid (planN n = N)) (hN : N ≤ 1000) (HR : Hid (Reels w ao rs.length rs)) (HF : Hid (Fine rs)) (hn0 : -9223372036854775808 ≤ n) (hn1 : n ≤ 9223372036854775807) (h60 : 60 < n) (h1000 : ¬ n ≤ 1000) :
    Calls Try.prog 4 #[.int .u64 s, .int .i64 n, .slice ao rs.length cap] w fun e w' => e = .returned (.bool true) ∧ Below w.heap.size w w' := by
  go_enter Try.func4, Try.ntmps4
  go_wp2_with fail
  refine HG.out.mono ?_
  rintro e w1 ⟨rfl, rfl⟩
  go_wp2_with fail
  refine (plan_form s n N PN.out ao rs.length cap rs _ HR.out HF.out (by omega) (by omega)).mono ?_
  rintro e w2 ⟨ad, cd, rfl, hd1, hb1⟩
  go_wp2_with fail
  refine (rplan_form s n N PN.out ao rs.length cap rs _ (HR.out.below hb1) HF.out (by omega) (by omega)).mono ?_
  rintro e w3 ⟨ae, ce, rfl, hd2, hb2⟩
  have hb12 := hb1.trans (hb2.mono hb1.size)
  have HD1 := Lib.hid (hd1.below hb2).2
  have HD2 := Lib.hid hd2.2
  clear hd1 hd2
  go_wp2_with fail
  go_loopw [37] (fun i wr => ∃ k q : Nat, k ≤ N ∧ i = .int .i64 k ∧ wr = w3.drewN q) (fun i _ => N - (intOf i).toNat)
  case atStart => exact ⟨0, 0, Nat.zero_le _, rfl, rfl⟩
  case round =>
    obtain ⟨k, q, hk, rfl, rfl⟩ := hrel
    by_cases hlt : k < N
    · obtain ⟨b1, o1, rfl, x0, x1, x2, x3, x4⟩ := HD1.out k _ (plan_get rs N k s hlt)
      obtain ⟨b2, o2, rfl, y0, y1, y2, y3, y4⟩ := HD2.out k _ (plan_get rs N k s hlt)
      obtain ⟨f0, f1, f2, f3, f4⟩ := dmgOf_wf HF.out (stK k s)
      have hq := Lib.hid fun w => dmg_neq _ _ _ _ _ f0 f1 f2 f3 f4 w
      generalize (dmgOf rs (stK k s)).kind = c0 at *
      generalize (dmgOf rs (stK k s)).reel = c1 at *
      generalize (dmgOf rs (stK k s)).piece = c2 at *
      generalize (dmgOf rs (stK k s)).at_ = c3 at *
      generalize (dmgOf rs (stK k s)).len = c4 at *
      have h9 : (k : Int) < (N : Int) := by omega
      clear f0 f1 f2 f3 f4
      go_wp2_with fail
      refine wp_region_quiet_lit (by kernel_rfl) (by kernel_rfl) ?_
      iterate 8 (go_big_quiet_step (fail))
      refine wpQuiet_step (fun K hK => ?_)
      refine step_qneq (by rfl) _ _ _ _ (by rfl) _ _ _ (by rfl) (by rfl) (fun w => dmg_guard _ _ _ _ w) hq.out (hK _ ?_)
      clear hK K
      refine wpQuiet_nil ?_
      rintro _ ⟨nq, rfl⟩
      go_wp2_with fail
      go_roundw
      case rel => first | exact ⟨k + 1, q + nq, by omega, by go_num, by first | rfl | simp⟩ | ((repeat apply Exists.intro); exact ⟨⟨k + 1, q + nq, by omega, by go_num, by first | rfl | simp⟩, rfl⟩)
      case measure => simp [intOf]; omega
    · obtain rfl : k = N := by omega
      go_wp2_with fail
      refine (awake59_any _).mono ?_
      rintro e w5 ⟨rfl, hb5⟩
      go_wp2_with fail
      go_ret
      exact ⟨rfl, (below_drewN hb12 q).trans (hb5.mono hb12.size)⟩

theorem law_plans59 (s n : Int) (_ws : (Lit.int .u64 s).wf = true) (wn : (Lit.int .i64 n).wf = true) (v : Value) (rs : List Reel) (w : World) (hv : ReelsArg w v rs) :
    Calls Try.prog 4 #[.int .u64 s, .int .i64 n, v] w fun e w' => e = .returned (.bool true) ∧ Below w.heap.size w w' := by
  have hn : -9223372036854775808 ≤ n ∧ n ≤ 9223372036854775807 := by simpa [Lit.wf, IntKind.min, IntKind.max, IntKind.signed, IntKind.bits] using wn
  obtain ⟨ao, cap, rfl, hl, hc, hr, hb⟩ := hv
  have hgr := great59_any ao rs.length cap rs w hr (by omega) hb
  by_cases hs : smallR rs = true
  rotate_left
  · rw [if_neg hs] at hgr
    exact plans_big s n ao cap rs w hgr
  · rw [if_pos hs] at hgr
    obtain ⟨_, _, hf⟩ := small_fine hs
    have hN : planN n ≤ 1000 := by
      unfold planN
      split
      · omega
      · split <;> omega
    by_cases h60 : 60 < n
    · by_cases h1000 : n ≤ 1000
      · exact plans_mid s n ao cap rs w hgr h60 h1000
      · exact plans_high s n ao cap rs w hgr _ rfl hN hr hf hn.1 hn.2 h60 h1000
    · exact plans_low s n ao cap rs w hgr _ rfl hN hr hf hn.1 hn.2 h60
end Go.Proofs.Ytghpolfmhnnbaaa
