/-
  The walk of AgerAges.
-/
import Derived.Test.YtghpolfmhnnbaaaAgLaw2
namespace Go.Proofs.Ytghpolfmhnnbaaa
open Go.RowKit

set_option maxHeartbeats 4000000 in
set_option maxRecDepth 100000 in
theorem ages_skip (s : Int) (n : Nat) (ao : Option Addr) (cap : Nat) (rs : List Reel) (w : World) (G : Int) (hG : G = 1 ∨ (G = 0 ∧ 30 < n))
    (HG : Hid (Calls Try.prog 10 #[.slice ao rs.length cap] w fun e w' => e = .returned (.int .i64 G) ∧ w' = w)) :
    Calls Try.prog 9 #[.int .u64 s, .int .u8 n, .slice ao rs.length cap] w fun e w' => e = .returned (.bool true) ∧ Below w.heap.size w w' := by
  rcases hG with rfl | ⟨rfl, hn⟩
  · go_enter Try.func9, Try.ntmps9
    go_wp2_with fail
    refine HG.out.mono ?_
    rintro e w1 ⟨rfl, rfl⟩
    go_wp2_with fail
    refine (awake59_any _).mono ?_
    rintro e w2 ⟨rfl, hb2⟩
    go_wp2_with fail
    go_ret
    exact ⟨rfl, hb2⟩
  · go_enter Try.func9, Try.ntmps9
    go_wp2_with fail
    refine HG.out.mono ?_
    rintro e w1 ⟨rfl, rfl⟩
    go_wp2_with fail
    refine (awake59_any _).mono ?_
    rintro e w2 ⟨rfl, hb2⟩
    go_wp2_with fail
    go_ret
    exact ⟨rfl, hb2⟩

set_option maxHeartbeats 4000000 in
set_option maxRecDepth 100000 in
theorem ages_main (s : Int) (N : Nat) (ao : Option Addr) (cap : Nat) (rs : List Reel) (w : World) (hN : ¬ 30 < N) (hf : Bnd 6 rs) (hr : Reels w ao rs.length rs)
    (HG : Hid (Calls Try.prog 10 #[.slice ao rs.length cap] w fun e w' => e = .returned (.int .i64 0) ∧ w' = w)) :
    Calls Try.prog 9 #[.int .u64 s, .int .u8 N, .slice ao rs.length cap] w fun e w' => e = .returned (.bool true) ∧ Below w.heap.size w w' := by
  have hfine := hf.fine (by omega)
  have pn : planN N = N := by unfold planN; split <;> (try split) <;> omega
  have PN := Lib.hid pn
  have HR := Lib.hid hr
  have HF := Lib.hid hf
  have HE := Lib.hid hfine
  clear hr hf pn hfine
  go_enter Try.func9, Try.ntmps9
  go_wp2_with fail
  refine HG.out.mono ?_
  rintro e w1 ⟨rfl, rfl⟩
  go_wp2_with fail
  refine (plan_form s N N PN.out ao rs.length cap rs _ HR.out HE.out (by omega) (by omega)).mono ?_
  rintro e w2 ⟨ad, cd, rfl, hd, hb1⟩
  have HD := Lib.hid hd
  have HR1 := Lib.hid (HR.out.below hb1)
  clear hd
  go_wp2_with fail
  go_loopw [7, 25] (fun v i wr => ∃ k : Nat, k ≤ N ∧ i = .int .i64 k ∧ Below w2.heap.size w2 wr ∧ ∃ a' n' c', v = .slice a' n' c' ∧ Reels wr a' n' (ageR rs ((plan rs N s).take k))) (fun _ i _ => N - (intOf i).toNat)
  case atStart => exact ⟨0, Nat.zero_le _, rfl, Below.refl _ _, ao, _, cap, rfl, HR1.out⟩
  case round =>
    obtain ⟨k, hk, rfl, hb, a', n', c', rfl, hrr⟩ := hrel
    by_cases hlt : k < N
    · obtain ⟨b1, o1, had, x0, x1, x2, x3, x4⟩ := (HD.out.below hb).2 k _ (plan_get rs N k s hlt)
      subst had
      have hbd := ageR_bd HF.out ((plan rs N s).take k)
      have hfn : Fine (ageR rs ((plan rs N s).take k)) := hbd.fine (by rw [List.length_take, plan_length]; omega)
      have hld := dmgOf_in (rs := rs) (stK k s)
      have hsn := congrArg (ageR rs) (plan_take (rs := rs) (s := s) hlt)
      rw [ageR_snoc] at hsn
      have HSN := Lib.hid hsn
      generalize hD : dmgOf rs (stK k s) = D at *
      clear hD hsn
      obtain ⟨d0, d1, d2, d3, d4⟩ := D
      obtain ⟨W, hW, hbW, hzW, y0, y1, y2, y3, y4⟩ := dbox wr d0 d1 d2 d3 d4
      have HAP := Lib.hid (apply_r a' n' c' _ d0 d1 d2 d3 d4 W (hrr.below hbW) hfn hld (fun _ => burst8))
      have hbb := hb.trans (hbW.mono hb.size)
      clear hrr hzW
      go_wp2_with fail
      refine HAP.out.mono ?_
      rintro e w3 ⟨a2, c2, rfl, hr2, _, _, hb3⟩
      have hfin := hbb.trans (hb3.mono hbb.size)
      rw [← HSN.out] at hr2
      have HR2 := Lib.hid hr2
      clear hr2
      go_wp2_with fail
      go_roundw
      case rel => first | exact ⟨k + 1, by omega, by go_num, hfin, a2, _, c2, rfl, by rw [HSN.out] at *; first | exact HR2.out | (have := HR2.out; rw [HSN.out] at this; exact this)⟩ | ((repeat apply Exists.intro); exact ⟨⟨k + 1, by omega, by go_num, hfin, a2, _, c2, rfl, HR2.out⟩, rfl⟩)
      case measure => simp [intOf]; omega
    · obtain rfl : k = N := by omega
      rw [List.take_of_length_le (by rw [plan_length]; omega)] at hrr
      have hn := reels_len hrr
      subst hn
      have hbw := hb1.trans (hb.mono hb1.size)
      have hbd := ageR_bd HF.out (plan rs k s)
      have hal : (ageR rs (plan rs k s)).length ≤ 9223372036854775807 := by have := hbd.1; omega
      have hap : ∀ r ∈ ageR rs (plan rs k s), r.ps.length ≤ 9223372036854775807 := fun r hr => by
        have := (hbd.2 r hr).1
        rw [plan_length] at this
        omega
      have HAP := Lib.hid hap
      have HRR := Lib.hid hrr
      have HBW := Lib.hid hbw
      clear hrr hbd hap
      go_wp2_with fail
      refine (age_any s k ao cap rs _ (HR.out.below HBW.out) HF.out (by omega)).mono ?_
      rintro e w4 ⟨a4, c4, rfl, hr4, hb4⟩
      have HR4 := Lib.hid hr4
      clear hr4
      go_wp2_with fail
      refine (same_true a4 a' _ c4 c' _ w4 HR4.out (HRR.out.below hb4) hal HAP.out).mono ?_
      rintro e w5 ⟨rfl, hb5⟩
      have hb45 := hb4.trans (hb5.mono hb4.size)
      have hbw5 := hbw.trans (hb45.mono hbw.size)
      have HB5 := Lib.hid hbw5
      have HR5 := Lib.hid (HRR.out.below hb45)
      clear HR4 HRR
      go_wp2_with fail
      refine (age_any s k ao cap rs _ (HR.out.below HB5.out) HF.out (by omega)).mono ?_
      rintro e w6 ⟨a6, c6, rfl, hr6, hb6⟩
      have HR6 := Lib.hid hr6
      clear hr6
      go_wp2_with fail
      refine (same_true a6 a' _ c6 c' _ w6 HR6.out (HR5.out.below hb6) hal HAP.out).mono ?_
      rintro e w7 ⟨rfl, hb7⟩
      have hbw7 := (hbw5.trans (hb6.mono hbw5.size)).trans (hb7.mono (Nat.le_trans hbw5.size hb6.size))
      clear HR6 HR5
      go_wp2_with fail
      refine (awake59_any _).mono ?_
      rintro e w8 ⟨rfl, hb8⟩
      go_wp2_with fail
      go_ret
      exact ⟨rfl, hbw7.trans (hb8.mono hbw7.size)⟩
theorem law_ages (s n : Int) (_ws : (Lit.int .u64 s).wf = true) (wn : (Lit.int .u8 n).wf = true) (v : Value) (rs : List Reel) (w : World) (hv : ReelsArg w v rs) :
    Calls Try.prog 9 #[.int .u64 s, .int .u8 n, v] w fun e w' => e = .returned (.bool true) ∧ Below w.heap.size w w' := by
  obtain ⟨n, rfl, hn⟩ := u8_nat wn
  obtain ⟨ao, cap, rfl, hl, hc, hr, hb⟩ := hv
  have hgr := great59_any ao rs.length cap rs w hr (by omega) hb
  by_cases hs : smallR rs = true
  rotate_left
  · rw [if_neg hs] at hgr
    exact ages_skip s n ao cap rs w 1 (.inl rfl) hgr
  · rw [if_pos hs] at hgr
    by_cases hnm : 30 < n
    · exact ages_skip s n ao cap rs w 0 (.inr ⟨rfl, hnm⟩) hgr
    · exact ages_main s n ao cap rs w hnm (small_bnd hs) hr hgr
end Go.Proofs.Ytghpolfmhnnbaaa
