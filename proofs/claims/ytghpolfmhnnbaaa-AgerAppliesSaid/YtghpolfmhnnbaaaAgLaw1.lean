/-
  The walk of AgerPrefix.
-/
import Derived.Test.YtghpolfmhnnbaaaAgAwake
import Derived.Test.YtghpolfmhnnbaaaAgRArgs
import Derived.DeepKeys
namespace Go.Proofs.Ytghpolfmhnnbaaa
open Go.RowKit

theorem wf_i64 {n : Int} (h : -9223372036854775808 ≤ n ∧ n ≤ 9223372036854775807) : (Lit.int .i64 n).wf = true := by
  simpa [Lit.wf, IntKind.min, IntKind.max, IntKind.signed, IntKind.bits] using h
/-- An action equals itself, as Go compares structs. -/
theorem dmg_eq (a b c d e : Int) (ha : (Lit.int .i64 a).wf = true) (hb : (Lit.int .i64 b).wf = true) (hc : (Lit.int .i64 c).wf = true) (hd : (Lit.int .i64 d).wf = true) (he : (Lit.int .i64 e).wf = true) (w : World) :
    (Op.equalIn 10000 24 (.agg #[.int .i64 a, .int .i64 b, .int .i64 c, .int .i64 d, .int .i64 e]) (.agg #[.int .i64 a, .int .i64 b, .int .i64 c, .int .i64 d, .int .i64 e])).run Try.prog w = .ok true w := by
  have z1 : Try.prog.cellsOf 24 = 5 := by kernel_rfl
  have z2 : Try.prog.cellsOf 3 = 1 := by kernel_rfl
  have hk : Try.prog.keyTypeAt 10 24 = true := by kernel_rfl
  have e1 : ∀ x : Int, (Lit.int .i64 x).wf = true → Try.prog.keyLits 9 3 [Value.int .i64 x] = some [.int .i64 x] := fun x hx => by
    unfold Program.keyLits
    simp only [Try.underlying3]
    rw [if_pos ⟨trivial, hx⟩]
  have hl : Try.prog.keyLits 10 24 [Value.int .i64 a, .int .i64 b, .int .i64 c, .int .i64 d, .int .i64 e] = some [.int .i64 a, .int .i64 b, .int .i64 c, .int .i64 d, .int .i64 e] := by
    unfold Program.keyLits
    simp only [Try.underlying24]
    rw [if_pos ⟨by rw [z1]; rfl, by simp⟩]
    simp only [List.mapM_cons, List.mapM_nil, z2]
    simp [e1 a ha, e1 b hb, e1 c hc, e1 d hd, e1 e he]
  have hf : (Value.agg #[.int .i64 a, .int .i64 b, .int .i64 c, .int .i64 d, .int .i64 e]).formed Try.prog 24 = true := by kernel_rfl
  obtain ⟨r, hr, hiff⟩ := run_equalIn_deep (P := Try.prog) 9990 10 24 hk w 10 10 _ _ _ _ hf hf hl hl
  rw [hiff.2 rfl] at hr
  exact hr

set_option maxHeartbeats 400000 in
theorem dmg_neq (a b c d e : Int) (ha : (Lit.int .i64 a).wf = true) (hb : (Lit.int .i64 b).wf = true) (hc : (Lit.int .i64 c).wf = true) (hd : (Lit.int .i64 d).wf = true) (he : (Lit.int .i64 e).wf = true) (w : World) :
    (binOp .neq 24 (.agg #[.int .i64 a, .int .i64 b, .int .i64 c, .int .i64 d, .int .i64 e]) (.agg #[.int .i64 a, .int .i64 b, .int .i64 c, .int .i64 d, .int .i64 e])).run Try.prog w = .ok (.bool false) w := by
  have hq := fun w => dmg_eq a b c d e ha hb hc hd he w
  go_simp
/-- '!=' as a step of a quiet region. -/
theorem step_qneq {P : Program} {ops : Array Oper} {o : Oper} {a : Act} {C : World → Prop} {K : Act → Prop} {X : Prop} (hgd : o.guard = none) (t u : TypeId) (x y : Operand) (ho : o.op = Op.binOp .neq t x y u) (vx vy v : Value) (hx : a.eval x = vx) (hy : a.eval y = vy)
    (hg : ∀ w, (eqGuard .neq t x y vx vy).run P w = .ok () w) (hrun : ∀ w, (binOp .neq t vx vy).run P w = .ok v w) (h : K (a.put o.dst v)) : if Region.wanted o (yielded ops a.tmps) = true then o.quiet P a C K else X := by
  have hw : Region.wanted o (yielded ops a.tmps) = true := by simp [Region.wanted, hgd]
  rw [if_pos hw]
  refine ⟨v, fun w _ => ?_, h⟩
  unfold Oper.quietAt execOp
  simp only [ho, hx, hy, Sem.run_bind, hg, hrun, Result.andThen_ok, Sem.run_pure]
  exact ⟨rfl, rfl⟩
theorem dmg_guard (x y : Operand) (xs ys : Array Value) (w : World) : (eqGuard .neq 24 x y (.agg xs) (.agg ys)).run Try.prog w = .ok () w :=
  run_eqGuard_agg (P := Try.prog) w .neq 24 x y xs ys (by kernel_rfl)
theorem small_fine {rs : List Reel} (h : smallR rs = true) : rs.length ≤ 6 ∧ (∀ r ∈ rs, r.ps.length ≤ 6 ∧ ∀ x ∈ r.ps, x.length ≤ 200) ∧ Fine rs := by
  unfold smallR smallP at h
  simp only [Bool.and_eq_true, decide_eq_true_eq, List.all_eq_true] at h
  refine ⟨h.1, h.2, by omega, fun r hr => ?_⟩
  obtain ⟨h1, h2⟩ := h.2 r hr
  exact ⟨by omega, fun x hx => by have := h2 x hx; omega⟩
theorem dmgOf_wf {rs : List Reel} (hf : Fine rs) (s : Int) : (Lit.int .i64 (dmgOf rs s).kind).wf = true ∧ (Lit.int .i64 (dmgOf rs s).reel).wf = true ∧ (Lit.int .i64 (dmgOf rs s).piece).wf = true ∧ (Lit.int .i64 (dmgOf rs s).at_).wf = true ∧ (Lit.int .i64 (dmgOf rs s).len).wf = true := by
  have hP : (pkPs rs s).length ≤ 65536 ∧ ∀ x ∈ pkPs rs s, x.length ≤ 65536 := by
    unfold pkPs
    split
    · exact hf.2 _ (List.mem_of_getElem? ‹_›)
    · simp
  have hZ : pkSize (pkPs rs s) s ≤ 65536 := by
    unfold pkSize
    split
    · exact hP.1
    · split
      · exact hP.2 _ (List.mem_of_getElem? ‹_›)
      · omega
  have h1 := pkKind_bd s
  have h2 := pkReel_bd rs.length s
  have h3 := pkPiece_bd (pkPs rs s).length s
  have h4 := pkAt_bd (pkSize (pkPs rs s) s) s
  have h5 := pkLen_bd s
  have h6 := hf.1
  refine ⟨wf_i64 ?_, wf_i64 ?_, wf_i64 ?_, wf_i64 ?_, wf_i64 ?_⟩
  · show _ ≤ pkKind s ∧ pkKind s ≤ _
    omega
  · show _ ≤ pkReel rs.length s ∧ pkReel rs.length s ≤ _
    omega
  · show _ ≤ pkPiece (pkPs rs s).length s ∧ pkPiece (pkPs rs s).length s ≤ _
    omega
  · show _ ≤ pkAt (pkSize (pkPs rs s) s) s ∧ pkAt (pkSize (pkPs rs s) s) s ≤ _
    omega
  · show _ ≤ pkLen s ∧ pkLen s ≤ _
    omega
theorem plan_form (s n : Int) (N : Nat) (hN : planN n = N) (ao : Option Addr) (len cap : Nat) (rs : List Reel) (w : World) (hr : Reels w ao len rs) (hf : Fine rs) (hn0 : -9223372036854775808 ≤ n) (hn1 : n ≤ 9223372036854775807) :
    Calls Try.prog 16 #[.int .u64 s, .int .i64 n, .slice ao len cap] w fun e w' => ∃ ad cd, e = .returned (.slice ad N cd) ∧ Dmgs w' ad N (plan rs N s) ∧ Below w.heap.size w w' := by
  refine (plan_any s n ao len cap rs w hr (by rw [hr.1]; exact hf.1) hf.2 hn0 hn1).mono ?_
  rintro e w' ⟨v, rfl, ho, hb⟩
  rw [hN] at ho
  obtain ⟨ad, cd, rfl, _⟩ := ho.form
  rw [plan_length] at ho ⊢
  exact ⟨ad, cd, rfl, ho.read, hb⟩

set_option maxHeartbeats 4000000 in
set_option maxRecDepth 100000 in
theorem prefix_big (s : Int) (n m : Nat) (_hn : n < 256) (_hm : m < 256) (ao : Option Addr) (cap : Nat) (rs : List Reel) (w : World) (HG : Hid (Calls Try.prog 10 #[.slice ao rs.length cap] w fun e w' => e = .returned (.int .i64 1) ∧ w' = w)) :
    Calls Try.prog 5 #[.int .u64 s, .int .u8 n, .int .u8 m, .slice ao rs.length cap] w fun e w' => e = .returned (.bool true) ∧ Below w.heap.size w w' := by
  go_enter Try.func5, Try.ntmps5
  go_wp2_with fail
  refine HG.out.mono ?_
  rintro e w1 ⟨rfl, rfl⟩
  go_wp2_with fail
  refine (awake59_any _).mono ?_
  rintro e w2 ⟨rfl, hb2⟩
  go_wp2_with fail
  go_ret
  exact ⟨rfl, hb2⟩
set_option maxHeartbeats 4000000 in
set_option maxRecDepth 100000 in
theorem prefix_n (s : Int) (n m : Nat) (_hn : n < 256) (_hm : m < 256) (ao : Option Addr) (cap : Nat) (rs : List Reel) (w : World) (HG : Hid (Calls Try.prog 10 #[.slice ao rs.length cap] w fun e w' => e = .returned (.int .i64 0) ∧ w' = w)) (hnm : m < n) :
    Calls Try.prog 5 #[.int .u64 s, .int .u8 n, .int .u8 m, .slice ao rs.length cap] w fun e w' => e = .returned (.bool true) ∧ Below w.heap.size w w' := by
  go_enter Try.func5, Try.ntmps5
  go_wp2_with fail
  refine HG.out.mono ?_
  rintro e w1 ⟨rfl, rfl⟩
  go_wp2_with fail
  refine (awake59_any _).mono ?_
  rintro e w2 ⟨rfl, hb2⟩
  go_wp2_with fail
  go_ret
  exact ⟨rfl, hb2⟩
set_option maxHeartbeats 4000000 in
set_option maxRecDepth 100000 in
theorem prefix_m (s : Int) (n m : Nat) (_hn : n < 256) (_hm : m < 256) (ao : Option Addr) (cap : Nat) (rs : List Reel) (w : World) (HG : Hid (Calls Try.prog 10 #[.slice ao rs.length cap] w fun e w' => e = .returned (.int .i64 0) ∧ w' = w)) (hnm : ¬ m < n) (hm2 : 200 < m) :
    Calls Try.prog 5 #[.int .u64 s, .int .u8 n, .int .u8 m, .slice ao rs.length cap] w fun e w' => e = .returned (.bool true) ∧ Below w.heap.size w w' := by
  go_enter Try.func5, Try.ntmps5
  go_wp2_with fail
  refine HG.out.mono ?_
  rintro e w1 ⟨rfl, rfl⟩
  go_wp2_with fail
  refine (awake59_any _).mono ?_
  rintro e w2 ⟨rfl, hb2⟩
  go_wp2_with fail
  go_ret
  exact ⟨rfl, hb2⟩
set_option maxHeartbeats 4000000 in
set_option maxRecDepth 100000 in
theorem prefix_main (s : Int) (n m : Nat) (_hn : n < 256) (_hm : m < 256) (ao : Option Addr) (cap : Nat) (rs : List Reel) (w : World) (HG : Hid (Calls Try.prog 10 #[.slice ao rs.length cap] w fun e w' => e = .returned (.int .i64 0) ∧ w' = w)) (hnm : ¬ m < n) (hm2 : ¬ 200 < m) (HR : Hid (Reels w ao rs.length rs)) (HF : Hid (Fine rs)) :
    Calls Try.prog 5 #[.int .u64 s, .int .u8 n, .int .u8 m, .slice ao rs.length cap] w fun e w' => e = .returned (.bool true) ∧ Below w.heap.size w w' := by
  have pn : planN n = n := by unfold planN; split <;> (try split) <;> omega
  have pm : planN m = m := by unfold planN; split <;> (try split) <;> omega
  have p0 : planN (-(n : Int)) = 0 := by unfold planN; rw [if_pos (by omega)]
  have PN := Lib.hid pn
  have PM := Lib.hid pm
  have P0 := Lib.hid p0
  clear pn pm p0
  go_enter Try.func5, Try.ntmps5
  go_wp2_with fail
  refine HG.out.mono ?_
  rintro e w1 ⟨rfl, rfl⟩
  go_wp2_with fail
  refine (plan_form s n n PN.out ao rs.length cap rs _ HR.out HF.out (by omega) (by omega)).mono ?_
  rintro e w2 ⟨ad, cd, rfl, hd1, hb1⟩
  go_wp2_with fail
  refine (plan_form s m m PM.out ao rs.length cap rs _ (HR.out.below hb1) HF.out (by omega) (by omega)).mono ?_
  rintro e w3 ⟨ae, ce, rfl, hd2, hb2⟩
  have hb12 := hb1.trans (hb2.mono hb1.size)
  have hd1 := hd1.below hb2
  go_wp2_with fail
  refine (plan_form s (-(n : Int)) 0 P0.out ao rs.length cap rs _ (HR.out.below hb12) HF.out (by omega) (by omega)).mono ?_
  rintro e w4 ⟨af, cf, rfl, _, hb3⟩
  have hb13 := hb12.trans (hb3.mono hb12.size)
  have HD1 := Lib.hid (hd1.below hb3).2
  have HD2 := Lib.hid (hd2.below hb3).2
  have hnm2 : n ≤ m := by omega
  clear hd1 hd2
  go_wp2_with fail
  go_loopw [59] (fun i wr => ∃ k q : Nat, k ≤ n ∧ i = .int .i64 k ∧ wr = w4.drewN q) (fun i _ => n - (intOf i).toNat)
  case atStart => exact ⟨0, 0, Nat.zero_le _, rfl, rfl⟩
  case round =>
    obtain ⟨k, q, hk, rfl, rfl⟩ := hrel
    by_cases hlt : k < n
    · obtain ⟨b1, o1, rfl, x0, x1, x2, x3, x4⟩ := HD1.out k _ (plan_get rs n k s hlt)
      obtain ⟨b2, o2, rfl, y0, y1, y2, y3, y4⟩ := HD2.out k _ (plan_get rs m k s (by omega))
      obtain ⟨f0, f1, f2, f3, f4⟩ := dmgOf_wf HF.out (stK k s)
      have hq := Lib.hid fun w => dmg_neq _ _ _ _ _ f0 f1 f2 f3 f4 w
      generalize (dmgOf rs (stK k s)).kind = c0 at *
      generalize (dmgOf rs (stK k s)).reel = c1 at *
      generalize (dmgOf rs (stK k s)).piece = c2 at *
      generalize (dmgOf rs (stK k s)).at_ = c3 at *
      generalize (dmgOf rs (stK k s)).len = c4 at *
      have h9 : (k : Int) < (n : Int) := by omega
      have h10 : (k : Int) < (m : Int) := by omega
      clear f0 f1 f2 f3 f4
      go_wp2_with fail
      refine wp_region_quiet_lit (by kernel_rfl) (by kernel_rfl) ?_
      iterate 8 (go_big_quiet_step (fail))
      refine wpQuiet_step (fun K hK => ?_)
      refine step_qneq (by rfl) _ _ _ _ (by rfl) _ _ _ (by rfl) (by rfl) (fun w => dmg_guard _ _ _ _ w) hq.out (hK _ ?_)
      clear hK K
      refine wpQuiet_nil ?_
      rintro _ ⟨nq, rfl⟩
      go_wp2_with fail
      go_roundw
      case rel => first | exact ⟨k + 1, q + nq, by omega, by go_num, by first | rfl | simp⟩ | ((repeat apply Exists.intro); exact ⟨⟨k + 1, q + nq, by omega, by go_num, by first | rfl | simp⟩, rfl⟩)
      case measure => simp [intOf]; omega
    · obtain rfl : k = n := by omega
      go_wp2_with fail
      refine (awake59_any _).mono ?_
      rintro e w5 ⟨rfl, hb5⟩
      go_wp2_with fail
      go_ret
      exact ⟨rfl, (below_drewN hb13 q).trans (hb5.mono hb13.size)⟩
theorem law_prefix59 (s n m : Int) (_ws : (Lit.int .u64 s).wf = true) (wn : (Lit.int .u8 n).wf = true) (wm : (Lit.int .u8 m).wf = true) (v : Value) (rs : List Reel) (w : World) (hv : ReelsArg w v rs) :
    Calls Try.prog 5 #[.int .u64 s, .int .u8 n, .int .u8 m, v] w fun e w' => e = .returned (.bool true) ∧ Below w.heap.size w w' := by
  obtain ⟨n, rfl, hn⟩ := u8_nat wn
  obtain ⟨m, rfl, hm⟩ := u8_nat wm
  obtain ⟨ao, cap, rfl, hl, hc, hr, hb⟩ := hv
  have hgr := great59_any ao rs.length cap rs w hr (by omega) hb
  by_cases hs : smallR rs = true
  rotate_left
  · rw [if_neg hs] at hgr
    exact prefix_big s n m hn hm ao cap rs w hgr
  · rw [if_pos hs] at hgr
    obtain ⟨_, _, hf⟩ := small_fine hs
    by_cases hnm : m < n
    · exact prefix_n s n m hn hm ao cap rs w hgr hnm
    · by_cases hm2 : 200 < m
      · exact prefix_m s n m hn hm ao cap rs w hgr hnm hm2
      · exact prefix_main s n m hn hm ao cap rs w hgr hnm hm2 hr hf
end Go.Proofs.Ytghpolfmhnnbaaa
