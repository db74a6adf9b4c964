/-
  The lines of the first words (Prefix).
-/
import Derived.Test.YtbfgjngljggbpaaParLaw2
import Derived.Test.YtbfgjngljggbpaaQuietTail
import Derived.Lib.Strings
namespace Go.Proofs.Ytbfgjngljggbpaa
open Go.RowKit

set_option maxHeartbeats 1000000 in
theorem slprefix_any (s p : ByteArray) (w : World) (t : List UInt8) (h : s.data.toList = p.data.toList ++ t) :
    Calls Try.prog 24 #[.string s, .string p] w fun e w' => e = .returned (.bool true) ∧ w' = w := by
  have hle : p.size ≤ s.size := by
    have := congrArg List.length h
    rw [List.length_append] at this
    have e1 : s.data.toList.length = s.size := by simp
    have e2 : p.data.toList.length = p.size := by simp
    omega
  have hx : ((s.extract 0 p.size).toList == p.toList) = true := by
    rw [Lib.extract_toList, Lib.toList_data, h]
    have e2 : p.data.toList.length = p.size := by simp
    rw [Nat.sub_zero, List.drop_zero, ← e2, List.take_left]
    exact beq_self_eq_true _
  clear h
  have HX := Lib.hid hx
  clear hx
  go_enter Try.func24, Try.ntmps24
  go_wp2_with fail
  go_ret
  refine ⟨?_, rfl⟩
  show Ending.returned (Value.bool ((s.extract 0 p.size).toList == p.toList)) = _
  rw [HX.out]
theorem prefix_any (s p : ByteArray) (w : World) (t : List UInt8) (h : s.data.toList = p.data.toList ++ t) :
    Calls Try.prog 14 #[.string s, .string p] w fun e w' => e = .returned (.bool true) ∧ w' = w := by
  have hc := fun w => slprefix_any s p w t h
  go_enter Try.func14, Try.ntmps14
  go_wp2_with fail
  refine (hc _).mono ?_
  rintro e w' ⟨rfl, rfl⟩
  go_wp2_with fail
  go_ret
  exact ⟨rfl, rfl⟩

theorem Own.capacity {w : World} {B n c : Nat} {E : TypeId} {ao : Option Addr} {xs : List Value} (h : Own w B E (.slice ao n c) xs) : n ≤ c := by
  rcases h.2 with ⟨e, hn⟩ | ⟨g, cap, cur, e, _, _, hc, _⟩
  · injection e with _ e1 _
    omega
  · injection e with _ e1 e2
    omega
theorem Words.take {w : World} {v : Value} {ws : List (List UInt8)} (h : Words w v ws) (k : Nat) (hk : k ≤ ws.length) : ∃ ao cap, v = .slice ao ws.length cap ∧ Words w (.slice ao k cap) (ws.take k) := by
  obtain ⟨ao, cap, rfl, h1, h2, h3, h4⟩ := h
  refine ⟨ao, cap, rfl, ao, cap, by rw [List.length_take, Nat.min_eq_left hk], by rw [List.length_take]; omega, h2, ?_, ?_⟩
  · rw [List.length_take, Nat.min_eq_left hk]; exact h3.take k hk
  · have := bulkL_take ws k; omega

theorem perr_take {ws : List (List UInt8)} {wd : Nat} (h : Par.perr ws wd = 0) (k : Nat) : Par.perr (ws.take k) wd = 0 := by
  obtain ⟨w1, w2, hv⟩ := Par.perr_ok h
  rw [Par.perr_of w1 w2, if_pos]
  exact List.all_eq_true.2 fun x hx => List.all_eq_true.1 hv x (List.mem_of_mem_take hx)
set_option maxRecDepth 100000 in
set_option maxHeartbeats 2000000 in
theorem law_prefix (z zk : Int) (hz : (Lit.int .u8 z).wf = true) (hzk : (Lit.int .u8 zk).wf = true) (v : Value) (ws : List (List UInt8)) (w : World) (hW : Words w v ws) :
    Calls Try.prog 4 #[v, .int .u8 z, .int .u8 zk] w fun e w' => e = .returned (.bool true) ∧ Below w.heap.size w w' := by
  obtain ⟨wd, e1, w1, w2, n, rfl, hn⟩ := width_of hz 200 (by decide) (by decide)
  have e1 : ((n : Int) % 200 + 1) = wd := e1
  obtain ⟨m, rfl, hm⟩ : ∃ m : Nat, zk = m ∧ m < 256 := by
    obtain ⟨_, _, _, _, m, h1, h2⟩ := width_of hzk 200 (by decide) (by decide)
    exact ⟨m, h1, h2⟩
  have caw := fun w => awake50_any w
  have cg := fun w hW => greatW v ws w hW
  have cw := fun w hW => wrapW v ws wd w hW w1
  obtain ⟨k, L, hk, hw, hq, hL0⟩ : ∃ k L : Nat, k ≤ ws.length ∧ RowKit.wrap64 ((ws.length : Int) + 1) = (L : Int) ∧ (m : Int) % (L : Int) = (k : Int) ∧ 0 < L := by
    have hlen := bulkL_len ws
    obtain ⟨_, _, _, _, _, _, hbk⟩ := hW
    have := Nat.mod_lt m (show 0 < ws.length + 1 by omega)
    exact ⟨m % (ws.length + 1), ws.length + 1, by omega, by unfold wrap64; omega, by omega, by omega⟩
  obtain ⟨ao, cap, rfl, hWk⟩ := hW.take _ hk
  have hcap : k ≤ cap := by
    obtain ⟨_, _, h1, h2, _⟩ := hWk
    injection h1 with _ _ h3
    rw [List.length_take] at h2
    omega
  have cwk := fun w hW => wrapW (.slice ao k cap) (ws.take k) wd w hW w1
  have HW := Lib.hid hW
  have HWK := Lib.hid hWk
  clear hz hzk hW hWk
  by_cases hg : 800 < totalL ws
  · rw [decide_eq_true hg] at cg
    clear hg
    go_enter Try.func4, Try.ntmps4
    go_wp2_with fail
    refine (cg _ HW.out).mono ?_
    rintro e w3 ⟨rfl, rfl⟩
    go_wp2_with fail
    refine (caw _).mono ?_
    rintro e w3 ⟨rfl, hb3⟩
    go_wp2_with fail
    go_ret
    exact ⟨rfl, hb3⟩
  rw [decide_eq_false hg] at cg
  clear hg
  rcases perr_int ws wd with hE | hE
  rotate_left
  · generalize Par.perr ws wd = E at *
    go_enter Try.func4, Try.ntmps4
    go_wp2_with fail
    refine (cg _ HW.out).mono ?_
    rintro e w3 ⟨rfl, rfl⟩
    go_wp2_with fail
    refine (cw _ HW.out).mono ?_
    rintro e w3 ⟨v, rfl, ho, hb3⟩
    go_wp2_with fail
    refine (cwk _ (HWK.out.below hb3)).mono ?_
    rintro e w4 ⟨v4, rfl, ho4, hb4⟩
    have hb5 := bchain hb3 hb4
    go_wp2_with fail
    refine (caw _).mono ?_
    rintro e w5 ⟨rfl, hb6⟩
    go_wp2_with fail
    go_ret
    exact ⟨rfl, bchain hb5 hb6⟩
  have hEk := perr_take hE k
  have hpv : parV ws wd = Par.wrap wd ws := by rw [parV, if_pos hE]; rfl
  have hpk : parV (ws.take k) wd = Par.wrap wd (ws.take k) := by rw [parV, if_pos hEk]; rfl
  rw [hE, hpv] at cw
  rw [hEk, hpk] at cwk
  have hlaw := Par.prefix_law wd ws k
  have hcnt : (Par.wrap wd ws).length ≤ 1048576 := by
    have h1 : (Par.wrap wd ws).length ≤ (Par.pieces wd ws).length := Par.lines_count wd (Par.pieces wd ws)
    have h2 := Par.pieces_count (w := wd) w1 ws
    have h3 : (ws.map fun x => x.length + 1).sum ≤ 1048576 := by
      obtain ⟨_, _, _, _, _, _, hbk⟩ := HW.out
      exact hbk
    omega
  clear hE hEk hpv hpk
  generalize Par.wrap wd ws = ls at *
  have hX : Hid (Par.wrap wd (ws.take k) = Par.wrap wd (ws.take k)) := rfl
  generalize Par.wrap wd (ws.take k) = ks at *
  rcases Par.snoc_cases ks with hks | ⟨ys, l, hks⟩
  · subst hks
    go_enter Try.func4, Try.ntmps4
    go_wp2_with fail
    refine (cg _ HW.out).mono ?_
    rintro e w3 ⟨rfl, rfl⟩
    go_wp2_with fail
    refine (cw _ HW.out).mono ?_
    rintro e w3 ⟨v, rfl, ho, hb3⟩
    go_wp2_with fail
    refine (cwk _ (HWK.out.below hb3)).mono ?_
    rintro e w4 ⟨v4, rfl, ho4, hb4⟩
    obtain ⟨ao4, cap4, rfl, _⟩ := ho4.form
    have hb5 := bchain hb3 hb4
    have hz : (strsL []).length = 0 := rfl
    rw [hz]
    go_wp2_with fail
    refine (caw _).mono ?_
    rintro e w5 ⟨rfl, hb6⟩
    go_wp2_with fail
    go_ret
    exact ⟨rfl, bchain hb5 hb6⟩
  obtain ⟨t, zs, hls⟩ := hlaw ys l hks
  have hy : ls[ys.length]? = some (l ++ t) := by rw [hls]; simp
  have hy4 : ks[ys.length]? = some l := by rw [hks]; simp
  have ht : (ls.take ys.length == ks.take ys.length) = true := by rw [hls, hks, List.take_left, List.take_left]; exact beq_self_eq_true _
  have hkl : ks.length = ys.length + 1 := by rw [hks]; simp
  have hll : ys.length < ls.length := by rw [hls]; simp
  have hpr := fun w => prefix_any ⟨(l ++ t).toArray⟩ ⟨l.toArray⟩ w t rfl
  clear hls hks hlaw hX
  generalize l ++ t = lt at *
  generalize ys.length = y at *
  go_enter Try.func4, Try.ntmps4
  go_wp2_with fail
  refine (cg _ HW.out).mono ?_
  rintro e w3 ⟨rfl, rfl⟩
  go_wp2_with fail
  refine (cw _ HW.out).mono ?_
  rintro e w3 ⟨v, rfl, ho, hb3⟩
  obtain ⟨ao3, cap3, rfl, hao3⟩ := ho.form
  rw [strsL_length] at ho hao3 ⊢
  obtain ⟨g3, rfl⟩ := hao3 (by omega)
  have hc3 := ho.capacity
  go_wp2_with fail
  refine (cwk _ (HWK.out.below hb3)).mono ?_
  rintro e w4 ⟨v4, rfl, ho4, hb4⟩
  obtain ⟨ao4, cap4, rfl, hao4⟩ := ho4.form
  rw [strsL_length] at ho4 hao4 ⊢
  obtain ⟨g4, rfl⟩ := hao4 (by omega)
  have hc4 := ho4.capacity
  have ho3 := ho.below hb4 (Nat.le_refl _)
  have hb5 := bchain hb3 hb4
  have c3 := ho3.cell y _ (strsL_get ls y lt hy)
  have c4 := ho4.cell y _ (strsL_get ks y l hy4)
  have hsm := fun q => same02_any (some ⟨g3, 0, none⟩) (some ⟨g4, 0, none⟩) y cap3 y cap4 (ls.take y) (ks.take y) (w4.drewN q) (((ho3.drewN q).read).take y (by omega)) (((ho4.drewN q).read).take y (by omega)) (by omega) (by omega)
  rw [ht] at hsm
  generalize ls.length = A at *
  generalize ks.length = S at *
  have hn1 : wrap64 ((S : Int) - 1) = (y : Int) := by unfold wrap64; omega
  have hs0 : 0 < S := by omega
  have hyc3 : y ≤ cap3 := by omega
  have hyc4 : y ≤ cap4 := by omega
  have hyS : y < S := by omega
  clear hkl
  generalize (⟨lt.toArray⟩ : ByteArray) = X at *
  generalize (⟨l.toArray⟩ : ByteArray) = Y at *
  go_wp2_with fail
  refine wp_region_quiet_tail 25 (by kernel_rfl) (by kernel_rfl) ?_
  simp only [List.take_succ_cons, List.take_zero, List.drop_succ_cons, List.drop_zero]
  repeat (go_big_quiet_step (first | exact Calls.quiet_of (hsm _) | exact Calls.quiet_of_same (hpr _)))
  refine wpQuiet_nil ?_
  rintro _ ⟨nq, rfl⟩
  have hb7 := below_drewN hb5 nq
  go_wp2_with fail
  refine (caw _).mono ?_
  rintro e w8 ⟨rfl, hb8⟩
  go_wp2_with fail
  go_ret
  exact ⟨rfl, bchain hb7 hb8⟩
end Go.Proofs.Ytbfgjngljggbpaa
