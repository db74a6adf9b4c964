/-
  The reference's Heading; the law Result.
-/
import Derived.Test.YtbfgjngljggbpaaParRef
namespace Go.Proofs.Ytbfgjngljggbpaa
open Go.RowKit

def eqS (m : Nat) : ByteArray := ⟨(List.replicate m 61).toArray⟩
theorem eqS_size (m : Nat) : (eqS m).size = m := by unfold eqS; rw [mk_size, List.length_replicate]
theorem eqS_list (m : Nat) : (eqS m).data.toList = List.replicate m 61 := rfl
theorem eqS_app (m : Nat) : eqS m ++ ⟨#[61]⟩ = eqS (m + 1) := by
  refine of_toList ?_
  rw [app_data, eqS_list]
  exact List.replicate_succ'.symm

set_option maxHeartbeats 2000000 in
theorem rhead_any (v : Value) (ws : List (List UInt8)) (width : Int) (w : World) (hW : Words w v ws) :
    Calls Try.prog 19 #[v, .int .i64 width] w fun e w' => ∃ u, e = .returned (.tuple #[u, .int .i64 (Par.perr ws width)]) ∧ Own w' w.heap.size 9 u (strsL (headL (parV ws width))) ∧ Below w.heap.size w w' := by
  have cw := rwrap_any v ws width w hW
  obtain ⟨h200, hcnt⟩ := parV_facts ws width (by obtain ⟨_, _, _, _, _, _, hb⟩ := hW; exact hb)
  have hzero : Par.perr ws width ≠ 0 → parV ws width = [] := fun h => if_neg h
  have hEE : Par.perr ws width = 0 ∨ (Par.perr ws width != 0) = true := by
    rcases Classical.em (Par.perr ws width = 0) with h | h
    · exact .inl h
    · exact .inr (by simpa using h)
  clear hW
  generalize parV ws width = ls at *
  generalize Par.perr ws width = E at *
  by_cases hls : ls = []
  · subst hls
    have hz : (strsL []).length = 0 := rfl
    rcases hEE with rfl | hE
    · go_enter Try.func19, Try.ntmps19
      go_wp2_with fail
      refine cw.mono ?_
      rintro e w3 ⟨v3, rfl, ho, hb3⟩
      obtain ⟨ao3, cap3, rfl, _⟩ := ho.form
      rw [hz]
      go_wp2_with fail
      go_ret2
      exact ⟨_, rfl, Own.made0 _ _ _ hb3.size, hb3.alloc hb3.size _⟩
    · go_enter Try.func19, Try.ntmps19
      go_wp2_with fail
      refine cw.mono ?_
      rintro e w3 ⟨v3, rfl, ho, hb3⟩
      go_wp2_with fail
      go_ret2
      exact ⟨_, rfl, Own.made0 _ _ _ hb3.size, hb3.alloc hb3.size _⟩
  have hE : E = 0 := Classical.byContradiction fun h => hls (hzero h)
  subst hE
  have hpos := List.length_pos_iff.2 hls
  have HW := Lib.hid (widest_le h200)
  have H2 := Lib.hid h200
  have HS := Lib.hid fun (k : Nat) (x : List UInt8) (h : ls[k]? = some x) => widest_snoc ls k x h
  have HT : Hid (widestL (ls.take ls.length) = widestL ls) := by show _ = _; rw [List.take_length]
  have hH : headL ls = ls ++ [List.replicate (widestL ls) 61] := if_neg hls
  rw [hH]
  clear hEE hzero hls hH h200
  go_enter Try.func19, Try.ntmps19
  go_wp2_with fail
  refine cw.mono ?_
  rintro e w3 ⟨v3, rfl, ho, hb3⟩
  obtain ⟨ao3, cap3, rfl, hao⟩ := ho.form
  rw [strsL_length] at ho hao ⊢
  obtain ⟨g3, rfl⟩ := hao hpos
  go_wp2_with fail
  go_loopw [8, 9] (fun m i wr => ∃ k : Nat, k ≤ ls.length ∧ i = .int .i64 k ∧ m = .string (eqS (widestL (ls.take k))) ∧ wr = w3) (fun _ i _ => ls.length - (intOf i).toNat)
  case atStart => exact ⟨0, Nat.zero_le _, rfl, rfl, rfl⟩
  case round =>
    obtain ⟨k, hk, rfl, rfl, rfl⟩ := hrel
    by_cases hlt : k < ls.length
    · obtain ⟨x, hx⟩ : ∃ x, ls[k]? = some x := ⟨_, List.getElem?_eq_getElem hlt⟩
      have hcell := ho.cell k _ (strsL_get ls k x hx)
      have hst := HS.out k x hx
      have hX : (⟨x.toArray⟩ : ByteArray).size = x.length := mk_size x
      have hx2 := H2.out x (List.mem_of_getElem? hx)
      have hw2 := HW.out k
      rw [← hX] at hst hx2
      generalize (⟨x.toArray⟩ : ByteArray) = X at *
      have HST := Lib.hid hst
      generalize widestL (ls.take k) = wk at *
      clear hX hst hx
      go_wp2_with fail
      go_loopw [8] (fun s wr2 => ∃ m : Nat, s = .string (eqS m) ∧ wk ≤ m ∧ m ≤ max wk X.size ∧ wr2 = wr) (fun s _ => X.size - szOf s)
      case atStart => exact ⟨wk, rfl, Nat.le_refl _, by omega, rfl⟩
      case round =>
        obtain ⟨m, rfl, hm1, hm2, rfl⟩ := hrel
        have hzm := eqS_size m
        by_cases hml : m < X.size
        · have happ := eqS_app m
          go_wp2_with fail
          go_roundw
          case rel => exact ⟨m + 1, rfl, by omega, by omega, trivial⟩
          case measure => simp [szOf, eqS_size]; omega
        · have hmm : m = max wk X.size := by omega
          have HM := Lib.hid hmm
          clear hmm
          go_wp2_with fail
          go_roundw
          case rel => exact ⟨k + 1, by omega, by go_num, by rw [HST.out, HM.out], trivial⟩
          case measure => simp [intOf]; omega
    · obtain rfl : k = ls.length := by omega
      rw [HT.out]
      go_wp2_with (at_builtin; refine wpList_app1 9 22 _ 16 info_str Try.underlying22 rfl rfl _ _ rfl _ _ _ rfl ho _ rfl rfl (by rw [strsL_length]; omega) (by rw [strsL_length]; omega) hb3.size ?_; intro v' w5 ho5 hb6 _)
      rw [strsL_snoc', eqS_list] at ho5
      go_ret2
      exact ⟨_, rfl, ho5, hb3.trans hb6⟩

set_option maxRecDepth 100000 in
set_option maxHeartbeats 2000000 in
theorem law_result (z : Int) (_hz : (Lit.int .i64 z).wf = true) (v : Value) (ws : List (List UInt8)) (w : World) (hW : Words w v ws) :
    Calls Try.prog 7 #[v, .int .i64 z] w fun e w' => e = .returned (.bool true) ∧ Below w.heap.size w w' := by
  have caw := fun w => awake50_any w
  have cg := fun w hW => greatW v ws w hW
  have cw := fun w hW => wrapI v ws z w hW
  have ch := fun w hW => head_any v ws z w hW
  have crw := fun w hW => rwrap_any v ws z w hW
  have crh := fun w hW => rhead_any v ws z w hW
  have HW := Lib.hid hW
  obtain ⟨_, hcnt⟩ := parV_facts ws z (by obtain ⟨_, _, _, _, _, _, hb⟩ := hW; exact hb)
  have hch : (headL (parV ws z)).length ≤ 1048577 := by
    unfold headL
    split
    · exact Nat.zero_le _
    · rw [List.length_append]; simp; omega
  clear hW
  by_cases hg : 800 < totalL ws
  · rw [decide_eq_true hg] at cg
    clear hg
    go_enter Try.func7, Try.ntmps7
    go_wp2_with fail
    refine (cg _ HW.out).mono ?_
    rintro e w3 ⟨rfl, rfl⟩
    go_wp2_with fail
    refine (caw _).mono ?_
    rintro e w3 ⟨rfl, hb3⟩
    go_wp2_with fail
    go_ret
    exact ⟨rfl, hb3⟩
  rw [decide_eq_false hg] at cg
  clear hg
  generalize headL (parV ws z) = hs at *
  generalize parV ws z = ls at *
  generalize Par.perr ws z = E at *
  go_enter Try.func7, Try.ntmps7
  go_wp2_with fail
  refine (cg _ HW.out).mono ?_
  rintro e w3 ⟨rfl, rfl⟩
  go_wp2_with fail
  refine (cw _ HW.out).mono ?_
  rintro e w3 ⟨v3, rfl, ho3, hb3⟩
  obtain ⟨ao3, cap3, rfl, _⟩ := ho3.form
  rw [strsL_length] at ho3 ⊢
  go_wp2_with fail
  refine (crw _ (HW.out.below hb3)).mono ?_
  rintro e w4 ⟨v4, rfl, ho4, hb4⟩
  obtain ⟨ao4, cap4, rfl, _⟩ := ho4.form
  rw [strsL_length] at ho4 ⊢
  have hb5 := bchain hb3 hb4
  go_wp2_with fail
  refine (ch _ (HW.out.below hb5)).mono ?_
  rintro e w5 ⟨v5, rfl, ho5, hb6⟩
  obtain ⟨ao5, cap5, rfl, _⟩ := ho5.form
  rw [strsL_length] at ho5 ⊢
  have hb7 := bchain hb5 hb6
  go_wp2_with fail
  refine (crh _ (HW.out.below hb7)).mono ?_
  rintro e w6 ⟨v6, rfl, ho6, hb8⟩
  obtain ⟨ao6, cap6, rfl, _⟩ := ho6.form
  rw [strsL_length] at ho6 ⊢
  have hb9 := bchain hb7 hb8
  have s3 := ((ho3.below (bchain (bchain hb4 hb6) hb8) (Nat.le_refl _))).read
  have s4 := ((ho4.below (bchain hb6 hb8) (Nat.le_refl _))).read
  have s5 := (ho5.below hb8 (Nat.le_refl _))
  have hsm := same02_any ao3 ao4 ls.length cap3 ls.length cap4 ls ls w6 s3 s4 (by omega) (by omega)
  rw [beq_self_eq_true] at hsm
  have hsm2 := fun q => same02_any ao5 ao6 hs.length cap5 hs.length cap6 hs hs (w6.drewN q) ((s5.drewN q).read) ((ho6.drewN q).read) (by omega) (by omega)
  rw [beq_self_eq_true] at hsm2
  go_wp2_with fail
  refine hsm.mono ?_
  rintro e w7 ⟨rfl, q, rfl⟩
  go_wp2_with fail
  refine (hsm2 q).mono ?_
  rintro e w8 ⟨rfl, q2, rfl⟩
  go_wp2_with fail
  refine (caw _).mono ?_
  rintro e w10 ⟨rfl, hb10⟩
  go_wp2_with fail
  go_ret
  exact ⟨rfl, bchain (below_drewN hb9 (q + q2)) hb10⟩
end Go.Proofs.Ytbfgjngljggbpaa
