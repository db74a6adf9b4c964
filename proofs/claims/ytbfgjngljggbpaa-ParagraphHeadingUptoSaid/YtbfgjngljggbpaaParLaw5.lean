/-
  The law on headings.
-/
import Derived.Test.YtbfgjngljggbpaaParHead
namespace Go.Proofs.Ytbfgjngljggbpaa
open Go.RowKit

set_option maxRecDepth 100000 in
set_option maxHeartbeats 2000000 in
theorem law_heading (z : Int) (_hz : (Lit.int .i64 z).wf = true) (v : Value) (ws : List (List UInt8)) (w : World) (hW : Words w v ws) :
    Calls Try.prog 8 #[v, .int .i64 z] w fun e w' => e = .returned (.bool true) ∧ Below w.heap.size w w' := by
  have caw := fun w => awake50_any w
  have cg := fun w hW => greatW v ws w hW
  have cw := fun w hW => wrapI v ws z w hW
  have ch := fun w hW => head_any v ws z w hW
  have HW := Lib.hid hW
  obtain ⟨h200, hcnt⟩ := parV_facts ws z (by obtain ⟨_, _, _, _, _, _, hb⟩ := hW; exact hb)
  clear hW
  by_cases hg : 800 < totalL ws
  · rw [decide_eq_true hg] at cg
    clear hg
    go_enter Try.func8, Try.ntmps8
    go_wp2_with fail
    refine (cg _ HW.out).mono ?_
    rintro e w3 ⟨rfl, rfl⟩
    go_wp2_with fail
    refine (caw _).mono ?_
    rintro e w3 ⟨rfl, hb3⟩
    go_wp2_with fail
    go_ret
    exact ⟨rfl, hb3⟩
  rw [decide_eq_false hg] at cg
  clear hg
  generalize parV ws z = ls at *
  generalize Par.perr ws z = E at *
  by_cases hls : ls = []
  · subst hls
    have hz : (strsL []).length = 0 := rfl
    go_enter Try.func8, Try.ntmps8
    go_wp2_with fail
    refine (cg _ HW.out).mono ?_
    rintro e w3 ⟨rfl, rfl⟩
    go_wp2_with fail
    refine (cw _ HW.out).mono ?_
    rintro e w3 ⟨v3, rfl, ho, hb3⟩
    obtain ⟨ao3, cap3, rfl, _⟩ := ho.form
    rw [hz]
    go_wp2_with fail
    refine (ch _ (HW.out.below hb3)).mono ?_
    rintro e w4 ⟨v4, rfl, ho4, hb4⟩
    obtain ⟨ao4, cap4, rfl, _⟩ := ho4.form
    have hz4 : (strsL (headL [])).length = 0 := rfl
    rw [hz4]
    go_wp2_with fail
    refine (caw _).mono ?_
    rintro e w5 ⟨rfl, hb5⟩
    go_wp2_with fail
    go_ret
    exact ⟨rfl, bchain (bchain hb3 hb4) hb5⟩
  have hpos := List.length_pos_iff.2 hls
  have HWd := Lib.hid (widest_le h200)
  have HS := Lib.hid fun (k : Nat) (x : List UInt8) (h : ls[k]? = some x) => widest_snoc ls k x h
  have HT : Hid (widestL (ls.take ls.length) = widestL ls) := by show _ = _; rw [List.take_length]
  have hH : headL ls = ls ++ [List.replicate (widestL ls) 61] := if_neg hls
  rw [hH] at ch
  clear hls hH h200
  go_enter Try.func8, Try.ntmps8
  go_wp2_with fail
  refine (cg _ HW.out).mono ?_
  rintro e w3 ⟨rfl, rfl⟩
  go_wp2_with fail
  refine (cw _ HW.out).mono ?_
  rintro e w3 ⟨v3, rfl, ho3, hb3⟩
  obtain ⟨ao3, cap3, rfl, hao⟩ := ho3.form
  rw [strsL_length] at ho3 hao ⊢
  obtain ⟨g3, rfl⟩ := hao hpos
  go_wp2_with fail
  refine (ch _ (HW.out.below hb3)).mono ?_
  rintro e w4 ⟨v4, rfl, ho4, hb4⟩
  obtain ⟨ao4, cap4, rfl, _⟩ := ho4.form
  have hl4 : (strsL (ls ++ [List.replicate (widestL ls) 61])).length = ls.length + 1 := by rw [strsL_length]; simp
  rw [hl4] at ho4 ⊢
  have ho := ho3.below hb4 (Nat.le_refl _)
  have hb5 := bchain hb3 hb4
  go_wp2_with fail
  go_loopw [9, 48] (fun m i wr => ∃ k : Nat, k ≤ ls.length ∧ i = .int .i64 k ∧ m = .int .i64 (widestL (ls.take k)) ∧ wr = w4) (fun _ i _ => ls.length - (intOf i).toNat)
  case atStart => exact ⟨0, Nat.zero_le _, rfl, rfl, rfl⟩
  case round =>
    obtain ⟨k, hk, rfl, rfl, rfl⟩ := hrel
    by_cases hlt : k < ls.length
    · obtain ⟨x, hx⟩ : ∃ x, ls[k]? = some x := ⟨_, List.getElem?_eq_getElem hlt⟩
      have hcell := ho.cell k _ (strsL_get ls k x hx)
      have hst := HS.out k x hx
      have hX : (⟨x.toArray⟩ : ByteArray).size = x.length := mk_size x
      rw [← hX] at hst
      have hmx := fun (ts : Array TypeId) (t : TypeId) (W : World) => run_max_nat (P := Try.prog) ts t (widestL (ls.take k)) (⟨x.toArray⟩ : ByteArray).size W
      rw [← hst] at hmx
      generalize (⟨x.toArray⟩ : ByteArray) = X at *
      clear hX hst hx
      go_wp2_with fail
      go_roundw
      case rel => exact ⟨k + 1, by omega, by go_num, rfl, trivial⟩
      case measure => simp [intOf]; omega
    · obtain rfl : k = ls.length := by omega
      have hw200 := HWd.out ls.length
      rw [HT.out] at hw200 ⊢
      have hrep := fun w => repeat_eq (widestL ls) w (by omega)
      have e9 : (⟨Array.replicate (widestL ls) 61⟩ : ByteArray).data.toList = List.replicate (widestL ls) 61 := by simp
      have hmade : Own (wr.alloc (.cells #[] 9)) wr.heap.size 9 (.slice (some ⟨wr.heap.size, 0, none⟩) 0 0) (strsL []) := Own.made0 _ _ _ (Nat.le_refl _)
      have hoA := ho.alloc (.cells #[] 9)
      have ha1 : Below wr.heap.size wr (wr.alloc (.cells #[] 9)) := (Below.refl _ _).alloc (Nat.le_refl _) _
      go_wp2_with (at_builtin; refine wpList_appStrs rfl _ _ rfl wr.heap.size _ [] rfl hmade _ _ ls rfl hoA (by simp; omega) ha1.size ?_; intro v6 w6 ho6 hb6 _)
      refine (hrep _).mono ?_
      rintro e w7 ⟨rfl, hb7⟩
      rw [List.nil_append] at ho6
      have ho7 := ho6.below hb7 (Nat.le_refl _)
      have hb17 := bchain (ha1.trans hb6) hb7
      go_wp2_with (at_builtin; refine wpList_app1 9 22 _ 16 info_str Try.underlying22 rfl rfl _ _ rfl _ _ _ rfl ho7 _ rfl rfl (by rw [strsL_length]; omega) (by rw [strsL_length]; omega) hb17.size ?_; intro v8 w8 ho8 hb8 _)
      rw [strsL_snoc', e9] at ho8
      have hb18 := hb17.trans hb8
      have ho48 := ho4.below hb18 (Nat.le_refl _)
      obtain ⟨ao8, cap8, rfl, _⟩ := ho8.form
      rw [hl4] at ho8 ⊢
      have hsm := same02_any ao4 ao8 (ls.length + 1) cap4 (ls.length + 1) cap8 _ _ w8 ho48.read ho8.read (by omega) (by omega)
      rw [beq_self_eq_true] at hsm
      have hb9 := bchain hb5 hb18
      go_wp2_with fail
      refine hsm.mono ?_
      rintro e w9 ⟨rfl, q, rfl⟩
      go_wp2_with fail
      refine (caw _).mono ?_
      rintro e w10 ⟨rfl, hb10⟩
      go_wp2_with fail
      go_ret
      exact ⟨rfl, bchain (below_drewN hb9 q) hb10⟩
end Go.Proofs.Ytbfgjngljggbpaa
