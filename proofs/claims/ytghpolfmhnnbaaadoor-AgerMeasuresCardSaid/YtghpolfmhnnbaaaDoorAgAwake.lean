/-
  ager.Apply at whatever action; stelelaw59.awake.
-/
import Derived.Test.YtghpolfmhnnbaaaDoorAgApp2
import Derived.Test.YtghpolfmhnnbaaaDoorAgPlan
namespace Go.Proofs.YtghpolfmhnnbaaaDoor
open Go.RowKit

theorem apply_any (ao : Option Addr) (n cap : Nat) (rs : List Reel) (k r p a l : Int) (w : World) (hr : Reels w ao n rs) (hf : Fine rs) (hl64 : l ≤ 9223372036854775807) (h8 : k = 8 → Burst8) :
    Calls Tryd.prog 7 #[.slice ao n cap, .agg #[.int .i64 k, .int .i64 r, .int .i64 p, .int .i64 a, .int .i64 l]] w fun e w' => ∃ v, e = .returned v ∧ OwnRs w' w.heap.size v (applyR rs ⟨k, r, p, a, l⟩) ∧ Below w.heap.size w w' := by
  by_cases hin : 0 ≤ r ∧ r < rs.length
  · obtain ⟨j, rfl⟩ : ∃ j : Nat, r = j := ⟨r.toNat, by omega⟩
    by_cases hk : k = 4
    · subst hk
      exact apply_4 ao n cap j rs p a l w hr hf (by omega)
    · obtain ⟨x, hx⟩ : ∃ x, rs[j]? = some x := ⟨_, List.getElem?_eq_getElem (by omega)⟩
      by_cases hu : kindK k = true ∧ 0 ≤ p ∧ p < x.ps.length
      · obtain ⟨q, rfl⟩ : ∃ q : Nat, p = q := ⟨p.toNat, by omega⟩
        obtain ⟨y, hy⟩ : ∃ y, x.ps[q]? = some y := ⟨_, List.getElem?_eq_getElem (by omega)⟩
        exact apply_some ao n cap j rs x q y k a l w hr hf hx hu.1 hy hl64 h8
      · exact apply_none ao n cap j rs x k p a l w hr hf hx hk hu
  · exact apply_out ao n cap rs k r p a l w hr hf hin

def awR : List Reel := [⟨3, [[48, 48, 49, 49]]⟩]
theorem awR_fine : Fine awR := by
  refine ⟨by decide, fun r hr => ?_⟩
  simp only [awR, List.mem_singleton] at hr
  subst hr
  exact ⟨by decide, fun x hx => by
    simp only [List.mem_singleton] at hx
    subst hx
    decide⟩
theorem awR_at (w : World) : ∃ W, (w.alloc (.cells #[.string ⟨#[48, 48, 49, 49]⟩] 9)).alloc (.cells #[.int .i64 3, .slice (some ⟨w.heap.size, 0, none⟩) 1 1] 26) = W ∧ Below w.heap.size w W ∧ Reels W (some ⟨w.heap.size + 1, 0, none⟩) 1 awR := by
  have e0 := blk_alloc (o := .cells #[.int .i64 3, .slice (some ⟨w.heap.size, 0, none⟩) 1 1] 26) (heap_alloc_new w (.cells #[.string ⟨#[48, 48, 49, 49]⟩] 9))
  have e1 := heap_alloc_new (w.alloc (.cells #[.string ⟨#[48, 48, 49, 49]⟩] 9)) (.cells #[.int .i64 3, .slice (some ⟨w.heap.size, 0, none⟩) 1 1] 26)
  rw [World.size_alloc] at e1
  refine ⟨_, rfl, ((Below.refl _ w).alloc (Nat.le_refl _) _).alloc (by simp) _, rfl, fun j r hj => ?_⟩
  rcases j with _ | j
  · obtain rfl := Option.some.inj hj
    exact ⟨_, 0, rfl, blk_cell e1 0 _ rfl, _, 1, blk_cell e1 1 _ rfl, Nat.le_refl _, strs_lit (bs := [[48, 48, 49, 49]]) rfl e0⟩
  · simp [awR] at hj
theorem awR_apply : applyR awR ⟨5, 0, 0, 1, 0⟩ = [⟨3, [[48], [48, 49, 49]]⟩] := by rfl
theorem aw_kind : pkKind 0 = 8 := by decide +kernel

set_option maxHeartbeats 4000000 in
set_option maxRecDepth 100000 in
theorem awake59_any (w : World) : Calls Tryd.prog 5 #[] w fun e w' => e = .returned (.bool true) ∧ Below w.heap.size w w' := by
  obtain ⟨W, hW, hbW, hRW⟩ := awR_at w
  have HA := Lib.hid (apply_any (some ⟨w.heap.size + 1, 0, none⟩) 1 1 awR 5 0 0 1 0 W hRW awR_fine (by decide) (fun h => absurd h (by decide)))
  have HR := Lib.hid hRW
  clear hRW
  go_enter Tryd.func5, Tryd.ntmps5
  go_wp2_with fail
  refine HA.out.mono ?_
  rintro e w1 ⟨v, rfl, ho, hb1⟩
  rw [awR_apply] at ho
  obtain ⟨ao1, cap1, rfl, _, _, hao⟩ := ho.form
  obtain ⟨g, rfl, _, _⟩ := hao (by decide)
  have HO := Lib.hid ho
  clear ho hao
  go_wp2_with fail
  refine (plan_any 0 1 _ 1 1 awR w1 (HR.out.below (hb1.mono (Nat.le_refl _))) (by omega) awR_fine.2 (by omega) (by omega)).mono ?_
  rintro e w2 ⟨v, rfl, hd, hb2⟩
  obtain ⟨ad, cd, rfl, _⟩ := hd.form
  rw [plan_length] at hd ⊢
  have hp1 : planN 1 = 1 := by decide
  rw [hp1] at hd ⊢
  obtain ⟨bd, od, had, hk, _⟩ := hd.read.2 0 (dmgOf awR 0) (plan_get awR 1 0 0 (by omega))
  subst had
  rw [Nat.zero_mul, Nat.add_zero, show (dmgOf awR 0).kind = 8 from aw_kind] at hk
  obtain ⟨ap, cp, g0, g1, _, _, hown, _, _⟩ := (HO.out.kept hb2).at_ (j := 0) rfl
  rw [Nat.zero_mul] at g0 g1
  rw [Nat.zero_add] at g1
  obtain ⟨ap2, cp2, hv, hap⟩ := hown.form
  obtain ⟨gp, hgp⟩ := hap (by decide)
  have hap3 : ap = some ⟨gp, 0, none⟩ := by
    injection hv with h1
    rw [h1, hgp]
  subst hap3
  have p0 : w2.cell? ⟨gp, 0, none⟩ = some (.string ⟨#[48]⟩) := hown.cell 0 _ rfl
  have p1 : w2.cell? ⟨gp, 1, none⟩ = some (.string ⟨#[48, 49, 49]⟩) := hown.cell 1 _ rfl
  have hb3 := (hbW.trans (hb1.mono hbW.size)).trans (hb2.mono (Nat.le_trans hbW.size hb1.size))
  clear hd hv hap hgp hown
  go_wp2_with fail
  go_ret
  exact ⟨rfl, hb3⟩
end Go.Proofs.YtghpolfmhnnbaaaDoor
