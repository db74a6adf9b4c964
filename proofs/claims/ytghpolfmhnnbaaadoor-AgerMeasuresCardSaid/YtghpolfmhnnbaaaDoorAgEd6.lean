/-
  The edit of the kind 6: swap.
-/
import Derived.Test.YtghpolfmhnnbaaaDoorAgEd2
import Derived.BigRegion
namespace Go.Proofs.YtghpolfmhnnbaaaDoor
open Go.RowKit

theorem edit6_no {ps : List (List UInt8)} {x : List UInt8} {r a l : Int} {p q : Nat} (h : a < 0 ∨ (ps.length : Int) ≤ a) : edit ⟨6, r, p, a, l⟩ ps q x = none := by
  unfold edit
  rw [if_pos rfl, if_neg]
  show ¬ (0 ≤ a ∧ a < _)
  omega
theorem edit6_yes {ps : List (List UInt8)} {x : List UInt8} {r l : Int} {p q a : Nat} (h2 : a < ps.length) : edit ⟨6, r, p, a, l⟩ ps q x = some ((ps.set q (ps.getD a [])).set a x) := by
  unfold edit
  rw [if_pos rfl, if_pos]
  · rfl
  · show 0 ≤ (a : Int) ∧ (a : Int) < _
    omega
theorem strsL_set (l : List (List UInt8)) (i : Nat) (x : List UInt8) : (strsL l).set i (.string ⟨x.toArray⟩) = strsL (l.set i x) := by simp [strsL, List.map_set]

set_option maxHeartbeats 4000000 in
set_option maxRecDepth 100000 in
theorem edit6_any (ao : Option Addr) (n cap p : Nat) (ps : List (List UInt8)) (x : List UInt8) (r a l : Int) (w : World) (h : EdArg w ao n cap ps p x) :
    Calls Tryd.prog 32 #[.slice ao n cap, .agg #[.int .i64 6, .int .i64 r, .int .i64 p, .int .i64 a, .int .i64 l]] w (EditP (edit ⟨6, r, p, a, l⟩ ps p x) w) := by
  have hlt := h.lt
  have hn6 := h.n6
  have hcap6 := h.cap6
  have hnc := h.nc
  have hnl := h.st.1
  have HH := Lib.hid h
  clear h
  obtain ⟨W, hW, hbW, hzW, d0, d1, d2, d3, d4⟩ := dbox w 6 r p a l
  have hlw : w.heap.size < W.heap.size := by omega
  by_cases hin : 0 ≤ a ∧ a < n
  · obtain ⟨j, rfl⟩ : ∃ j : Nat, a = j := ⟨a.toNat, by omega⟩
    have hj : j < n := by omega
    obtain ⟨y, hy⟩ : ∃ y, ps[j]? = some y := ⟨_, List.getElem?_eq_getElem (by omega)⟩
    have hgd : ps.getD j [] = y := by rw [List.getD_eq_getElem?_getD, hy]; rfl
    have hed := edit6_yes (ps := ps) (x := x) (r := r) (l := l) (p := p) (q := p) (a := j) (by omega)
    rw [hgd] at hed
    have HED := Lib.hid hed
    have HY := Lib.hid hy
    have HNL := Lib.hid hnl
    have h3 : ¬ ((j : Int) < 0) := by omega
    have h4 : ¬ ((n : Int) ≤ (j : Int)) := by omega
    clear hed hgd hy hnl hzW
    go_enter Tryd.func32, Tryd.ntmps32
    go_wp2_with fail
    refine (clone_any ao n cap ps W (HH.out.st.below hbW) (by omega)).mono ?_
    rintro e w1 ⟨v, rfl, ho, hb1⟩
    obtain ⟨ao1, cap1, rfl, hao⟩ := ho.form
    have hsl : (strsL ps).length = n := by rw [strsL_length, HNL.out]
    obtain ⟨g, rfl⟩ := hao (by rw [hsl]; omega)
    rw [hsl] at ho ⊢
    have c1 := ho.cell p _ (strsL_get ps p x HH.out.get)
    have c2 := ho.cell j _ (strsL_get ps j y HY.out)
    have f1 := ho.frozen p
    have f2 := ho.frozen j
    have hg := ho.lt
    have e2 := (hb1.cell (p := ⟨w.heap.size, 2, none⟩) hlw).trans d2
    have e3 := (hb1.cell (p := ⟨w.heap.size, 3, none⟩) hlw).trans d3
    have hw1 := hb1.size
    have HO := Lib.hid ho
    have hbb := hbW.trans (hb1.mono hbW.size)
    clear d0 d1 d2 d3 d4 hsl ho hao
    obtain ⟨v', hv'⟩ := cell?_setCell_some (w := w1) (p := ⟨g, p, none⟩) (x := .string ⟨y.toArray⟩) (q := ⟨g, j, none⟩) (v := .string ⟨y.toArray⟩) (by go_simp)
    go_wp2_with fail
    go_region
    go_wp2_with fail
    go_ret2
    rw [HED.out]
    refine ⟨_, rfl, fun q hq => ?_, ?_⟩
    · injection hq with hq
      rw [← hq, ← strsL_set, ← strsL_set]
      have h := (HO.out.store p (.string ⟨y.toArray⟩)).store j (.string ⟨x.toArray⟩)
      exact h.more (by omega)
    · exact ((hbb.setCell (p := ⟨g, p, none⟩) (by show w.heap.size ≤ g; omega) _).setCell (p := ⟨g, j, none⟩) (by show w.heap.size ≤ g; omega) _).drew
  · have hed := edit6_no (ps := ps) (x := x) (r := r) (a := a) (l := l) (p := p) (q := p) (by omega)
    have HED := Lib.hid hed
    clear hzW hed hnl
    by_cases h1 : a < 0
    · go_enter Tryd.func32, Tryd.ntmps32
      go_wp2_with fail
      go_ret2
      rw [HED.out]
      exact ⟨_, rfl, (fun q hq => by cases hq), hbW⟩
    · have h2 : (n : Int) ≤ a := by omega
      go_enter Tryd.func32, Tryd.ntmps32
      go_wp2_with fail
      go_ret2
      rw [HED.out]
      exact ⟨_, rfl, (fun q hq => by cases hq), hbW⟩
end Go.Proofs.YtghpolfmhnnbaaaDoor
