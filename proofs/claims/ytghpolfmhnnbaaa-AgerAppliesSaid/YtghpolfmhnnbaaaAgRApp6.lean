/-
  The reference's Apply, two pieces exchanged.
-/
import Derived.Test.YtghpolfmhnnbaaaAgRApp4
import Derived.Test.YtghpolfmhnnbaaaAgRCopyD
import Derived.BigRegion
namespace Go.Proofs.Ytghpolfmhnnbaaa
open Go.RowKit

set_option maxHeartbeats 4000000 in
set_option maxRecDepth 100000 in
theorem rapply_6no (ao : Option Addr) (n cap j q : Nat) (rs : List Reel) (r : Reel) (a l : Int) (w : World) (hr : Reels w ao n rs) (hf : Fine rs) (hj : rs[j]? = some r) (hq : q < r.ps.length) (ho : a < 0 ∨ (r.ps.length : Int) ≤ a) :
    Calls Try.prog 15 #[.slice ao n cap, .agg #[.int .i64 6, .int .i64 j, .int .i64 q, .int .i64 a, .int .i64 l]] w fun e w' => ∃ v, e = .returned v ∧ OwnRs w' w.heap.size v (applyR rs ⟨6, j, q, a, l⟩) ∧ Below w.heap.size w w' := by
  have hfin : applyR rs ⟨6, j, q, a, l⟩ = rs := by
    obtain ⟨x, hx⟩ : ∃ x, r.ps[q]? = some x := ⟨_, List.getElem?_eq_getElem hq⟩
    rw [applyR_in hj (by decide), editP_none rfl hx (edit6_no ho)]
    exact set_same hj
  rw [hfin]
  obtain ⟨rfl, hr2⟩ := hr
  have hn6 := hf.1
  have hjl := (List.getElem?_eq_some_iff.1 hj).1
  obtain ⟨W, hW, hbW, hzW, d0, d1, d2, d3, d4⟩ := dbox w 6 j q a l
  have HC := Lib.hid (rcopy_any ao rs.length cap rs W (Reels.below ⟨rfl, hr2⟩ hbW) (by omega) (fun r hr => (hf.2 r hr).1))
  have hlw : w.heap.size < W.heap.size := by omega
  have h0 : ¬ ((j : Int) < 0) := by omega
  have h1 : ¬ ((rs.length : Int) ≤ (j : Int)) := by omega
  have h2 : (0 : Int) ≤ (j : Int) := by omega
  have h3 : (j : Int) < (rs.length : Int) := by omega
  have q0 : ¬ ((q : Int) < 0) := by omega
  have q1 : ¬ ((r.ps.length : Int) ≤ (q : Int)) := by omega
  have HJ := Lib.hid hj
  clear hr2 hf hzW hfin hj
  go_enter Try.func15, Try.ntmps15
  go_wp2_with fail
  refine HC.out.mono ?_
  rintro e w1 ⟨v, rfl, ho1, hb1⟩
  have c0 := (hb1.cell (p := ⟨w.heap.size, 0, none⟩) hlw).trans d0
  have c1 := (hb1.cell (p := ⟨w.heap.size, 1, none⟩) hlw).trans d1
  have c2 := (hb1.cell (p := ⟨w.heap.size, 2, none⟩) hlw).trans d2
  have c3 := (hb1.cell (p := ⟨w.heap.size, 3, none⟩) hlw).trans d3
  obtain ⟨ao1, cap1, rfl, _, _, hao⟩ := ho1.form
  obtain ⟨g, rfl, _, _⟩ := hao (by omega)
  obtain ⟨ap, cp, g0, g1, hcp, hcp2, hown, z0, z1⟩ := ho1.at_ HJ.out
  have HO := Lib.hid (ho1.more hbW.size)
  have hbb := hbW.trans (hb1.mono hbW.size)
  clear ho1 hao hown z0 z1 d0 d1 d2
  by_cases hp : a < 0
  · have hp' : ¬ (0 ≤ a) := by omega
    clear ho
    go_wp2_with fail
    go_ret
    exact ⟨_, rfl, HO.out, hbb⟩
  · have hp2 : (r.ps.length : Int) ≤ a := by omega
    have hp' : 0 ≤ a := by omega
    clear ho
    go_wp2_with fail
    go_ret
    exact ⟨_, rfl, HO.out, hbb⟩

set_option maxHeartbeats 4000000 in
set_option maxRecDepth 100000 in
theorem rapply_6 (ao : Option Addr) (n cap j q a : Nat) (rs : List Reel) (r : Reel) (l : Int) (w : World) (hr : Reels w ao n rs) (hf : Fine rs) (hj : rs[j]? = some r) (hq : q < r.ps.length) (ha : a < r.ps.length) :
    Calls Try.prog 15 #[.slice ao n cap, .agg #[.int .i64 6, .int .i64 j, .int .i64 q, .int .i64 a, .int .i64 l]] w fun e w' => ∃ v, e = .returned v ∧ OwnRs w' w.heap.size v (applyR rs ⟨6, j, q, a, l⟩) ∧ Below w.heap.size w w' := by
  obtain ⟨x, hx⟩ : ∃ x, r.ps[q]? = some x := ⟨_, List.getElem?_eq_getElem hq⟩
  obtain ⟨y, hy⟩ : ∃ y, r.ps[a]? = some y := ⟨_, List.getElem?_eq_getElem ha⟩
  have hfin : applyR rs ⟨6, j, q, a, l⟩ = rs.set j ⟨r.num, (r.ps.set q y).set a x⟩ := by
    have hgd : r.ps.getD a [] = y := by rw [List.getD_eq_getElem?_getD, hy]; rfl
    rw [applyR_in hj (by decide), editP_some rfl hx (edit6_yes ha), hgd]
  rw [hfin]
  obtain ⟨rfl, hr2⟩ := hr
  have hn6 := hf.1
  have hp6 := (hf.2 r (List.mem_of_getElem? hj)).1
  have hjl := (List.getElem?_eq_some_iff.1 hj).1
  obtain ⟨W, hW, hbW, hzW, d0, d1, d2, d3, d4⟩ := dbox w 6 j q a l
  have HC := Lib.hid (rcopyD_any ao rs.length cap rs W (Reels.below ⟨rfl, hr2⟩ hbW) (by omega) (fun r hr => (hf.2 r hr).1))
  have hlw : w.heap.size < W.heap.size := by omega
  have h0 : ¬ ((j : Int) < 0) := by omega
  have h1 : ¬ ((rs.length : Int) ≤ (j : Int)) := by omega
  have h2 : (0 : Int) ≤ (j : Int) := by omega
  have h3 : (j : Int) < (rs.length : Int) := by omega
  have q0 : ¬ ((q : Int) < 0) := by omega
  have q1 : ¬ ((r.ps.length : Int) ≤ (q : Int)) := by omega
  have HJ := Lib.hid hj
  have HX := Lib.hid hx
  have HY := Lib.hid hy
  clear hr2 hf hzW hfin hj hx hy
  go_enter Try.func15, Try.ntmps15
  go_wp2_with fail
  refine HC.out.mono ?_
  rintro e w1 ⟨v, rfl, ho1, hb1⟩
  have c0 := (hb1.cell (p := ⟨w.heap.size, 0, none⟩) hlw).trans d0
  have c1 := (hb1.cell (p := ⟨w.heap.size, 1, none⟩) hlw).trans d1
  have c2 := (hb1.cell (p := ⟨w.heap.size, 2, none⟩) hlw).trans d2
  have c3 := (hb1.cell (p := ⟨w.heap.size, 3, none⟩) hlw).trans d3
  obtain ⟨ao1, cap1, rfl, _, _, hao⟩ := ho1.own.form
  obtain ⟨g, rfl, hgB, hgl⟩ := hao (by omega)
  obtain ⟨ap, cp, g0, g1, hcp, hcp2, hown, z0, z1⟩ := ho1.own.at_ HJ.out
  obtain ⟨ap1, cp1, e1, hap⟩ := hown.form
  injection e1 with e1 e2 e3
  subst e1 e3
  obtain ⟨gp, rfl⟩ := hap (by rw [strsL_length]; omega)
  have k1 := hown.cell q _ (strsL_get r.ps q x HX.out)
  have k2 := hown.cell a _ (strsL_get r.ps a y HY.out)
  have f1 := hown.frozen q
  have f2 := hown.frozen a
  have hgpl := hown.lt
  have hgpB : W.heap.size ≤ gp := (World.ownsRow.lt hown gp rfl).1
  have hbb := hbW.trans (hb1.mono hbW.size)
  obtain ⟨s1, s1c⟩ := ho1.setp (i := q) y HJ.out g1
  have hj2 : (rs.set j ⟨r.num, r.ps.set q y⟩)[j]? = some ⟨r.num, r.ps.set q y⟩ := by rw [List.getElem?_set, if_pos rfl, if_pos hjl]
  obtain ⟨s2, _⟩ := s1.setp (i := a) x hj2 s1c
  rw [List.set_set] at s2
  have HS := Lib.hid (s2.own.more hbW.size)
  clear ho1 hao hown hap e2 s1 s1c s2 hj2 d0 d1 d2 d3 z0 z1
  obtain ⟨v', hv'⟩ := cell?_setCell_some (w := w1) (p := ⟨gp, q, none⟩) (x := .string ⟨y.toArray⟩) (q := ⟨gp, a, none⟩) (v := .string ⟨y.toArray⟩) (by go_simp)
  go_upto_region 11 with (fail)
  go_region
  all_goals
    go_wp2_with fail
    go_ret
    exact ⟨_, rfl, HS.out.kept ((Below.refl _ _).drew), ((hbb.setCell (p := ⟨gp, q, none⟩) (by show w.heap.size ≤ gp; omega) _).setCell (p := ⟨gp, a, none⟩) (by show w.heap.size ≤ gp; omega) _).drew⟩
end Go.Proofs.Ytghpolfmhnnbaaa
