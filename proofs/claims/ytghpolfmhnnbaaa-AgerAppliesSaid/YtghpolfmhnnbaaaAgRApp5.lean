/-
  The reference's Apply, where a piece is meant: all kinds.
-/
import Derived.Test.YtghpolfmhnnbaaaAgRApp6
namespace Go.Proofs.Ytghpolfmhnnbaaa
open Go.RowKit

theorem set_id {α : Type} {l : List α} {i : Nat} {x : α} (h : l[i]? = some x) : l.set i x = l := by
  have hl := (List.getElem?_eq_some_iff.1 h).1
  rw [List.getElem?_eq_getElem hl] at h
  injection h with h
  subst h
  exact List.set_getElem_self hl
/-- The pieces of one reel replaced. -/
theorem OwnRs.set1 {w : World} {B g n c j : Nat} {rs : List Reel} {r : Reel} {pv : Value} {ps : List (List UInt8)} (h : OwnRs w B (.slice (some ⟨g, 0, none⟩) n c) rs) (hj : rs[j]? = some r) (hp : Own w B 9 pv (strsL ps)) :
    OwnRs (w.setCell ⟨g, j * 2 + 1, none⟩ pv) B (.slice (some ⟨g, 0, none⟩) n c) (rs.set j ⟨r.num, ps⟩) := by
  have hjl := (List.getElem?_eq_some_iff.1 hj).1
  obtain ⟨ao', cap', e, _⟩ := h.form
  have hn : n = rs.length := by injection e
  subst hn
  obtain ⟨qs, h1, h2, h3⟩ := h
  obtain ⟨s2, _⟩ := World.ownsRow.stored h1 (j * 2 + 1) pv
  have hg : w.grownBy (w.setCell ⟨g, j * 2 + 1, none⟩ pv) (some g) := ⟨rfl, rfl, rfl, by simp [World.setCell], fun k hk hne => Below.heap_setCell w ⟨g, j * 2 + 1, none⟩ _ k (fun e => hne (by rw [e]))⟩
  obtain ⟨pv0, hq, hp0⟩ := h3 j r hj
  refine ⟨qs.set j (r.num, pv), ?_, by simp [h2], fun i r' hi => ?_⟩
  · have hf := flat_get reelC2 2 reelC2_len qs j 0 _ hq (by omega)
    have hf2 : (reelsC qs)[j * 2]? = some (.int .i64 r.num) := hf.trans rfl
    rw [List.length_set, set_flat qs j (r.num, pv) (by omega)]
    show World.ownsRow _ _ _ _ _ _ (((reelsC qs).set (j * 2) (.int .i64 r.num)).set _ _)
    rw [set_id hf2]
    exact s2
  · rw [List.getElem?_set] at hi
    by_cases hij : j = i
    · subst hij
      rw [if_pos rfl, if_pos hjl] at hi
      injection hi with hi
      subst hi
      refine ⟨pv, ?_, World.ownsRow.kept hp hg (row_ne hp h1 type_ne)⟩
      rw [List.getElem?_set, if_pos rfl, if_pos (by omega)]
    · rw [if_neg hij] at hi
      obtain ⟨pv2, h4, h5⟩ := h3 i r' hi
      refine ⟨pv2, ?_, World.ownsRow.kept h5 hg (row_ne h5 h1 type_ne)⟩
      rw [List.getElem?_set, if_neg hij]
      exact h4

set_option maxHeartbeats 4000000 in
set_option maxRecDepth 100000 in
theorem rapply_p (ao : Option Addr) (n cap j q : Nat) (rs : List Reel) (r : Reel) (x : List UInt8) (k a l : Int) (w : World) (hr : Reels w ao n rs) (hf : Fine rs) (hj : rs[j]? = some r) (hk : k ≠ 4) (hk6 : k ≠ 6) (hx : r.ps[q]? = some x) (hl64 : l ≤ 9223372036854775807) :
    Calls Try.prog 15 #[.slice ao n cap, .agg #[.int .i64 k, .int .i64 j, .int .i64 q, .int .i64 a, .int .i64 l]] w fun e w' => ∃ v, e = .returned v ∧ OwnRs w' w.heap.size v (applyR rs ⟨k, j, q, a, l⟩) ∧ Below w.heap.size w w' := by
  have hq := (List.getElem?_eq_some_iff.1 hx).1
  obtain ⟨R, hR⟩ : ∃ R, pieceE ⟨k, j, q, a, l⟩ x = R := ⟨_, rfl⟩
  have he : edit ⟨k, j, q, a, l⟩ r.ps q x = R.map (rep r.ps q) := by
    unfold edit
    rw [if_neg (by exact hk6), hR]
  have hfin : applyR rs ⟨k, j, q, a, l⟩ = rs.set j ⟨r.num, (R.map (rep r.ps q)).getD r.ps⟩ := by
    rw [applyR_in hj hk]
    cases hR2 : R with
    | none => rw [editP_none rfl hx (by rw [he, hR2]; rfl)]; rfl
    | some qs => rw [editP_some rfl hx (by rw [he, hR2]; rfl)]; rfl
  rw [hfin]
  have HS := Lib.hid (set_same hj)
  obtain ⟨rfl, hr2⟩ := hr
  have hn6 := hf.1
  have hxs := (hf.2 r (List.mem_of_getElem? hj)).2 x (List.mem_of_getElem? hx)
  have hps := (hf.2 r (List.mem_of_getElem? hj)).1
  have hjl := (List.getElem?_eq_some_iff.1 hj).1
  obtain ⟨W, hW, hbW, hzW, d0, d1, d2, d3, d4⟩ := dbox w k j q a l
  have HC := Lib.hid (rcopy_any ao rs.length cap rs W (Reels.below ⟨rfl, hr2⟩ hbW) (by omega) (fun r hr => (hf.2 r hr).1))
  have HP := Lib.hid (fun w => rpiece_any k x j q a l w hxs hl64)
  have hlw : w.heap.size < W.heap.size := by omega
  have h0 : ¬ ((j : Int) < 0) := by omega
  have h1 : ¬ ((rs.length : Int) ≤ (j : Int)) := by omega
  have h2 : (0 : Int) ≤ (j : Int) := by omega
  have h3 : (j : Int) < (rs.length : Int) := by omega
  have q0 : ¬ ((q : Int) < 0) := by omega
  have q1 : ¬ ((r.ps.length : Int) ≤ (q : Int)) := by omega
  have q2 : (0 : Int) ≤ (q : Int) := by omega
  have q3 : (q : Int) < (r.ps.length : Int) := by omega
  have h4 : (k == 4) = false := beq_eq_false_iff_ne.2 hk
  have h6 : (k == 6) = false := beq_eq_false_iff_ne.2 hk6
  have HJ := Lib.hid hj
  have HX := Lib.hid hx
  have HR := Lib.hid hR
  clear hr2 hf hzW hfin hj hx hR he hxs
  go_enter Try.func15, Try.ntmps15
  go_wp2_with fail
  refine HC.out.mono ?_
  rintro e w1 ⟨v, rfl, ho1, hb1⟩
  have c0 := (hb1.cell (p := ⟨w.heap.size, 0, none⟩) hlw).trans d0
  have c1 := (hb1.cell (p := ⟨w.heap.size, 1, none⟩) hlw).trans d1
  have c2 := (hb1.cell (p := ⟨w.heap.size, 2, none⟩) hlw).trans d2
  have c3 := (hb1.cell (p := ⟨w.heap.size, 3, none⟩) hlw).trans d3
  have c4 := (hb1.cell (p := ⟨w.heap.size, 4, none⟩) hlw).trans d4
  obtain ⟨ao1, cap1, rfl, _, _, hao⟩ := ho1.form
  obtain ⟨g, rfl, hgB, hgl⟩ := hao (by omega)
  obtain ⟨ap, cp, g0, g1, hcp, hcp2, hown, z0, z1⟩ := ho1.at_ HJ.out
  obtain ⟨ap1, cp1, e1, hap⟩ := hown.form
  injection e1 with e1 e2 e3
  subst e1 e3
  obtain ⟨gp, rfl⟩ := hap (by rw [strsL_length]; omega)
  have k1 := hown.cell q _ (strsL_get r.ps q x HX.out)
  have HST := Lib.hid hown.read
  have HO := Lib.hid ho1
  have hbb := hbW.trans (hb1.mono hbW.size)
  have hsz := hb1.size
  have hlt1 : w.heap.size < w1.heap.size := by omega
  have hp : Calls Try.prog 24 #[.string ⟨x.toArray⟩, .agg #[.int .i64 k, .int .i64 j, .int .i64 q, .int .i64 a, .int .i64 l]] w1.drew fun e w' => ∃ v, e = .returned (.tuple #[v, .bool R.isSome]) ∧ (∀ q, R = some q → ∃ ap cp, v = .slice ap q.length cp ∧ q.length ≤ cp ∧ cp ≤ 65536 ∧ Strs w' ap q.length q) ∧ Below w1.heap.size w1 w' := by
    refine (HP.out w1.drew).mono ?_
    rw [HR.out]
    rintro e w' ⟨v, h1, h2, h3⟩
    exact ⟨v, h1, h2, (Below.refl w1.heap.size w1).drew.trans h3⟩
  have HPW := Lib.hid hp
  have hgp := (World.ownsRow.lt hown gp rfl).2
  clear ho1 hao hown hap e2 d0 d1 d2 d3 d4 z0 z1 hp
  go_upto_region 13 with (fail)
  go_region_held3 (fun w' => w'.cell? ⟨w.heap.size, 0, none⟩ = some (.int .i64 k) ∧ w'.cell? ⟨w.heap.size, 1, none⟩ = some (.int .i64 j) ∧ w'.cell? ⟨w.heap.size, 2, none⟩ = some (.int .i64 q) ∧ w'.cell? ⟨w.heap.size, 3, none⟩ = some (.int .i64 a) ∧ w'.cell? ⟨w.heap.size, 4, none⟩ = some (.int .i64 l) ∧ w'.cell? ⟨gp, q, none⟩ = some (.string ⟨x.toArray⟩)) (first | go_keep | exact ⟨hx0, hx1, hx2, hx3, hx4, hx5⟩)
    ((go_at_call 24; refine HPW.out.mono ?_; rintro e w2 ⟨by_, rfl, hby, hb2⟩; have hx0 := (hb2.cell (p := ⟨w.heap.size, 0, none⟩) hlt1).trans c0; have hx1 := (hb2.cell (p := ⟨w.heap.size, 1, none⟩) hlt1).trans c1; have hx2 := (hb2.cell (p := ⟨w.heap.size, 2, none⟩) hlt1).trans c2; have hx3 := (hb2.cell (p := ⟨w.heap.size, 3, none⟩) hlt1).trans c3; have hx4 := (hb2.cell (p := ⟨w.heap.size, 4, none⟩) hlt1).trans c4; have hx5 := (hb2.cell (p := ⟨gp, q, none⟩) hgp).trans k1))
  all_goals
    have hlw2 : w.heap.size < w2.heap.size := Nat.lt_of_lt_of_le hlt1 hb2.size
    have b0 := (hb2.cell (p := ⟨w.heap.size, 1, none⟩) hlt1).trans c1
    have b2 := (hb2.cell (p := ⟨w.heap.size, 2, none⟩) hlt1).trans c2
    have HO2 := Lib.hid (HO.out.kept hb2)
    have HST2 := Lib.hid (HST.out.below hb2)
    have hbb2 := hbb.trans (hb2.mono (by omega))
    have hs2 := hb2.size
    clear c0 c1 c2 c3 c4 g0 g1 k1
    cases R with
    | none =>
      go_wp2_with fail
      go_ret
      refine ⟨_, rfl, ?_, hbb2⟩
      show OwnRs _ _ _ (rs.set j ⟨r.num, r.ps⟩)
      rw [HS.out]
      exact HO2.out.more hbW.size
    | some bs =>
      obtain ⟨bp, bcp, rfl, hbl, hbc, hbs⟩ := hby bs rfl
      have HBS := Lib.hid hbs
      have hp : Calls Try.prog 25 #[.slice (some ⟨gp, 0, none⟩) r.ps.length cp, .int .i64 q, .slice bp bs.length bcp] w2.drew fun e w' => ∃ v, e = .returned v ∧ Own w' w2.heap.size 9 v (strsL (rep r.ps q bs)) ∧ Below w2.heap.size w2 w' := by
        refine (rpieces_any _ _ _ cp _ bcp q r.ps bs w2.drew (HST2.out.below (Below.refl w2.heap.size w2).drew) (HBS.out.below (Below.refl w2.heap.size w2).drew) hq hcp hps (by omega) (by omega)).mono ?_
        rintro e w' ⟨v, h1, h2, h3⟩
        exact ⟨v, h1, h2, (Below.refl w2.heap.size w2).drew.trans h3⟩
      have HPS := Lib.hid hp
      clear hp hby hbs
      go_upto_region 15 with (fail)
      go_region_held3 (fun w' => w'.cell? ⟨w.heap.size, 1, none⟩ = some (.int .i64 j) ∧ w'.cell? ⟨w.heap.size, 2, none⟩ = some (.int .i64 q)) (first | go_keep | exact ⟨hx0, hx1⟩ | exact ⟨hz0 _, hz1 _⟩)
        ((go_at_call 25; refine HPS.out.mono ?_; rintro e w3 ⟨pv, rfl, hpo, hb3⟩; have hx0 := (hb3.cell (p := ⟨w.heap.size, 1, none⟩) hlw2).trans b0; have hx1 := (hb3.cell (p := ⟨w.heap.size, 2, none⟩) hlw2).trans b2; have hz0 := fun V => (((Below.refl W.heap.size w3).setCell (p := ⟨g, j * 2 + 1, none⟩) hgB V).cell (p := ⟨w.heap.size, 1, none⟩) hlw).trans hx0; have hz1 := fun V => (((Below.refl W.heap.size w3).setCell (p := ⟨g, j * 2 + 1, none⟩) hgB V).cell (p := ⟨w.heap.size, 2, none⟩) hlw).trans hx1; obtain ⟨ap4, cp4, y0, y1, _, _, _, z0, z1⟩ := (HO2.out.kept hb3).at_ HJ.out; have hset := (HO2.out.kept hb3).set1 HJ.out (hpo.more (show W.heap.size ≤ w2.heap.size by omega)); have HSET := Lib.hid hset; have hbb3 := hbb2.trans (hb3.mono (by omega)); obtain ⟨aq, cq, hv, _⟩ := hpo.form; subst hv; clear hset))
      all_goals
        go_wp2_with fail
        go_ret
        exact ⟨_, rfl, HSET.out.more hbW.size, hbb3.setCell (p := ⟨g, j * 2 + 1, none⟩) (by show w.heap.size ≤ g; omega) _⟩
end Go.Proofs.Ytghpolfmhnnbaaa
