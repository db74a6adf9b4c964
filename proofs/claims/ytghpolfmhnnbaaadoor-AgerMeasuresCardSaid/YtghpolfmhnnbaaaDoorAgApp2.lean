/-
  ager.Apply, where the reel exists and stays.
-/
import Derived.Test.YtghpolfmhnnbaaaDoorAgApp
namespace Go.Proofs.YtghpolfmhnnbaaaDoor
open Go.RowKit

section
variable {w : World} {B g n c j : Nat} {rs : List Reel} {r : Reel}
theorem OwnRs.at_ (h : OwnRs w B (.slice (some ⟨g, 0, none⟩) n c) rs) (hj : rs[j]? = some r) : ∃ ap cp, w.cell? ⟨g, j * 2, none⟩ = some (.int .i64 r.num) ∧ w.cell? ⟨g, j * 2 + 1, none⟩ = some (.slice ap r.ps.length cp) ∧ r.ps.length ≤ cp ∧ cp ≤ 9223372036854775807 ∧
    Own w B 9 (.slice ap r.ps.length cp) (strsL r.ps) ∧ w.frozen? ⟨g, j * 2, none⟩ = false ∧ w.frozen? ⟨g, j * 2 + 1, none⟩ = false := by
  obtain ⟨qs, h1, h2, h3⟩ := h
  have hc := World.ownsRow.cells h1 (g := g) rfl
  obtain ⟨pv, hq, ho⟩ := h3 j r hj
  have hf := fun i hi => flat_get reelC2 2 reelC2_len qs j i _ hq hi
  obtain ⟨ap, cp, rfl, _⟩ := ho.form
  rw [strsL_length] at ho hq hf
  have hcp : r.ps.length ≤ cp ∧ cp ≤ 9223372036854775807 := by
    rcases ho.2 with ⟨e, _⟩ | ⟨g', cap', cur, e, _, _, h5, h6, _⟩
    · injection e with _ e2 e3
      omega
    · injection e with _ e2 e3
      rw [strsL_length] at e2 h5
      unfold maxLen at h6
      omega
  have hfz : ∀ i, w.frozen? ⟨g, i, none⟩ = false := fun i => by
    rcases h1.2 with ⟨e, _⟩ | ⟨g', cap', cur, e, _, hh, _⟩
    · cases e
    · injection e with e1
      injection e1 with e1
      injection e1 with e1
      subst e1
      simp [World.frozen?, hh]
  refine ⟨ap, cp, ?_, ?_, hcp.1, hcp.2, ho, hfz _, hfz _⟩
  · have := hc (j * 2) _ ((hf 0 (by omega)).trans rfl)
    rwa [Addr.add_lit, Nat.zero_add] at this
  · have := hc (j * 2 + 1) _ ((hf 1 (by omega)).trans rfl)
    rwa [Addr.add_lit, Nat.zero_add] at this
theorem set_flat : ∀ (qs : List (Int × Value)) (j : Nat) (q : Int × Value), j < qs.length → reelsC (qs.set j q) = ((reelsC qs).set (j * 2) (.int .i64 q.1)).set (j * 2 + 1) q.2
  | [], j, q, h => by simp at h
  | x :: qs, 0, q, _ => by simp [reelsC, reelC2]
  | x :: qs, j + 1, q, h => by
    have ih := set_flat qs j q (by simpa using h)
    simp only [reelsC, List.set_cons_succ, List.flatMap_cons] at ih ⊢
    rw [ih, show (j + 1) * 2 = j * 2 + 1 + 1 by omega]
    simp [reelC2]
theorem OwnRs.set_ {pv : Value} {ps : List (List UInt8)} (h : OwnRs w B (.slice (some ⟨g, 0, none⟩) n c) rs) (hj : j < rs.length) (num : Int) (hp : Own w B 9 pv (strsL ps)) :
    OwnRs ((w.setCell ⟨g, j * 2, none⟩ (.int .i64 num)).setCell ⟨g, j * 2 + 1, none⟩ pv) B (.slice (some ⟨g, 0, none⟩) n c) (rs.set j ⟨num, ps⟩) := by
  obtain ⟨ao', cap', e, _⟩ := h.form
  have hn : n = rs.length := by injection e
  subst hn
  obtain ⟨qs, h1, h2, h3⟩ := h
  obtain ⟨s1, _⟩ := World.ownsRow.stored h1 (j * 2) (.int .i64 num)
  obtain ⟨s2, _⟩ := World.ownsRow.stored s1 (j * 2 + 1) pv
  have hg : w.grownBy ((w.setCell ⟨g, j * 2, none⟩ (.int .i64 num)).setCell ⟨g, j * 2 + 1, none⟩ pv) (some g) := ⟨rfl, rfl, rfl, by simp [World.setCell], fun k hk hne =>
    (Below.heap_setCell _ ⟨g, j * 2 + 1, none⟩ _ k (fun e => hne (by rw [e]))).trans (Below.heap_setCell w ⟨g, j * 2, none⟩ _ k (fun e => hne (by rw [e])))⟩
  refine ⟨qs.set j (num, pv), ?_, by simp [h2], fun i r hi => ?_⟩
  · rw [List.length_set, set_flat qs j (num, pv) (by omega)]
    exact s2
  · rw [List.getElem?_set] at hi
    by_cases hij : j = i
    · subst hij
      rw [if_pos rfl, if_pos hj] at hi
      injection hi with hi
      subst hi
      refine ⟨pv, ?_, World.ownsRow.kept hp hg (row_ne hp h1 type_ne)⟩
      rw [List.getElem?_set, if_pos rfl, if_pos (by omega)]
    · rw [if_neg hij] at hi
      obtain ⟨pv2, h4, h5⟩ := h3 i r hi
      refine ⟨pv2, ?_, World.ownsRow.kept h5 hg (row_ne h5 h1 type_ne)⟩
      rw [List.getElem?_set, if_neg hij]
      exact h4
end

/-- What is asked of burst, where it is called. -/
def Burst8 : Prop := ∀ (ao : Option Addr) (n cap p : Nat) (ps : List (List UInt8)) (x : List UInt8) (r a l : Int) (w : World), EdArg w ao n cap ps p x → l ≤ 9223372036854775807 →
    Calls Tryd.prog 34 #[.slice ao n cap, .agg #[.int .i64 8, .int .i64 r, .int .i64 p, .int .i64 a, .int .i64 l]] w (EditP (edit ⟨8, r, p, a, l⟩ ps p x) w)

set_option maxHeartbeats 4000000 in
set_option maxRecDepth 100000 in
theorem apply_none (ao : Option Addr) (n cap j : Nat) (rs : List Reel) (r : Reel) (k p a l : Int) (w : World) (hr : Reels w ao n rs) (hf : Fine rs) (hj : rs[j]? = some r) (hk : k ≠ 4)
    (hu : ¬ (kindK k = true ∧ 0 ≤ p ∧ p < r.ps.length)) :
    Calls Tryd.prog 7 #[.slice ao n cap, .agg #[.int .i64 k, .int .i64 j, .int .i64 p, .int .i64 a, .int .i64 l]] w fun e w' => ∃ v, e = .returned v ∧ OwnRs w' w.heap.size v (applyR rs ⟨k, j, p, a, l⟩) ∧ Below w.heap.size w w' := by
  obtain ⟨rfl, hr2⟩ := hr
  have hjl := (List.getElem?_eq_some_iff.1 hj).1
  have hfin : applyR rs ⟨k, j, p, a, l⟩ = rs := by
    rw [applyR_in hj hk]
    have : editP ⟨k, j, p, a, l⟩ r.ps = r.ps := by
      by_cases hp : 0 ≤ p ∧ p < r.ps.length
      · obtain ⟨q, rfl⟩ : ∃ q : Nat, p = q := ⟨p.toNat, by omega⟩
        obtain ⟨x, hx⟩ : ∃ x, r.ps[q]? = some x := ⟨_, List.getElem?_eq_getElem (by omega)⟩
        refine editP_none rfl hx (edit_unknown ?_)
        cases hkk : kindK k
        · rfl
        · exact absurd ⟨hkk, hp.1, hp.2⟩ hu
      · exact editP_out hp
    rw [this, set_same hj]
  rw [hfin]
  clear hfin
  obtain ⟨W, hW, hbW, hzW, d0, d1, d2, d3, d4⟩ := dbox w k j p a l
  have hn6 := hf.1
  have HC := Lib.hid (copies_any ao rs.length cap rs W (Reels.below ⟨rfl, hr2⟩ hbW) (by omega) (fun r hr => (hf.2 r hr).1))
  have hlw : w.heap.size < W.heap.size := by omega
  have h0 : ¬ ((j : Int) < 0) := by omega
  have h1 : ¬ ((rs.length : Int) ≤ (j : Int)) := by omega
  have h4 : (k == 4) = false := beq_eq_false_iff_ne.2 hk
  have HJ := Lib.hid hj
  clear hr2 hf hzW hj
  go_enter Tryd.func7, Tryd.ntmps7
  go_wp2_with fail
  refine HC.out.mono ?_
  rintro e w1 ⟨v, rfl, ho1, hb1⟩
  have c0 := (hb1.cell (p := ⟨w.heap.size, 0, none⟩) hlw).trans d0
  have c1 := (hb1.cell (p := ⟨w.heap.size, 1, none⟩) hlw).trans d1
  have c2 := (hb1.cell (p := ⟨w.heap.size, 2, none⟩) hlw).trans d2
  obtain ⟨ao1, cap1, rfl, _, _, hao⟩ := ho1.form
  obtain ⟨g, rfl, _, _⟩ := hao (by omega)
  obtain ⟨ap, cp, g0, g1, hcp, hcp2, hown, z0, z1⟩ := ho1.at_ HJ.out
  have HO := Lib.hid ho1
  have hbb := hbW.trans (hb1.mono hbW.size)
  have hsz := hb1.size
  obtain ⟨W2, hW2, hbW2, hzW2, e0, e1⟩ := rbox w1 r.num (.slice ap r.ps.length cp)
  have hlt2 : w.heap.size < w1.heap.size := by omega
  have c0 := (hbW2.cell (p := ⟨w.heap.size, 0, none⟩) hlt2).trans c0
  have c2 := (hbW2.cell (p := ⟨w.heap.size, 2, none⟩) hlt2).trans c2
  have hlw2 : w1.heap.size < W2.heap.size := by omega
  have he : Calls Tryd.prog 14 #[] W2.drew fun e w' => ∃ b1 b2, e = .returned (.map (some W2.heap.size)) ∧ w'.heap[W2.heap.size]? = some (.map (edEs b1 b2) 7) ∧ w'.cell? ⟨b1, 0, none⟩ = some (fnV 27) ∧ w'.cell? ⟨b2, 0, none⟩ = some (fnV 28) ∧ Below W2.heap.size W2 w' :=
    (edits_any W2.drew).mono fun e w' ⟨b1, b2, h1, h2, h3, h4, h5⟩ => ⟨b1, b2, h1, h2, h3, h4, (Below.refl W2.heap.size W2).drew.trans h5⟩
  have HE := Lib.hid he
  have HO2 := Lib.hid (ho1.kept hbW2)
  obtain ⟨K, hK⟩ : ∃ K, kindK k = K := ⟨_, rfl⟩
  have HK := Lib.hid hK
  have hu2 : K = true → 0 ≤ p → (r.ps.length : Int) ≤ p := fun h1 h2 => by
    rw [← hK] at h1
    exact Int.not_lt.1 fun h3 => hu ⟨h1, h2, h3⟩
  have HU := Lib.hid hu2
  clear ho1 hao hown hzW2 d0 d1 d2 d3 d4 he hK hu hu2
  go_upto_region 7 with (fail)
  go_region_held3 (fun w' => w'.cell? ⟨w.heap.size, 0, none⟩ = some (.int .i64 k)) (first | go_keep | exact hx0)
    ((go_at_call 14; refine HE.out.mono ?_; rintro e w3 ⟨b1, b2, rfl, hmap, hf1, hf2, hb3⟩; obtain ⟨FV, hFV⟩ : ∃ FV, (edFn b1 b2 k).getD .nilFunc = FV := ⟨_, rfl⟩; have hlk := look_any hmap k FV hFV K HK.out; have HFV := Lib.hid hFV; have hx0 := (hb3.cell (p := ⟨w.heap.size, 0, none⟩) (by show w.heap.size < _; omega)).trans c0; clear hFV))
  have x2 := (hb3.cell (p := ⟨w.heap.size, 2, none⟩) (by show w.heap.size < _; omega)).trans c2
  have x1 := (hb3.cell (p := ⟨w1.heap.size, 1, none⟩) hlw2).trans e1
  have hfin := HO2.out.kept hb3
  have hfb := (hbb.trans (hbW2.mono (by omega))).trans (hb3.mono (by omega))
  have HFIN := Lib.hid hfin
  clear hfin
  cases K
  · go_wp2_with fail
    go_ret
    exact ⟨_, rfl, HFIN.out.more hbW.size, hfb⟩
  · by_cases hp0 : p < 0
    · go_wp2_with fail
      go_ret
      exact ⟨_, rfl, HFIN.out.more hbW.size, hfb⟩
    · have hp1 := HU.out rfl (by omega)
      go_wp2_with fail
      go_ret
      exact ⟨_, rfl, HFIN.out.more hbW.size, hfb⟩
set_option maxHeartbeats 4000000 in
set_option maxRecDepth 100000 in
theorem apply_some (ao : Option Addr) (n cap j : Nat) (rs : List Reel) (r : Reel) (q : Nat) (x : List UInt8) (k a l : Int) (w : World) (hr : Reels w ao n rs) (hf : Fine rs) (hj : rs[j]? = some r) (hkk : kindK k = true) (hx : r.ps[q]? = some x) (hl64 : l ≤ 9223372036854775807) (h8 : k = 8 → Burst8) :
    Calls Tryd.prog 7 #[.slice ao n cap, .agg #[.int .i64 k, .int .i64 j, .int .i64 q, .int .i64 a, .int .i64 l]] w fun e w' => ∃ v, e = .returned v ∧ OwnRs w' w.heap.size v (applyR rs ⟨k, j, q, a, l⟩) ∧ Below w.heap.size w w' := by
  obtain ⟨rfl, hr2⟩ := hr
  have hjl := (List.getElem?_eq_some_iff.1 hj).1
  have hk : k ≠ 4 := fun e => by
    rw [e] at hkk
    exact absurd hkk (by decide)
  have hql := (List.getElem?_eq_some_iff.1 hx).1
  obtain ⟨R, hR⟩ : ∃ R, edit ⟨k, j, q, a, l⟩ r.ps q x = R := ⟨_, rfl⟩
  have hfin : applyR rs ⟨k, j, q, a, l⟩ = rs.set j ⟨r.num, R.getD r.ps⟩ := by
    rw [applyR_in hj hk]
    cases hR2 : R with
    | none => rw [editP_none rfl hx (hR.trans hR2)]; rfl
    | some qs => rw [editP_some rfl hx (hR.trans hR2)]; rfl
  rw [hfin]
  have HR := Lib.hid hR
  have HS := Lib.hid (set_same hj)
  have hxs := (hf.2 r (List.mem_of_getElem? hj)).2 x (List.mem_of_getElem? hx)
  have hps := (hf.2 r (List.mem_of_getElem? hj)).1
  clear hfin hR
  obtain ⟨W, hW, hbW, hzW, d0, d1, d2, d3, d4⟩ := dbox w k j q a l
  have hn6 := hf.1
  have HC := Lib.hid (copies_any ao rs.length cap rs W (Reels.below ⟨rfl, hr2⟩ hbW) (by omega) (fun r hr => (hf.2 r hr).1))
  have hlw : w.heap.size < W.heap.size := by omega
  have h0 : ¬ ((j : Int) < 0) := by omega
  have h1 : ¬ ((rs.length : Int) ≤ (j : Int)) := by omega
  have h4 : (k == 4) = false := beq_eq_false_iff_ne.2 hk
  have HJ := Lib.hid hj
  have HX := Lib.hid hx
  have H8 := Lib.hid h8
  have HKK := Lib.hid hkk
  clear hr2 hf hzW hj hx h8 hkk
  go_enter Tryd.func7, Tryd.ntmps7
  go_wp2_with fail
  refine HC.out.mono ?_
  rintro e w1 ⟨v, rfl, ho1, hb1⟩
  have c0 := (hb1.cell (p := ⟨w.heap.size, 0, none⟩) hlw).trans d0
  have c1 := (hb1.cell (p := ⟨w.heap.size, 1, none⟩) hlw).trans d1
  have c2 := (hb1.cell (p := ⟨w.heap.size, 2, none⟩) hlw).trans d2
  have c3 := (hb1.cell (p := ⟨w.heap.size, 3, none⟩) hlw).trans d3
  have c4 := (hb1.cell (p := ⟨w.heap.size, 4, none⟩) hlw).trans d4
  obtain ⟨ao1, cap1, rfl, _, _, hao⟩ := ho1.form
  obtain ⟨g, rfl, _, _⟩ := hao (by omega)
  obtain ⟨ap, cp, g0, g1, hcp, hcp2, hown, z0, z1⟩ := ho1.at_ HJ.out
  have HO := Lib.hid ho1
  have hbb := hbW.trans (hb1.mono hbW.size)
  have hsz := hb1.size
  obtain ⟨W2, hW2, hbW2, hzW2, e0, e1⟩ := rbox w1 r.num (.slice ap r.ps.length cp)
  have hlt2 : w.heap.size < w1.heap.size := by omega
  have c0 := (hbW2.cell (p := ⟨w.heap.size, 0, none⟩) hlt2).trans c0
  have c1 := (hbW2.cell (p := ⟨w.heap.size, 1, none⟩) hlt2).trans c1
  have c2 := (hbW2.cell (p := ⟨w.heap.size, 2, none⟩) hlt2).trans c2
  have c3 := (hbW2.cell (p := ⟨w.heap.size, 3, none⟩) hlt2).trans c3
  have c4 := (hbW2.cell (p := ⟨w.heap.size, 4, none⟩) hlt2).trans c4
  have hlw2 : w1.heap.size < W2.heap.size := by omega
  have he : Calls Tryd.prog 14 #[] W2.drew fun e w' => ∃ b1 b2, e = .returned (.map (some W2.heap.size)) ∧ w'.heap[W2.heap.size]? = some (.map (edEs b1 b2) 7) ∧ w'.cell? ⟨b1, 0, none⟩ = some (fnV 27) ∧ w'.cell? ⟨b2, 0, none⟩ = some (fnV 28) ∧ Below W2.heap.size W2 w' :=
    (edits_any W2.drew).mono fun e w' ⟨b1, b2, h1, h2, h3, h4, h5⟩ => ⟨b1, b2, h1, h2, h3, h4, (Below.refl W2.heap.size W2).drew.trans h5⟩
  have HE := Lib.hid he
  have HO2 := Lib.hid (ho1.kept hbW2)
  have HST := Lib.hid (hown.read.below hbW2)
  clear ho1 hao hown hzW2 d0 d1 d2 d3 d4 he
  go_upto_region 7 with (fail)
  go_region_held3 (fun w' => w'.cell? ⟨w.heap.size, 0, none⟩ = some (.int .i64 k)) (first | go_keep | exact hx0)
    ((go_at_call 14; refine HE.out.mono ?_; rintro e w3 ⟨b1, b2, rfl, hmap, hf1, hf2, hb3⟩; obtain ⟨FV, hFV⟩ : ∃ FV, (edFn b1 b2 k).getD .nilFunc = FV := ⟨_, rfl⟩; have hlk := look_any hmap k FV hFV true HKK.out; have HFV := Lib.hid hFV; have hx0 := (hb3.cell (p := ⟨w.heap.size, 0, none⟩) (by show w.heap.size < _; omega)).trans c0; clear hFV))
  have hlt3 : w.heap.size < W2.heap.size := by omega
  have x1 := (hb3.cell (p := ⟨w1.heap.size, 1, none⟩) hlw2).trans e1
  have x0 := (hb3.cell (p := ⟨w1.heap.size, 0, none⟩) hlw2).trans e0
  have y0 := (hb3.cell (p := ⟨w.heap.size, 0, none⟩) hlt3).trans c0
  have y1 := (hb3.cell (p := ⟨w.heap.size, 1, none⟩) hlt3).trans c1
  have y2 := (hb3.cell (p := ⟨w.heap.size, 2, none⟩) hlt3).trans c2
  have y3 := (hb3.cell (p := ⟨w.heap.size, 3, none⟩) hlt3).trans c3
  have y4 := (hb3.cell (p := ⟨w.heap.size, 4, none⟩) hlt3).trans c4
  have hfb := (hbb.trans (hbW2.mono (by omega))).trans (hb3.mono (by omega))
  have hs3 := hb3.size
  have HO3 := Lib.hid (HO2.out.kept hb3)
  have HED : Hid (EdArg w3 ap r.ps.length cp r.ps q x) := ⟨HST.out.below hb3, HX.out, hcp, hps, hcp2, hxs⟩
  have q1 : ¬ ((q : Int) < 0) := by omega
  have q2 : ¬ ((r.ps.length : Int) ≤ (q : Int)) := by omega
  clear hmap hlk hx0 g0 g1 z0 z1 e0 e1 c0 c1 c2 c3 c4 hb3
  go_upto_region 10 with (fail)
  go_cut [9, 10] (fun s9 s10 wx => s10 = .bool R.isSome ∧ (∀ qs, R = some qs → Own wx w3.heap.size 9 s9 (strsL qs)) ∧ Below w3.heap.size w3 wx)
  case first =>
    rcases kindK_cases HKK.out with rfl | rfl | rfl | rfl | rfl | rfl | rfl
    · have hfv : FV = .func (.func 43) #[] #[.pointer (some ⟨b1, 0, none⟩)] := HFV.out.symm
      subst hfv
      have hcon := edit1_any ap r.ps.length cp q r.ps x j a l b1 w3 HED.out hf1
      rw [HR.out] at hcon
      have HCON := Lib.hid hcon
      clear hcon
      go_wp2_with fail
      refine HCON.out.mono ?_
      rintro e w4 ⟨pv, rfl, hown, hb4⟩
      go_wp2_with fail
      go_meet
      case rel => exact ⟨rfl, hown, hb4⟩
    · have hfv : FV = .func (.func 43) #[] #[.pointer (some ⟨b2, 0, none⟩)] := HFV.out.symm
      subst hfv
      have hcon := edit2_any ap r.ps.length cp q r.ps x j a l b2 w3 HED.out hf2
      rw [HR.out] at hcon
      have HCON := Lib.hid hcon
      clear hcon
      go_wp2_with fail
      refine HCON.out.mono ?_
      rintro e w4 ⟨pv, rfl, hown, hb4⟩
      go_wp2_with fail
      go_meet
      case rel => exact ⟨rfl, hown, hb4⟩
    · have hfv : FV = .func (.func 29) #[] #[] := HFV.out.symm
      subst hfv
      have hcon := edit3_any ap r.ps.length cp q r.ps x 3 j a l w3 HED.out rfl
      rw [HR.out] at hcon
      have HCON := Lib.hid hcon
      clear hcon
      go_wp2_with fail
      refine HCON.out.mono ?_
      rintro e w4 ⟨pv, rfl, hown, hb4⟩
      go_wp2_with fail
      go_meet
      case rel => exact ⟨rfl, hown, hb4⟩
    · have hfv : FV = .func (.func 31) #[] #[] := HFV.out.symm
      subst hfv
      have hcon := edit5_any ap r.ps.length cp q r.ps x j a l w3 HED.out
      rw [HR.out] at hcon
      have HCON := Lib.hid hcon
      clear hcon
      go_wp2_with fail
      refine HCON.out.mono ?_
      rintro e w4 ⟨pv, rfl, hown, hb4⟩
      go_wp2_with fail
      go_meet
      case rel => exact ⟨rfl, hown, hb4⟩
    · have hfv : FV = .func (.func 32) #[] #[] := HFV.out.symm
      subst hfv
      have hcon := edit6_any ap r.ps.length cp q r.ps x j a l w3 HED.out
      rw [HR.out] at hcon
      have HCON := Lib.hid hcon
      clear hcon
      go_wp2_with fail
      refine HCON.out.mono ?_
      rintro e w4 ⟨pv, rfl, hown, hb4⟩
      go_wp2_with fail
      go_meet
      case rel => exact ⟨rfl, hown, hb4⟩
    · have hfv : FV = .func (.func 33) #[] #[] := HFV.out.symm
      subst hfv
      have hcon := edit7_any ap r.ps.length cp q r.ps x 7 j a l w3 HED.out rfl
      rw [HR.out] at hcon
      have HCON := Lib.hid hcon
      clear hcon
      go_wp2_with fail
      refine HCON.out.mono ?_
      rintro e w4 ⟨pv, rfl, hown, hb4⟩
      go_wp2_with fail
      go_meet
      case rel => exact ⟨rfl, hown, hb4⟩
    · have hfv : FV = .func (.func 34) #[] #[] := HFV.out.symm
      subst hfv
      have hcon := H8.out rfl ap r.ps.length cp q r.ps x j a l w3 HED.out hl64
      rw [HR.out] at hcon
      have HCON := Lib.hid hcon
      clear hcon
      go_wp2_with fail
      refine HCON.out.mono ?_
      rintro e w4 ⟨pv, rfl, hown, hb4⟩
      go_wp2_with fail
      go_meet
      case rel => exact ⟨rfl, hown, hb4⟩
  case rest =>
    obtain ⟨rfl, hown, hb4⟩ := hcut
    have hs4 := hb4.size
    have t0 := (hb4.cell (p := ⟨w1.heap.size, 0, none⟩) (by show w1.heap.size < _; omega)).trans x0
    have t1 := (hb4.cell (p := ⟨w.heap.size, 1, none⟩) (by show w.heap.size < _; omega)).trans y1
    have HOW := Lib.hid hown
    have HO4 := Lib.hid (HO3.out.kept hb4)
    have hfb4 := hfb.trans (hb4.mono (by omega))
    clear hown x0 x1 y0 y1 y2 y3 y4
    cases R with
    | none =>
      go_wp2_with fail
      go_ret
      refine ⟨_, rfl, ?_, hfb4⟩
      show OwnRs _ _ _ (rs.set j ⟨r.num, r.ps⟩)
      rw [HS.out]
      exact HO4.out.more hbW.size
    | some qs =>
      obtain ⟨aq, cq, hv, _⟩ := (HOW.out qs rfl).form
      subst hv
      obtain ⟨ap4, cp4, g0, g1, _, _, _, z0, z1⟩ := HO4.out.at_ HJ.out
      have hset := HO4.out.set_ hjl r.num ((HOW.out qs rfl).more (show W.heap.size ≤ w3.heap.size by omega))
      have HSET := Lib.hid hset
      have hgb : w.heap.size ≤ g := by omega
      clear hset
      go_wp2_with fail
      go_ret
      refine ⟨_, rfl, HSET.out.more hbW.size, (hfb4.setCell (p := ⟨g, j * 2, none⟩) hgb _).setCell (p := ⟨g, j * 2 + 1, none⟩) hgb _⟩
end Go.Proofs.YtghpolfmhnnbaaaDoor
