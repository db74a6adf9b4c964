/-
  dirtree.Apply, its tree in a row of the call's own whose parts are read in an elder world P: the rest. (Written by gen_appp2.py.)
-/
import Derived.Test.YtbhmdcdhklgomaaGreatDoorM35
import Derived.Test.YtbhmdcdhklgomaaGreatDoorM28
namespace Go.Proofs.YtbhmdcdhklgomaaGreatDoor
open Go.RowKit Top

set_option maxHeartbeats 4000000 in
set_option maxRecDepth 100000 in
theorem tappP_cdir (P : World) (tv v : Value) (t : List Ent) (e : Ent) (w : World) (hP : Below P.heap.size P w) (htP : EntsP P w tv t) (hfe : e.path.length ≤ 16777216) (hev : EntV P v e) (hck : CheckAt v e w) (herr : entErr e = 0) (hcr : creates e = true) (hd : dirErr t (Path.parentV e.path) ≠ 0) :
    Calls Tryz.prog 59 #[tv, v] w (TPostP P t e w) := by
  have ht := htP.ents hP
  obtain ⟨aa, ac, ea, ec, rfl, _, _⟩ := hev
  obtain ⟨W, hW, hbW, hzW, d0, d1, d2, d3, d4, d5, d6⟩ := ebox w e (.slice aa e.attrs.length ac) (.slice ea e.exts.length ec)
  have hlw : w.heap.size < W.heap.size := by omega
  have HC := Lib.hid (hck W hbW)
  rw [herr] at HC
  have HFD := Lib.hid (fun X (hX : Below W.heap.size W X) => find_any tv t e.path X ((ht.below hbW).below hX))
  have HIT := Lib.hid (fun X => inTree_any e.kind X)
  have hct : (e.kind == 1 || e.kind == 2 || e.kind == 3) = true := hcr
  rw [hct] at HIT
  have hpv : (Path.parentV (⟨e.path.toArray⟩ : ByteArray).data.toList) = Path.parentV e.path := rfl
  have HPA := Lib.hid (fun X => parent_any ⟨e.path.toArray⟩ X (by show e.path.length < _; omega))
  rw [hpv] at HPA
  have HDI := Lib.hid (fun X (hX : Below W.heap.size W X) => directory_any tv t (Path.parentV e.path) X ((ht.below hbW).below hX))
  have hr : applyT t e = (dirErr t (Path.parentV e.path), []) := by unfold applyT; rw [if_neg (by rw [herr]; decide), if_neg (by rw [hcr]; decide), if_pos hd]
  have HR := Lib.hid hr
  have e0 : (dirErr t (Path.parentV e.path) != 0) = true := bne_iff_ne.2 hd
  generalize dirErr t (Path.parentV e.path) = z at *
  clear ht hfe hck herr hcr hct hr hpv hd
  generalize Path.parentV e.path = PV at *
  generalize Path.parentE (⟨e.path.toArray⟩ : ByteArray).data.toList = PE at *
  generalize (⟨PV.toArray⟩ : ByteArray) = PU at *
  generalize (⟨e.path.toArray⟩ : ByteArray) = U at *
  go_enter Tryz.func59, Tryz.ntmps59
  go_wp2_with fail
  refine HC.out.mono ?_
  rintro en w1 ⟨rfl, hb1⟩
  have d0 := (hb1.cell (p := ⟨w.heap.size, 0, none⟩) hlw).trans d0
  have d1 := (hb1.cell (p := ⟨w.heap.size, 1, none⟩) hlw).trans d1
  have HF := Lib.hid (HFD.out w1 hb1)
  have hlw1 := Nat.lt_of_lt_of_le hlw hb1.size
  go_wp2_with fail
  refine HF.out.mono ?_
  rintro en w2 ⟨rfl, hb2⟩
  have d0 := (hb2.cell (p := ⟨w.heap.size, 0, none⟩) hlw1).trans d0
  have d1 := (hb2.cell (p := ⟨w.heap.size, 1, none⟩) hlw1).trans d1
  have hb12 := hb1.trans (hb2.mono hb1.size)
  go_wp2_with fail
  refine (HIT.out _).mono ?_
  rintro en w3 ⟨rfl, rfl⟩
  go_wp2_with fail
  refine (HPA.out _).mono ?_
  rintro en w4 ⟨rfl, hb4⟩
  have hb14 := hb12.trans (hb4.mono hb12.size)
  have HDX := Lib.hid (HDI.out w4 hb14)
  go_wp2_with fail
  refine HDX.out.mono ?_
  rintro en w5 ⟨rfl, hb5⟩
  go_wp2_with fail
  go_ret2
  unfold TPostP
  rw [HR.out]
  exact ⟨_, rfl, OwnEnts.nil _ _ _, hbW.trans ((hb14.trans (hb5.mono hb14.size)).mono hbW.size)⟩

set_option maxHeartbeats 4000000 in
set_option maxRecDepth 100000 in
theorem tappP_new (P : World) (tv v : Value) (t : List Ent) (e : Ent) (w : World) (hP : Below P.heap.size P w) (htP : EntsP P w tv t) (hn : t.length ≤ 65536) (hft : FitP t) (hfe : e.path.length ≤ 16777216) (hev : EntV P v e) (hck : CheckAt v e w) (herr : entErr e = 0) (hcr : creates e = true) (hd : dirErr t (Path.parentV e.path) = 0) (hno : Top.find t e.path = none) :
    Calls Tryz.prog 59 #[tv, v] w (TPostP P t e w) := by
  have ht := htP.ents hP
  obtain ⟨aa, ac, ea, ec, rfl, hev1, hev2⟩ := hev
  obtain ⟨W, hW, hbW, hzW, d0, d1, d2, d3, d4, d5, d6⟩ := ebox w e (.slice aa e.attrs.length ac) (.slice ea e.exts.length ec)
  have hlw : w.heap.size < W.heap.size := by omega
  have HC := Lib.hid (hck W hbW)
  rw [herr] at HC
  have htW := ht.below hbW
  have HFD := Lib.hid (fun X (hX : Below W.heap.size W X) => find_any tv t e.path X (htW.below hX))
  have hix : idxI t e.path = -1 := by unfold idxI; rw [hno]
  rw [hix] at HFD
  have HIT := Lib.hid (fun X => inTree_any e.kind X)
  have hct : (e.kind == 1 || e.kind == 2 || e.kind == 3) = true := hcr
  rw [hct] at HIT
  have hpv : (Path.parentV (⟨e.path.toArray⟩ : ByteArray).data.toList) = Path.parentV e.path := rfl
  have HPA := Lib.hid (fun X => parent_any ⟨e.path.toArray⟩ X (by show e.path.length < _; omega))
  rw [hpv] at HPA
  have HDI := Lib.hid (fun X (hX : Below W.heap.size W X) => directory_any tv t (Path.parentV e.path) X (htW.below hX))
  rw [hd] at HDI
  have HCL := Lib.hid (fun X (hX : Below W.heap.size W X) => cloneEntsP P tv t w X htP (hbW.trans (hX.mono hbW.size)) hn)
  have HBS := Lib.hid (fun vv X (hX : Ents X vv t) => bsearch_any vv t e.path X hX hn hfe hft)
  have hpl := place_le t e.path
  have hr : applyT t e = if 5000 ≤ t.length then (6, []) else (0, insAt t (place t e.path) e) := by
    unfold applyT
    rw [if_neg (by rw [herr]; decide), if_neg (by rw [hcr]; decide), if_neg (by rw [hd]; decide), hno]
  have HEC := Lib.hid (fun (X : World) (_ : Below w.heap.size w X) => (show EntC P (entL e (.slice aa e.attrs.length ac) (.slice ea e.exts.length ec)) e from ⟨aa, ac, ea, ec, rfl, hev1, hev2⟩))
  have HOT := Lib.hid ht.form
  generalize place t e.path = pl at *
  clear ht hft hfe hck herr hcr hct hpv hd hno hix htW hev1 hev2
  generalize Path.parentV e.path = PV at *
  generalize Path.parentE (⟨e.path.toArray⟩ : ByteArray).data.toList = PE at *
  generalize (⟨PV.toArray⟩ : ByteArray) = PU at *
  obtain ⟨ta, tc, rfl, ht1, ht2⟩ := HOT.out
  clear HOT
  by_cases h5 : 5000 ≤ t.length
  · rw [if_pos h5] at hr
    have HR := Lib.hid hr
    clear hr
    generalize (⟨e.path.toArray⟩ : ByteArray) = U at *
    go_enter Tryz.func59, Tryz.ntmps59
    go_wp2_with fail
    refine HC.out.mono ?_
    rintro en w1 ⟨rfl, hb1⟩
    have d0 := (hb1.cell (p := ⟨w.heap.size, 0, none⟩) hlw).trans d0
    have d1 := (hb1.cell (p := ⟨w.heap.size, 1, none⟩) hlw).trans d1
    have HF := Lib.hid (HFD.out w1 hb1)
    have hlw1 := Nat.lt_of_lt_of_le hlw hb1.size
    go_wp2_with fail
    refine HF.out.mono ?_
    rintro en w2 ⟨rfl, hb2⟩
    have d0 := (hb2.cell (p := ⟨w.heap.size, 0, none⟩) hlw1).trans d0
    have d1 := (hb2.cell (p := ⟨w.heap.size, 1, none⟩) hlw1).trans d1
    have hb12 := hb1.trans (hb2.mono hb1.size)
    go_wp2_with fail
    refine (HIT.out _).mono ?_
    rintro en w3 ⟨rfl, rfl⟩
    go_wp2_with fail
    refine (HPA.out _).mono ?_
    rintro en w4 ⟨rfl, hb4⟩
    have hb14 := hb12.trans (hb4.mono hb12.size)
    have HDX := Lib.hid (HDI.out w4 hb14)
    go_wp2_with fail
    refine HDX.out.mono ?_
    rintro en w5 ⟨rfl, hb5⟩
    have hb15 := hb14.trans (hb5.mono hb14.size)
    have HCX := Lib.hid (HCL.out w5 hb15)
    go_wp2_with fail
    refine HCX.out.mono ?_
    rintro en w6 ⟨v6, rfl, ho6, hb6⟩
    go_wp2_with fail
    go_ret2
    unfold TPostP
    rw [HR.out]
    exact ⟨_, rfl, OwnEnts.nil _ _ _, hbW.trans ((hb15.trans (hb6.mono hb15.size)).mono hbW.size)⟩
  · rw [if_neg h5] at hr
    have HR := Lib.hid hr
    clear hr
    go_enter Tryz.func59, Tryz.ntmps59
    go_wp2_with fail
    refine HC.out.mono ?_
    rintro en w1 ⟨rfl, hb1⟩
    have cc := fun (i : Nat) (u : Value) (h : W.cell? ⟨w.heap.size, i, none⟩ = some u) => (hb1.cell (p := ⟨w.heap.size, i, none⟩) hlw).trans h
    have d0 := cc 0 _ d0
    have d1 := cc 1 _ d1
    have d2 := cc 2 _ d2
    have d3 := cc 3 _ d3
    have d4 := cc 4 _ d4
    have d5 := cc 5 _ d5
    have d6 := cc 6 _ d6
    clear cc
    have HF := Lib.hid (HFD.out w1 hb1)
    have hlw1 := Nat.lt_of_lt_of_le hlw hb1.size
    go_wp2_with fail
    refine HF.out.mono ?_
    rintro en w2 ⟨rfl, hb2⟩
    have cc := fun (i : Nat) (u : Value) (h : w1.cell? ⟨w.heap.size, i, none⟩ = some u) => (hb2.cell (p := ⟨w.heap.size, i, none⟩) hlw1).trans h
    have d0 := cc 0 _ d0
    have d1 := cc 1 _ d1
    have d2 := cc 2 _ d2
    have d3 := cc 3 _ d3
    have d4 := cc 4 _ d4
    have d5 := cc 5 _ d5
    have d6 := cc 6 _ d6
    clear cc
    have hb12 := hb1.trans (hb2.mono hb1.size)
    have hlw2 := Nat.lt_of_lt_of_le hlw hb12.size
    go_wp2_with fail
    refine (HIT.out _).mono ?_
    rintro en w3 ⟨rfl, rfl⟩
    go_wp2_with fail
    refine (HPA.out _).mono ?_
    rintro en w4 ⟨rfl, hb4⟩
    have hb14 := hb12.trans (hb4.mono hb12.size)
    have HDX := Lib.hid (HDI.out w4 hb14)
    go_wp2_with fail
    refine HDX.out.mono ?_
    rintro en w5 ⟨rfl, hb5⟩
    have hb15 := hb14.trans (hb5.mono hb14.size)
    have HCX := Lib.hid (HCL.out w5 hb15)
    go_wp2_with fail
    refine HCX.out.mono ?_
    rintro en w6 ⟨v6, rfl, ho6, hb6⟩
    have hb26 : Below w2.heap.size w2 w6 := hb4.trans ((hb5.trans (hb6.mono hb5.size)).mono hb4.size)
    have cc := fun (i : Nat) (u : Value) (h : w2.cell? ⟨w.heap.size, i, none⟩ = some u) => (hb26.cell (p := ⟨w.heap.size, i, none⟩) hlw2).trans h
    have d0 := cc 0 _ d0
    have d1 := cc 1 _ d1
    have d2 := cc 2 _ d2
    have d3 := cc 3 _ d3
    have d4 := cc 4 _ d4
    have d5 := cc 5 _ d5
    have d6 := cc 6 _ d6
    clear cc
    have hb16 := hb15.trans (hb6.mono hb15.size)
    have hlw6 := Nat.lt_of_lt_of_le hlw hb16.size
    have HBX := Lib.hid (HBS.out v6 w6 (ho6.read (hP.trans (((hbW.trans (hb15.mono hbW.size)).trans (hb6.mono (hbW.trans (hb15.mono hbW.size)).size)).mono hP.size))))
    have HO6 := Lib.hid ho6
    clear ho6
    go_wp2_with fail
    refine HBX.out.mono ?_
    rintro en w7 ⟨bb, rfl, hb7⟩
    have cc := fun (i : Nat) (u : Value) (h : w6.cell? ⟨w.heap.size, i, none⟩ = some u) => (hb7.cell (p := ⟨w.heap.size, i, none⟩) hlw6).trans h
    have d0 := cc 0 _ d0
    have d1 := cc 1 _ d1
    have d2 := cc 2 _ d2
    have d3 := cc 3 _ d3
    have d4 := cc 4 _ d4
    have d5 := cc 5 _ d5
    have d6 := cc 6 _ d6
    clear cc
    have hb17 := hb16.trans (hb7.mono hb16.size)
    obtain ⟨X, hX, hbX, hzX, _, _, _, _, _, _, _⟩ := ebox w7 e (.slice aa e.attrs.length ac) (.slice ea e.exts.length ec)
    obtain ⟨vss, hvo, hva⟩ := HO6.out
    have hs6 : w5.heap.size ≤ X.heap.size := by
      have := hb6.size
      have := hb7.size
      omega
    have hblk : X.heap[w7.heap.size]? = some (.cells (entL e (.slice aa e.attrs.length ac) (.slice ea e.exts.length ec)).toArray 43 (0, 0)) := by rw [← hX]; exact heap_alloc_new w7 _
    have hins := ins_ent v6 t.length pl w5.heap.size w7.heap.size vss.flatten (entL e (.slice aa e.attrs.length ac) (.slice ea e.exts.length ec)) X (row_kept' (row_kept' hvo hb7) hbX) hpl (by omega) rfl (flat_ones hva) (entC_one (HEC.out w (Below.refl _ _))) hblk (fun hbk => absurd (World.ownsRow.lt (row_kept' hvo hb7) _ hbk).2 (Nat.lt_irrefl _)) hs6
    have HINS := Lib.hid hins
    clear hblk hins hvo
    go_wp2_with fail
    refine HINS.out.mono ?_
    rintro en w8 ⟨v8, rfl, ho8, hb8⟩
    have hbw5 := hbW.trans (hb15.mono hbW.size)
    have HO8 := OwnEnts.ins hva (HEC.out w5 hbw5) pl hpl ho8
    have hb58 : Below w5.heap.size w5 w8 := (hb6.trans ((hb7.trans (hbX.mono hb7.size)).mono hb6.size)).trans hb8
    go_wp2_with fail
    go_ret2
    unfold TPostP
    rw [HR.out]
    exact ⟨_, rfl, HO8.mono' hbw5.size, hbw5.trans (hb58.mono hbw5.size)⟩
set_option maxHeartbeats 4000000 in
set_option maxRecDepth 100000 in
theorem tappP_set (P : World) (tv v : Value) (t : List Ent) (e : Ent) (w : World) (hP : Below P.heap.size P w) (htP : EntsP P w tv t) (hn : t.length ≤ 65536) (hfe : e.path.length ≤ 16777216) (hev : EntV P v e) (hck : CheckAt v e w) (herr : entErr e = 0) (hcr : creates e = true) (hd : dirErr t (Path.parentV e.path) = 0) (i : Nat) (hno : Top.find t e.path = some i) :
    Calls Tryz.prog 59 #[tv, v] w (TPostP P t e w) := by
  have ht := htP.ents hP
  obtain ⟨aa, ac, ea, ec, rfl, hev1, hev2⟩ := hev
  obtain ⟨W, hW, hbW, hzW, d0, d1, d2, d3, d4, d5, d6⟩ := ebox w e (.slice aa e.attrs.length ac) (.slice ea e.exts.length ec)
  have hlw : w.heap.size < W.heap.size := by omega
  have HC := Lib.hid (hck W hbW)
  rw [herr] at HC
  have htW := ht.below hbW
  have HFD := Lib.hid (fun X (hX : Below W.heap.size W X) => find_any tv t e.path X (htW.below hX))
  have hix : idxI t e.path = (i : Nat) := by unfold idxI; rw [hno]
  rw [hix] at HFD
  obtain ⟨x, hx, hgx, _⟩ := find_get hno
  have hil := (List.getElem?_eq_some_iff.1 hx).1
  have HIT := Lib.hid (fun X => inTree_any e.kind X)
  have hct : (e.kind == 1 || e.kind == 2 || e.kind == 3) = true := hcr
  rw [hct] at HIT
  have hpv : (Path.parentV (⟨e.path.toArray⟩ : ByteArray).data.toList) = Path.parentV e.path := rfl
  have HPA := Lib.hid (fun X => parent_any ⟨e.path.toArray⟩ X (by show e.path.length < _; omega))
  rw [hpv] at HPA
  have HDI := Lib.hid (fun X (hX : Below W.heap.size W X) => directory_any tv t (Path.parentV e.path) X (htW.below hX))
  rw [hd] at HDI
  have HCL := Lib.hid (fun X (hX : Below W.heap.size W X) => cloneEntsP P tv t w X htP (hbW.trans (hX.mono hbW.size)) hn)
  have hr : applyT t e = if (x.kind == 2) != (e.kind == 2) then (8, []) else (0, t.set i e) := by
    unfold applyT
    rw [if_neg (by rw [herr]; decide), if_neg (by rw [hcr]; decide), if_neg (by rw [hd]; decide), hno, hgx]
  have HEC := Lib.hid (fun (X : World) (_ : Below w.heap.size w X) => (show EntC P (entL e (.slice aa e.attrs.length ac) (.slice ea e.exts.length ec)) e from ⟨aa, ac, ea, ec, rfl, hev1, hev2⟩))
  have HX := Lib.hid hx
  obtain ⟨ta, tc, rfl, ht1, ht2⟩ := ht.form
  obtain ⟨bk, o, xa, xc, ya, yc, rfl, _, _, k0, _⟩ := htW.get hx
  have hlk := World.block_lt_of_cell? _ _ k0
  have q1 : (i : Int) ≥ 0 := by omega
  have q2 : (i : Int) < (t.length : Int) := by omega
  have q3 : ¬ ((i : Int) < 0) := by omega
  clear ht hfe hck herr hcr hct hpv hd hno hix htW hev1 hev2 hx hgx
  generalize Path.parentV e.path = PV at *
  generalize Path.parentE (⟨e.path.toArray⟩ : ByteArray).data.toList = PE at *
  generalize (⟨PV.toArray⟩ : ByteArray) = PU at *
  obtain ⟨b1, hb1x⟩ : ∃ b, (x.kind == 2) = b := ⟨_, rfl⟩
  obtain ⟨b2, hb2x⟩ : ∃ b, (e.kind == 2) = b := ⟨_, rfl⟩
  rw [hb1x, hb2x] at hr
  have HR := Lib.hid hr
  clear hr
  go_enter Tryz.func59, Tryz.ntmps59
  go_wp2_with fail
  refine HC.out.mono ?_
  rintro en w1 ⟨rfl, hb1⟩
  have cc := fun (i : Nat) (u : Value) (h : W.cell? ⟨w.heap.size, i, none⟩ = some u) => (hb1.cell (p := ⟨w.heap.size, i, none⟩) hlw).trans h
  have d0 := cc 0 _ d0
  have d1 := cc 1 _ d1
  have d2 := cc 2 _ d2
  have d3 := cc 3 _ d3
  have d4 := cc 4 _ d4
  have d5 := cc 5 _ d5
  have d6 := cc 6 _ d6
  clear cc
  have HF := Lib.hid (HFD.out w1 hb1)
  have hlw1 := Nat.lt_of_lt_of_le hlw hb1.size
  go_wp2_with fail
  refine HF.out.mono ?_
  rintro en w2 ⟨rfl, hb2⟩
  have cc := fun (i : Nat) (u : Value) (h : w1.cell? ⟨w.heap.size, i, none⟩ = some u) => (hb2.cell (p := ⟨w.heap.size, i, none⟩) hlw1).trans h
  have d0 := cc 0 _ d0
  have d1 := cc 1 _ d1
  have d2 := cc 2 _ d2
  have d3 := cc 3 _ d3
  have d4 := cc 4 _ d4
  have d5 := cc 5 _ d5
  have d6 := cc 6 _ d6
  clear cc
  have hb12 := hb1.trans (hb2.mono hb1.size)
  have hlw2 := Nat.lt_of_lt_of_le hlw hb12.size
  go_wp2_with fail
  refine (HIT.out _).mono ?_
  rintro en w3 ⟨rfl, rfl⟩
  go_wp2_with fail
  refine (HPA.out _).mono ?_
  rintro en w4 ⟨rfl, hb4⟩
  have hb14 := hb12.trans (hb4.mono hb12.size)
  have HDX := Lib.hid (HDI.out w4 hb14)
  go_wp2_with fail
  refine HDX.out.mono ?_
  rintro en w5 ⟨rfl, hb5⟩
  have hb15 := hb14.trans (hb5.mono hb14.size)
  have HCX := Lib.hid (HCL.out w5 hb15)
  go_wp2_with fail
  refine HCX.out.mono ?_
  rintro en w6 ⟨v6, rfl, ho6, hb6⟩
  have hb26 : Below w2.heap.size w2 w6 := hb4.trans ((hb5.trans (hb6.mono hb5.size)).mono hb4.size)
  have cc := fun (i : Nat) (u : Value) (h : w2.cell? ⟨w.heap.size, i, none⟩ = some u) => (hb26.cell (p := ⟨w.heap.size, i, none⟩) hlw2).trans h
  have d0 := cc 0 _ d0
  have d1 := cc 1 _ d1
  have d2 := cc 2 _ d2
  have d3 := cc 3 _ d3
  have d4 := cc 4 _ d4
  have d5 := cc 5 _ d5
  have d6 := cc 6 _ d6
  clear cc
  have hb16 := hb15.trans (hb6.mono hb15.size)
  have k0 := (hb16.cell (p := ⟨bk, o + i * 7, none⟩) hlk).trans k0
  have hbw5 := hbW.trans (hb15.mono hbW.size)
  have hbw6 := hbw5.trans (hb6.mono hbw5.size)
  by_cases hne : (b1 != b2) = true
  · have HR : Hid (applyT t e = (8, [])) := by
      show _ = _
      rw [HR.out, if_pos hne]
    clear ho6
    generalize e.kind = ke at *
    generalize x.kind = kx at *
    cases b1 <;> cases b2 <;> first | (exact absurd hne (by decide)) | skip
    all_goals
      clear hne
      go_wp2_with fail
      try go_quiet (fail)
      go_wp2_with fail
      go_ret2
      unfold TPostP
      rw [HR.out]
      exact ⟨_, rfl, OwnEnts.nil _ _ _, below_drewN hbw6 _⟩
  · have HR : Hid (applyT t e = (0, t.set i e)) := by
      show _ = _
      rw [HR.out, if_neg hne]
    obtain ⟨vss, hvo, hva⟩ := ho6
    obtain ⟨g, cap, rfl, hcap1, hcap2⟩ := World.ownsRow.form hvo (by omega)
    have hl7 := all2_lens hva
    obtain ⟨vs, hvs⟩ : ∃ vs, vss[i]? = some vs := ⟨_, List.getElem?_eq_getElem (by rw [hva.1]; exact hil)⟩
    obtain ⟨xa', xc', ya', yc', rfl, _, _⟩ := hva.2 i _ _ hvs HX.out
    have HVO := Lib.hid hvo
    have HL7 := Lib.hid hl7
    have HVS := Lib.hid hvs
    have HVA := Lib.hid hva
    have hvi : i < vss.length := by rw [hva.1]; exact hil
    have hgB : w5.heap.size ≤ g := (World.ownsRow.lt hvo g rfl).1
    have hlw6 := Nat.lt_of_lt_of_le hlw hb16.size
    have hqu := fun q => below_drewN (Below.refl w6.heap.size w6) q
    clear hvo hl7 hvs hva
    cases b1 <;> cases b2 <;> first | (exact absurd rfl hne) | skip
    all_goals
      clear hne
      go_wp2_with fail
      try go_quiet (fail)
      have hb7 := hqu nq
      clear hqu
      generalize w6.drewN nq = w7 at *
      have cc := fun (i : Nat) (u : Value) (h : w6.cell? ⟨w.heap.size, i, none⟩ = some u) => (hb7.cell (p := ⟨w.heap.size, i, none⟩) hlw6).trans h
      have d0 := cc 0 _ d0
      have d1 := cc 1 _ d1
      have d2 := cc 2 _ d2
      have d3 := cc 3 _ d3
      have d4 := cc 4 _ d4
      have d5 := cc 5 _ d5
      have d6 := cc 6 _ d6
      clear cc
      have hvo := row_kept' HVO.out hb7
      obtain ⟨e0, e1, e2, e3, e4, e5, e6⟩ := row_elem hvo HL7.out HVS.out
      have z := fun k => row_free hvo k
      have z0 := z (i * 7)
      have z1 := z (i * 7 + 1)
      have z2 := z (i * 7 + 2)
      have z3 := z (i * 7 + 3)
      have z4 := z (i * 7 + 4)
      have z5 := z (i * 7 + 5)
      have z6 := z (i * 7 + 6)
      have hnew := set7_own (a0 := .int .i64 e.kind) (a1 := .string ⟨e.path.toArray⟩) (a2 := .slice aa e.attrs.length ac) (a3 := .string ⟨e.target.toArray⟩) (a4 := .int .i64 e.size) (a5 := .string ⟨e.digest.toArray⟩) (a6 := .slice ea e.exts.length ec) hvo HL7.out (i := i) hvi
      have HNEW := Lib.hid hnew
      have hb57 := hb6.trans (hb7.mono hb6.size)
      have HBS := Lib.hid (((((((hb57.setCell (p := ⟨g, i * 7, none⟩) hgB (.int .i64 e.kind)).setCell (p := ⟨g, i * 7 + 1, none⟩) hgB (.string ⟨e.path.toArray⟩)).setCell (p := ⟨g, i * 7 + 2, none⟩) hgB (.slice aa e.attrs.length ac)).setCell (p := ⟨g, i * 7 + 3, none⟩) hgB (.string ⟨e.target.toArray⟩)).setCell (p := ⟨g, i * 7 + 4, none⟩) hgB (.int .i64 e.size)).setCell (p := ⟨g, i * 7 + 5, none⟩) hgB (.string ⟨e.digest.toArray⟩)).setCell (p := ⟨g, i * 7 + 6, none⟩) hgB (.slice ea e.exts.length ec))
      clear hvo z hnew
      go_wp2_with fail
      go_ret2
      unfold TPostP
      rw [HR.out]
      have hbF := HBS.out
      have hown : OwnEnts P _ w5.heap.size _ (t.set i e) := ⟨_, by rw [List.length_set]; exact HNEW.out, all2_set HVA.out (HEC.out w5 hbw5) i⟩
      exact ⟨_, rfl, hown.mono' hbw5.size, hbw5.trans (hbF.mono hbw5.size)⟩
theorem tapplyP_any (P : World) (tv v : Value) (t : List Ent) (e : Ent) (w : World) (hP : Below P.heap.size P w) (ht : EntsP P w tv t) (hn : t.length ≤ 65536) (hft : FitP t) (hfe : e.path.length ≤ 16777216) (hev : EntV P v e) (hck : CheckAt v e w) :
    Calls Tryz.prog 59 #[tv, v] w (TPostP P t e w) := by
  by_cases h1 : entErr e = 0
  · by_cases h2 : creates e = false
    · exact tappP_del P tv v t e w hP ht hn hft hfe (hev.below hP) hck h1 h2
    · rw [Bool.not_eq_false] at h2
      by_cases h3 : dirErr t (Path.parentV e.path) = 0
      · cases h4 : Top.find t e.path with
        | none => exact tappP_new P tv v t e w hP ht hn hft hfe hev hck h1 h2 h3 h4
        | some i => exact tappP_set P tv v t e w hP ht hn hfe hev hck h1 h2 h3 i h4
      · exact tappP_cdir P tv v t e w hP ht hfe hev hck h1 h2 h3
  · exact tappP_err P tv v t e w (hev.below hP) hck h1
end Go.Proofs.YtbhmdcdhklgomaaGreatDoor

/-
  chunkstore.Begin, its chunks in a row of the call's own. (Written by gen_bego.py.)
-/
namespace Go.Proofs.YtbhmdcdhklgomaaGreatDoor
open Go.RowKit Top

set_option maxHeartbeats 2000000 in
set_option maxRecDepth 100000 in
theorem beginO_any (v : Value) (s : Store) (n : Int) (w : World) (hs : StoV w v s) (hn : s.chunks.length ≤ 16777216) :
    Calls Tryz.prog 57 #[v, .int .i64 n] w fun e w' => ∃ v', e = .returned (.tuple #[v', .int .i64 (Top.begin s n).2]) ∧ StoO w' w.heap.size v' (Top.begin s n).1 ∧ Below w.heap.size w w' := by
  obtain ⟨ca, cc, rfl, hfl⟩ := hs
  have HCL := Lib.hid (fun X (hX : Below w.heap.size w X) => cloneChunks_any _ s.chunks X (hfl.below hX) hn)
  obtain ⟨W, hW, hbW, hzW, hblk, d0, d1, d2⟩ := box3 w (.slice ca s.chunks.length cc) (.int .i64 s.ses) (.string ⟨s.stream.toArray⟩) 66
  have hfz := hbW.alloc hbW.size (.cells #[.slice none 0 0, .int .i64 0, .string ⟨#[]⟩] 66)
  have hz := heap_alloc_new W (.cells #[.slice none 0 0, .int .i64 0, .string ⟨#[]⟩] 66)
  have hbz := (Below.refl W.heap.size W).alloc (Nat.le_refl _) (.cells #[.slice none 0 0, .int .i64 0, .string ⟨#[]⟩] 66)
  have d0 := (hbz.cell (p := ⟨w.heap.size, 0, none⟩) hzW).trans d0
  have d1 := (hbz.cell (p := ⟨w.heap.size, 1, none⟩) hzW).trans d1
  have d2 := (hbz.cell (p := ⟨w.heap.size, 2, none⟩) hzW).trans d2
  go_enter Tryz.func57, Tryz.ntmps57
  go_upto_region 1 with (fail)
  try rw [hW]
  clear hW
  generalize W.alloc (.cells #[.slice none 0 0, .int .i64 0, .string ⟨#[]⟩] 66) = W2 at *
  have hlw2 : w.heap.size < W2.heap.size := Nat.lt_of_lt_of_le hzW hbz.size
  have hA := hfz.drew
  have hB : Below w.heap.size w (W2.alloc (.cells #[.slice none 0 0, .int .i64 0, .string ⟨#[]⟩] 66)).drew := (hfz.alloc hfz.size _).drew
  have hzB : (W2.alloc (.cells #[.slice none 0 0, .int .i64 0, .string ⟨#[]⟩] 66)).drew.heap[W2.heap.size]? = some (.cells #[.slice none 0 0, .int .i64 0, .string ⟨#[]⟩] 66 (0, 0)) := heap_alloc_new W2 _
  have hb1 := (Below.refl W2.heap.size W2).alloc (Nat.le_refl _) (.cells #[.slice none 0 0, .int .i64 0, .string ⟨#[]⟩] 66)
  have e0 : (W2.alloc (.cells #[.slice none 0 0, .int .i64 0, .string ⟨#[]⟩] 66)).drew.cell? ⟨w.heap.size, 0, none⟩ = some (.slice ca s.chunks.length cc) := (hb1.cell (p := ⟨w.heap.size, 0, none⟩) hlw2).trans d0
  have e1 : (W2.alloc (.cells #[.slice none 0 0, .int .i64 0, .string ⟨#[]⟩] 66)).drew.cell? ⟨w.heap.size, 1, none⟩ = some (.int .i64 s.ses) := (hb1.cell (p := ⟨w.heap.size, 1, none⟩) hlw2).trans d1
  have e2 : (W2.alloc (.cells #[.slice none 0 0, .int .i64 0, .string ⟨#[]⟩] 66)).drew.cell? ⟨w.heap.size, 2, none⟩ = some (.string ⟨s.stream.toArray⟩) := (hb1.cell (p := ⟨w.heap.size, 2, none⟩) hlw2).trans d2
  have hlw3 : w.heap.size < (W2.alloc (.cells #[.slice none 0 0, .int .i64 0, .string ⟨#[]⟩] 66)).drew.heap.size := Nat.lt_of_lt_of_le hlw2 hb1.size
  have hlz : W2.heap.size < (W2.alloc (.cells #[.slice none 0 0, .int .i64 0, .string ⟨#[]⟩] 66)).drew.heap.size := (Array.getElem?_eq_some_iff.1 hzB).1
  have hne : w.heap.size ≠ W2.heap.size := by omega
  clear hb1
  go_cut [6] (fun s6 wx => ∃ b, s6 = .pointer (some ⟨b, 0, none⟩) ∧ Hid (StoB W2 b wx s))
  case first =>
    go_region_held3 (fun w' => w'.cell? ⟨w.heap.size, 0, none⟩ = some (.slice ca s.chunks.length cc) ∧ w'.cell? ⟨w.heap.size, 1, none⟩ = some (.int .i64 s.ses) ∧ w'.cell? ⟨w.heap.size, 2, none⟩ = some (.string ⟨s.stream.toArray⟩))
      (first | exact ⟨d0, d1, d2⟩ | exact ⟨p0, p1, p2⟩ | exact ⟨e0, e1, e2⟩ | exact ⟨q0, q1, q2⟩ | go_keep)
      ((first | (go_at_call 90; refine (HCL.out _ hA).mono ?_; rintro e v1 ⟨cv, rfl, hcv, hv1⟩; obtain ⟨na, nc, rfl, _, _⟩ := hcv.form; have p0 := (hv1.cell (p := ⟨w.heap.size, 0, none⟩) hlw2).trans d0; have p1 := (hv1.cell (p := ⟨w.heap.size, 1, none⟩) hlw2).trans d1; have p2 := (hv1.cell (p := ⟨w.heap.size, 2, none⟩) hlw2).trans d2; have hlv : w.heap.size < v1.heap.size := Nat.lt_of_lt_of_le hlw2 hv1.size) | (go_at_call 90; refine (HCL.out _ hB).mono ?_; rintro e v1 ⟨cv, rfl, hcv, hv1⟩; obtain ⟨na, nc, rfl, _, _⟩ := hcv.form; have p0 := (hv1.cell (p := ⟨w.heap.size, 0, none⟩) hlw3).trans e0; have p1 := (hv1.cell (p := ⟨w.heap.size, 1, none⟩) hlw3).trans e1; have p2 := (hv1.cell (p := ⟨w.heap.size, 2, none⟩) hlw3).trans e2; have hzv := (hv1.block W2.heap.size hlz).trans hzB; have y0 := tcell hzv 0 _ rfl; have y1 := tcell hzv 1 _ rfl; have y2 := tcell hzv 2 _ rfl; have z0 := tfree hzv 0; have z1 := tfree hzv 1; have z2 := tfree hzv 2; have q0 := (far3 (w := v1) hne 0 1 2 (.slice na s.chunks.length nc) (.int .i64 s.ses) (.string ⟨s.stream.toArray⟩) 0).trans p0; have q1 := (far3 (w := v1) hne 0 1 2 (.slice na s.chunks.length nc) (.int .i64 s.ses) (.string ⟨s.stream.toArray⟩) 1).trans p1; have q2 := (far3 (w := v1) hne 0 1 2 (.slice na s.chunks.length nc) (.int .i64 s.ses) (.string ⟨s.stream.toArray⟩) 2).trans p2)))
    focus
      go_wp2_with fail
      go_meet
      have hv1 : Below W2.heap.size W2 v1 := ((Below.refl _ W2).drew).trans hv1
      exact ⟨v1.heap.size, rfl, na, nc, heap_alloc_new v1 _, World.ownsRow.alloc hcv _, hv1.alloc hv1.size _, hv1.size⟩
    go_wp2_with fail
    go_meet
    obtain ⟨t1, t2⟩ := set3 hzv (.slice na s.chunks.length nc) (.int .i64 s.ses) (.string ⟨s.stream.toArray⟩)
    have hs1 : W2.heap.size ≤ (W2.alloc (.cells #[.slice none 0 0, .int .i64 0, .string ⟨#[]⟩] 66)).drew.heap.size := Nat.le_of_lt hlz
    have hv2 : Below W2.heap.size W2 v1 := (((Below.refl _ W2).alloc (Nat.le_refl _) _).drew).trans (hv1.mono hs1)
    exact ⟨W2.heap.size, rfl, na, nc, t1, (hcv.far t2 hlz).mono' hs1, hv2.grown t2 hv2.size (fun k hk => by injection hk with hk; omega), Nat.le_refl _⟩
  case rest =>
    obtain ⟨b, rfl, hsb⟩ := hcut
    clear hA hB hzB e0 e1 e2 hlw3 hlz hne HCL hfl d0 d2
    obtain ⟨na, nc, hblkb, hown, hb2, hle⟩ := hsb.out
    have hlW : W.heap.size < W2.heap.size := (Array.getElem?_eq_some_iff.1 hz).1
    have hzc := (hb2.block W.heap.size hlW).trans hz
    have d1 := (hb2.cell (p := ⟨w.heap.size, 1, none⟩) hlw2).trans d1
    have hbc := hfz.trans (hb2.mono hfz.size)
    have hwW := hbW.size
    have k0 := tcell hblkb 0 _ rfl
    have k1 := tcell hblkb 1 _ rfl
    have k2 := tcell hblkb 2 _ rfl
    have g1 := tfree hblkb 1
    have g2 := tfree hblkb 2
    have y0 := tcell hzc 0 _ rfl
    have y1 := tcell hzc 1 _ rfl
    have y2 := tcell hzc 2 _ rfl
    have z0 := tfree hzc 0
    have z1 := tfree hzc 1
    have z2 := tfree hzc 2
    have hbz0 : w.heap.size ≤ W2.heap.size := by omega
    have hnb : b ≠ W.heap.size := by omega
    clear hsb hz hb2 hfz hbz hblk
    by_cases n1 : n < 1
    · have HR : Hid (Top.begin s n = (s, 2)) := by
        show _ = _
        exact if_pos (.inl n1)
      go_wp2_with fail
      try simp only [Exit.inBlock, Exit.then]
      obtain ⟨t1, t2⟩ := set3 hzc (.slice na s.chunks.length nc) (.int .i64 s.ses) (.string ⟨s.stream.toArray⟩)
      have hwb := hbc.grown t2 hbc.size (fun k hk => by injection hk; omega)
      have hfl := (hown.far t2 hlW).mono' hbz0
      refine bodyPost_ret (v := .tuple #[.agg #[.slice na s.chunks.length nc, .int .i64 s.ses, .string ⟨s.stream.toArray⟩], .int .i64 2]) ?_ ?_ ?_
      · refine results_row_tmp (p := 4) (u := 5) (ty := 66) (by kernel_rfl) _ _ W.heap.size 66 _ (0, 0) _ ?_ t1 Tryz.underlying66 (by kernel_rfl) (by kernel_rfl)
        kernel_rfl
      · kernel_rfl
      · rw [HR.out]
        exact ⟨_, rfl, ⟨na, nc, rfl, hfl⟩, hwb⟩
    by_cases n2 : 255 < n
    · have HR : Hid (Top.begin s n = (s, 2)) := by
        show _ = _
        exact if_pos (.inr n2)
      go_wp2_with fail
      try simp only [Exit.inBlock, Exit.then]
      obtain ⟨t1, t2⟩ := set3 hzc (.slice na s.chunks.length nc) (.int .i64 s.ses) (.string ⟨s.stream.toArray⟩)
      have hwb := hbc.grown t2 hbc.size (fun k hk => by injection hk; omega)
      have hfl := (hown.far t2 hlW).mono' hbz0
      refine bodyPost_ret (v := .tuple #[.agg #[.slice na s.chunks.length nc, .int .i64 s.ses, .string ⟨s.stream.toArray⟩], .int .i64 2]) ?_ ?_ ?_
      · refine results_row_tmp (p := 4) (u := 5) (ty := 66) (by kernel_rfl) _ _ W.heap.size 66 _ (0, 0) _ ?_ t1 Tryz.underlying66 (by kernel_rfl) (by kernel_rfl)
        kernel_rfl
      · kernel_rfl
      · rw [HR.out]
        exact ⟨_, rfl, ⟨na, nc, rfl, hfl⟩, hwb⟩
    by_cases n3 : n ≤ s.ses
    · have HR : Hid (Top.begin s n = (s, 14)) := by
        show _ = _
        unfold Top.begin; rw [if_neg (by omega), if_pos n3]
      go_wp2_with fail
      try simp only [Exit.inBlock, Exit.then]
      obtain ⟨t1, t2⟩ := set3 hzc (.slice na s.chunks.length nc) (.int .i64 s.ses) (.string ⟨s.stream.toArray⟩)
      have hwb := hbc.grown t2 hbc.size (fun k hk => by injection hk; omega)
      have hfl := (hown.far t2 hlW).mono' hbz0
      refine bodyPost_ret (v := .tuple #[.agg #[.slice na s.chunks.length nc, .int .i64 s.ses, .string ⟨s.stream.toArray⟩], .int .i64 14]) ?_ ?_ ?_
      · refine results_row_tmp (p := 4) (u := 5) (ty := 66) (by kernel_rfl) _ _ W.heap.size 66 _ (0, 0) _ ?_ t1 Tryz.underlying66 (by kernel_rfl) (by kernel_rfl)
        kernel_rfl
      · kernel_rfl
      · rw [HR.out]
        exact ⟨_, rfl, ⟨na, nc, rfl, hfl⟩, hwb⟩
    · have HR : Hid (Top.begin s n = (⟨s.chunks, n, []⟩, 0)) := by
        show _ = _
        unfold Top.begin
        rw [if_neg (by omega), if_neg n3]
      go_wp2_with fail
      try simp only [Exit.inBlock, Exit.then]
      have g0 : wc.grownBy ((wc.setCell ⟨b, 1, none⟩ (.int .i64 n)).setCell ⟨b, 2, none⟩ (.string ⟨#[]⟩)) (some b) := ⟨rfl, rfl, rfl, by simp, fun k _ hk => by
        have hk : k ≠ b := fun e => hk (by rw [e])
        exact (heap_setCell_other _ ⟨b, 2, none⟩ k _ hk).trans (heap_setCell_other _ ⟨b, 1, none⟩ k _ hk)⟩
      have hzd : ((wc.setCell ⟨b, 1, none⟩ (.int .i64 n)).setCell ⟨b, 2, none⟩ (.string ⟨#[]⟩)).heap[W.heap.size]? = _ := (g0.block W.heap.size (Array.getElem?_eq_some_iff.1 hzc).1 (fun e => by injection e with e; omega)).trans hzc
      have hown2 : OwnK _ W2.heap.size _ _ := World.ownsRow.kept hown g0 (hown.ne_block hblkb (by decide))
      have hbd := hbc.grown g0 hbc.size (fun k hk => by injection hk; omega)
      obtain ⟨t1, t2⟩ := set3 hzd (.slice na s.chunks.length nc) (.int .i64 n) (.string ⟨#[]⟩)
      have hwb := hbd.grown t2 hbd.size (fun k hk => by injection hk; omega)
      have hfl := (hown2.far t2 hlW).mono' hbz0
      refine bodyPost_ret (v := .tuple #[.agg #[.slice na s.chunks.length nc, .int .i64 n, .string ⟨#[]⟩], .int .i64 0]) ?_ ?_ ?_
      · refine results_row_tmp (p := 4) (u := 5) (ty := 66) (by kernel_rfl) _ _ W.heap.size 66 _ (0, 0) _ ?_ t1 Tryz.underlying66 (by kernel_rfl) (by kernel_rfl)
        kernel_rfl
      · kernel_rfl
      · rw [HR.out]
        exact ⟨_, rfl, ⟨na, nc, rfl, hfl⟩, hwb⟩
end Go.Proofs.YtbhmdcdhklgomaaGreatDoor
