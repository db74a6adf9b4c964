/-
  slices.DeleteFunc of entries whose parts are read in an elder world. (Written by gen_delp.py.)
-/
import Derived.Test.YtbhmdcdhklgomaaGreatDoorM34
namespace Go.Proofs.YtbhmdcdhklgomaaGreatDoor
open Go.RowKit Top

set_option maxHeartbeats 4000000 in
set_option maxRecDepth 100000 in
theorem delFuncP_any (F : FuncId) (hE : Enters Tryz.prog F) (cp : Value) (p : Ent → Bool) (P R : World) (hPR : Below P.heap.size P R) (v : Value) (l : List Ent) (w : World) (h : OwnEnts P w R.heap.size v l) (hb0 : Below R.heap.size R w) (hn : l.length ≤ 65536)
    (hF : ∀ X v x, x ∈ l → Below R.heap.size R X → EntV X v x → Calls Tryz.prog F #[v, cp] X fun e w' => e = .returned (.bool (p x)) ∧ Below X.heap.size X w') :
    Calls Tryz.prog 94 #[v, .func (.func F) #[] #[cp]] w fun en w' => ∃ v', en = .returned v' ∧ OwnEnts P w' R.heap.size v' (l.filter fun x => !p x) ∧ Below R.heap.size R w' := by
  have hread := h.read (hPR.trans (hb0.mono hPR.size))
  have HI := Lib.hid (idxEntF_any F hE cp p v l w hread (fun W v x hx hW hv => hF W v x hx (hb0.trans (hW.mono hb0.size)) hv))
  cases hfi : l.findIdx? p with
  | none =>
    rw [hfi] at HI
    have hfil : (l.filter fun x => !p x) = l := by
      rw [List.filter_eq_self]
      intro x hx
      rw [List.findIdx?_eq_none_iff] at hfi
      rw [hfi x hx]
      rfl
    rw [hfil]
    have hx : idxO none = -1 := rfl
    rw [hx] at HI
    have HH := Lib.hid h
    clear h hread hF hfi hfil hx
    go_enter Tryz.func94, Tryz.ntmps94
    go_wp2_with fail
    refine HI.out.mono ?_
    rintro en w' ⟨rfl, hb⟩
    go_wp2_with fail
    go_ret
    obtain ⟨vss, h1, h2⟩ := HH.out
    exact ⟨_, rfl, ⟨vss, row_kept h1 hb, h2⟩, hb0.trans (hb.mono hb0.size)⟩
  | some i0 =>
    rw [hfi] at HI
    obtain ⟨x0, hx0, hp0, hf0⟩ := filter_first hfi
    have hi0 := (List.getElem?_eq_some_iff.1 hx0).1
    obtain ⟨vss, h1, h2⟩ := h
    obtain ⟨g, cap, rfl, hgB, hgl⟩ := World.ownsRow.form h1 (by omega)
    have hshape : l.length ≤ cap ∧ cap ≤ 9223372036854775807 := by
      rcases h1.2 with ⟨e, _⟩ | ⟨g', cap', cur, e, _, _, h3, h4, _⟩
      · cases e
      · injection e with _ _ e3
        subst e3
        exact ⟨h3, by unfold maxLen at h4; omega⟩
    obtain ⟨hlc, hcm⟩ := hshape
    have hx : idxO (some i0) = (i0 : Int) := rfl
    rw [hx] at HI
    have hinv0 : DelInv P p l vss vss i0 (i0 + 1) := ⟨h2.1, all2_lens h2, by rw [hf0]; exact all2_take h2 i0, rfl⟩
    have HINV := Lib.hid hinv0
    have HROW := Lib.hid h1
    have H2 := Lib.hid h2
    have HF := Lib.hid hF
    have hEn : ∀ (args : Array Value) (w : World), (callFunc F args).run Tryz.prog w = .ok (.enter F args) w := hE
    have q1 : ((i0 : Int) == -1) = false := beq_eq_false_iff_ne.2 (by omega)
    have q2 : IntKind.i64.wrap ((i0 : Int) + 1) = (i0 : Int) + 1 := IntWalk.i64_in _ (by omega)
    clear h1 h2 hF hE hread hfi hf0 hx0 hp0 hinv0 hx
    go_enter Tryz.func94, Tryz.ntmps94
    go_wp2_with fail
    refine HI.out.mono ?_
    rintro en w' ⟨rfl, hb⟩
    have hrow1 := row_kept HROW.out hb
    have HROW1 := Lib.hid hrow1
    have hbR := hb0.trans (hb.mono hb0.size)
    clear hrow1
    go_wp2_with fail
    go_loopw [5, 6] (fun a b wr => ∃ (i j : Nat) (cur : List (List Value)), i < j ∧ j ≤ l.length ∧ a = .int .i64 i ∧ b = .int .i64 j ∧ Hid (wr.ownsRow R.heap.size 43 7 (.slice (some ⟨g, 0, none⟩) l.length cap) l.length cur.flatten) ∧ Hid (DelInv P p l vss cur i j) ∧ Below R.heap.size R wr) (fun _ b _ => l.length - (intOf b).toNat)
    case atStart => exact ⟨i0, i0 + 1, vss, by omega, by omega, rfl, by go_num, HROW1.out, HINV.out, hbR⟩
    case round =>
      obtain ⟨i, j, cur, hij, hjn, rfl, rfl, hrow, hinv, hb1⟩ := hrel
      by_cases hlt : j < l.length
      · obtain ⟨x, hx⟩ : ∃ x, l[j]? = some x := ⟨_, List.getElem?_eq_getElem hlt⟩
        have hcl := hinv.out.1
        have hlen7 := hinv.out.2.1
        obtain ⟨vs, hvs⟩ : ∃ vs, vss[j]? = some vs := ⟨_, List.getElem?_eq_getElem (by have := H2.out.1; omega)⟩
        obtain ⟨aa, ac, ea, ec, rfl, ha, he⟩ := H2.out.2 j vs x hvs hx
        have hcj := hinv.out.at_.trans hvs
        obtain ⟨c0, c1, c2, c3, c4, c5, c6⟩ := row_elem hrow.out hlen7 hcj
        obtain ⟨W, hW, hbW, hzW, d0, d1, d2, d3, d4, d5, d6⟩ := ebox wr x (.slice aa x.attrs.length ac) (.slice ea x.exts.length ec)
        have hlw : wr.heap.size < W.heap.size := by omega
        have hbRW := hb1.trans (hbW.mono hb1.size)
        have HC := Lib.hid (HF.out W _ x (List.mem_of_getElem? hx) hbRW ⟨aa, ac, ea, ec, rfl, ha.below (hPR.trans (hbRW.mono hPR.size)), he.below (hPR.trans (hbRW.mono hPR.size))⟩)
        have HX := Lib.hid hx
        have HE2 : Hid (EntC P (entL x (.slice aa x.attrs.length ac) (.slice ea x.exts.length ec)) x) := ⟨aa, ac, ea, ec, rfl, ha, he⟩
        obtain ⟨bs, hbs⟩ : ∃ bs, cur[i]? = some bs := ⟨_, List.getElem?_eq_getElem (by omega)⟩
        obtain ⟨y0, y1, y2, y3, y4, y5, y6, rfl⟩ : ∃ y0 y1 y2 y3 y4 y5 y6, bs = [y0, y1, y2, y3, y4, y5, y6] := by
          have := hlen7 bs (List.mem_of_getElem? hbs)
          match bs, this with
          | [b0, b1, b2, b3, b4, b5, b6], _ => exact ⟨_, _, _, _, _, _, _, rfl⟩
        have HBS := Lib.hid hbs
        have HL7 := Lib.hid hlen7
        have HCL := Lib.hid hcl
        obtain ⟨b, hbp⟩ : ∃ b, p x = b := ⟨_, rfl⟩
        rw [hbp] at HC
        have HP := Lib.hid hbp
        have q3 : IntKind.i64.wrap ((i : Int) + 1) = (i : Int) + 1 := IntWalk.i64_in _ (by omega)
        have q4 : IntKind.i64.wrap ((j : Int) + 1) = (j : Int) + 1 := IntWalk.i64_in _ (by omega)
        have q5 : (i : Int) < (l.length : Int) := by omega
        clear hx ha he hvs hcj hbs hlen7 hcl hbp
        go_upto_region 8 with (fail)
        try rw [hW]
        clear hW
        go_wp2_with fail
        refine HC.out.mono ?_
        rintro en w1 ⟨rfl, hbw1⟩
        have hbx := hbW.trans (hbw1.mono hbW.size)
        have hrow2 := row_kept hrow.out hbx
        have HROW2 := Lib.hid hrow2
        have hbR1 := hb1.trans (hbx.mono hb1.size)
        cases b
        · obtain ⟨e0, e1, e2, e3, e4, e5, e6⟩ := row_elem hrow2 HL7.out HBS.out
          have z := fun k => row_free hrow2 k
          have z0 := z (i * 7)
          have z1 := z (i * 7 + 1)
          have z2 := z (i * 7 + 2)
          have z3 := z (i * 7 + 3)
          have z4 := z (i * 7 + 4)
          have z5 := z (i * 7 + 5)
          have z6 := z (i * 7 + 6)
          have d0 := (hbw1.cell (p := ⟨wr.heap.size, 0, none⟩) hlw).trans d0
          have d1 := (hbw1.cell (p := ⟨wr.heap.size, 1, none⟩) hlw).trans d1
          have d2 := (hbw1.cell (p := ⟨wr.heap.size, 2, none⟩) hlw).trans d2
          have d3 := (hbw1.cell (p := ⟨wr.heap.size, 3, none⟩) hlw).trans d3
          have d4 := (hbw1.cell (p := ⟨wr.heap.size, 4, none⟩) hlw).trans d4
          have d5 := (hbw1.cell (p := ⟨wr.heap.size, 5, none⟩) hlw).trans d5
          have d6 := (hbw1.cell (p := ⟨wr.heap.size, 6, none⟩) hlw).trans d6
          clear hrow2 z c0 c1 c2 c3 c4 c5 c6
          go_wp2_with fail
          go_roundw
          case rel =>
            have hnew := set7_own (a0 := .int .i64 x.kind) (a1 := .string ⟨x.path.toArray⟩) (a2 := .slice aa x.attrs.length ac) (a3 := .string ⟨x.target.toArray⟩) (a4 := .int .i64 x.size) (a5 := .string ⟨x.digest.toArray⟩) (a6 := .slice ea x.exts.length ec) HROW2.out HL7.out (i := i) (by have := HCL.out; omega)
            exact ⟨i + 1, j + 1, _, by omega, by omega, by go_num, by go_num, hnew, hinv.out.keep hij HX.out HP.out HE2.out, (((((((hbR1.setCell (p := ⟨g, i * 7, none⟩) hgB _).setCell (p := ⟨g, i * 7 + 1, none⟩) hgB _).setCell (p := ⟨g, i * 7 + 2, none⟩) hgB _).setCell (p := ⟨g, i * 7 + 3, none⟩) hgB _).setCell (p := ⟨g, i * 7 + 4, none⟩) hgB _).setCell (p := ⟨g, i * 7 + 5, none⟩) hgB _).setCell (p := ⟨g, i * 7 + 6, none⟩) hgB _)⟩
          case measure => simp [intOf]; omega
        · clear hrow2
          go_wp2_with fail
          go_roundw
          case rel => exact ⟨i, j + 1, cur, by omega, by omega, rfl, by go_num, HROW2.out, hinv.out.skip HX.out HP.out, hbR1⟩
          case measure => simp [intOf]; omega
      · obtain rfl : j = l.length := by omega
        obtain ⟨W1, hclr, hrow3, hb3⟩ := clear_any (c := cap - i) hrow.out hinv.out.1 hinv.out.2.1 hij
        have HROW3 := Lib.hid hrow3
        have q6 : ¬ cap = i := by omega
        have q7 : (i : Int) ≤ (l.length : Int) := by omega
        have q8 : (i : Int) ≤ (cap : Int) := by omega
        have q9 : i ≤ cap := by omega
        have q10 : i ≤ l.length := by omega
        clear hrow3
        go_wp2_with fail
        go_ret
        have h3 := hinv.out.2.2.1
        rw [List.take_length] at h3
        have hli : (cur.take i).length = i := by rw [List.length_take, hinv.out.1]; omega
        refine ⟨_, rfl, ⟨cur.take i, ?_, h3⟩, hb1.trans hb3⟩
        rw [← h3.1, hli]
        exact HROW3.out
end Go.Proofs.YtbhmdcdhklgomaaGreatDoor

/-
  dirtree.Apply, its tree in a row of the call's own whose parts are read in an elder world P: errors, removals. (Written by gen_appp.py.)
-/
namespace Go.Proofs.YtbhmdcdhklgomaaGreatDoor
open Go.RowKit Top

/-- A slice of entries that is read in w, its parts in P. -/
def EntsP (P w : World) (v : Value) (l : List Ent) : Prop := ∃ ao cap vss, v = .slice ao l.length cap ∧ l.length ≤ cap ∧ cap ≤ 9223372036854775807 ∧ Raw w ao 7 vss ∧ All2 (EntC P) vss l
theorem EntsP.ents {P w : World} {v : Value} {l : List Ent} (h : EntsP P w v l) (hP : Below P.heap.size P w) : Ents w v l := by
  obtain ⟨ao, cap, vss, h1, h2, h3, h4, h5, h6⟩ := h
  exact ⟨ao, cap, vss, h1, h2, h3, h4, h5, fun j x y hx hy => (h6 j x y hx hy).below hP⟩
theorem EntsP.below {P w w' : World} {v : Value} {l : List Ent} (h : EntsP P w v l) (hb : Below w.heap.size w w') : EntsP P w' v l := by
  obtain ⟨ao, cap, vss, h1, h2, h3, h4, h5⟩ := h
  exact ⟨ao, cap, vss, h1, h2, h3, h4.below hb, h5⟩
theorem OwnEnts.nil (P w : World) (B : Nat) : OwnEnts P w B (.slice none 0 0) [] := ⟨[], World.ownsRow_nil _ _ _ _, rfl, fun j x y h => by simp at h⟩
theorem OwnEnts.mono' {P w : World} {B B' : Nat} {v : Value} {l : List Ent} (h : OwnEnts P w B v l) (hB : B' ≤ B) : OwnEnts P w B' v l := by
  obtain ⟨vss, h1, h2⟩ := h
  exact ⟨vss, World.ownsRow.mono h1 hB, h2⟩
theorem OwnEnts.entsP {P w : World} {B : Nat} {v : Value} {l : List Ent} (h : OwnEnts P w B v l) : EntsP P w v l := by
  obtain ⟨vss, h1, h2⟩ := h
  obtain ⟨ao, cap, rfl, h3, h4⟩ := row_form h1
  exact ⟨ao, cap, vss, rfl, h3, h4, Raw.of_own (E := 43) (B := B) (n := l.length) (cap := cap) (by rw [h2.1]; exact h1) (all2_lens h2), h2⟩
theorem cloneEntsP (P : World) (tv : Value) (t : List Ent) (w0 w : World) (ht : EntsP P w0 tv t) (h0 : Below w0.heap.size w0 w) (hn : t.length ≤ 65536) :
    Calls Tryz.prog 62 #[tv] w fun en w' => ∃ v, en = .returned v ∧ OwnEnts P w' w.heap.size v t ∧ Below w.heap.size w w' := by
  obtain ⟨ao, cap, vss, rfl, h2, h3, h4, h5⟩ := ht
  refine (clone_ent ao t.length cap vss w (h4.below h0) h5.1.symm (all2_ones h5) hn).mono ?_
  rintro en w' ⟨v, rfl, ho, hb⟩
  exact ⟨v, rfl, ⟨vss, ho, h5⟩, hb⟩
def TPostP (P : World) (t : List Ent) (e : Ent) (w : World) (en : Ending) (w' : World) : Prop := ∃ v, en = .returned (.tuple #[v, .int .i64 (applyT t e).1]) ∧ OwnEnts P w' w.heap.size v (applyT t e).2 ∧ Below w.heap.size w w'

set_option maxHeartbeats 4000000 in
set_option maxRecDepth 100000 in
theorem tappP_err (P : World) (tv v : Value) (t : List Ent) (e : Ent) (w : World) (hev : EntV w v e) (hck : CheckAt v e w) (herr : entErr e ≠ 0) :
    Calls Tryz.prog 59 #[tv, v] w (TPostP P t e w) := by
  obtain ⟨aa, ac, ea, ec, rfl, _, _⟩ := hev
  obtain ⟨W, hW, hbW, hzW, d0, d1, d2, d3, d4, d5, d6⟩ := ebox w e (.slice aa e.attrs.length ac) (.slice ea e.exts.length ec)
  have HC := Lib.hid (hck W hbW)
  have hr : applyT t e = (entErr e, []) := by unfold applyT; rw [if_pos herr]
  have HR := Lib.hid hr
  have e0 : (entErr e != 0) = true := bne_iff_ne.2 herr
  generalize entErr e = z at *
  clear hck hr herr
  go_enter Tryz.func59, Tryz.ntmps59
  go_wp2_with fail
  refine HC.out.mono ?_
  rintro en w1 ⟨rfl, hb1⟩
  go_wp2_with fail
  go_ret2
  unfold TPostP
  rw [HR.out]
  exact ⟨_, rfl, OwnEnts.nil _ _ _, hbW.trans (hb1.mono hbW.size)⟩
set_option maxHeartbeats 4000000 in
set_option maxRecDepth 100000 in
theorem tappP_del (P : World) (tv v : Value) (t : List Ent) (e : Ent) (w : World) (hP : Below P.heap.size P w) (htP : EntsP P w tv t) (hn : t.length ≤ 65536) (hft : FitP t) (hfe : e.path.length ≤ 16777216) (hev : EntV w v e) (hck : CheckAt v e w) (herr : entErr e = 0) (hcr : creates e = false) :
    Calls Tryz.prog 59 #[tv, v] w (TPostP P t e w) := by
  obtain ⟨aa, ac, ea, ec, rfl, _, _⟩ := hev
  obtain ⟨W, hW, hbW, hzW, d0, d1, d2, d3, d4, d5, d6⟩ := ebox w e (.slice aa e.attrs.length ac) (.slice ea e.exts.length ec)
  have hlw : w.heap.size < W.heap.size := by omega
  have HC := Lib.hid (hck W hbW)
  rw [herr] at HC
  have ht := htP.ents hP
  have HFD := Lib.hid (fun X (hX : Below W.heap.size W X) => find_any tv t e.path X ((ht.below hbW).below hX))
  have HIT := Lib.hid (fun X => inTree_any e.kind X)
  have hct : (e.kind == 1 || e.kind == 2 || e.kind == 3) = false := hcr
  rw [hct] at HIT
  have hp : ((⟨e.path.toArray⟩ : ByteArray).toList == []) = decide (e.path = []) := by
    rw [Lib.toList_data]
    cases e.path <;> rfl
  by_cases hno : Top.find t e.path = none ∧ e.path ≠ []
  · have hr : applyT t e = (9, []) := by unfold applyT; rw [if_neg (by rw [herr]; decide), if_pos hcr, if_pos hno]
    have HR := Lib.hid hr
    have hix : idxI t e.path = -1 := by unfold idxI; rw [hno.1]
    rw [hix] at HFD
    rw [decide_eq_false hno.2] at hp
    clear ht hn hft hfe hck herr hcr hct hno hr hix
    generalize (⟨e.path.toArray⟩ : ByteArray) = U at *
    go_enter Tryz.func59, Tryz.ntmps59
    go_wp2_with fail
    refine HC.out.mono ?_
    rintro en w1 ⟨rfl, hb1⟩
    have d0 := (hb1.cell (p := ⟨w.heap.size, 0, none⟩) hlw).trans d0
    have d1 := (hb1.cell (p := ⟨w.heap.size, 1, none⟩) hlw).trans d1
    have HF := Lib.hid (HFD.out w1 hb1)
    have hlw1 := Nat.lt_of_lt_of_le hlw hb1.size
    go_wp2_with fail
    refine HF.out.mono ?_
    rintro en w2 ⟨rfl, hb2⟩
    have d0 := (hb2.cell (p := ⟨w.heap.size, 0, none⟩) hlw1).trans d0
    have d1 := (hb2.cell (p := ⟨w.heap.size, 1, none⟩) hlw1).trans d1
    go_wp2_with fail
    refine (HIT.out _).mono ?_
    rintro en w3 ⟨rfl, rfl⟩
    go_wp2_with fail
    go_ret2
    unfold TPostP
    rw [HR.out]
    exact ⟨_, rfl, OwnEnts.nil _ _ _, hbW.trans ((hb1.trans (hb2.mono hb1.size)).mono hbW.size)⟩
  · have hr : applyT t e = (0, t.filter fun x => !removed e x) := by unfold applyT; rw [if_neg (by rw [herr]; decide), if_pos hcr, if_neg hno]
    have HR := Lib.hid hr
    have HCL := Lib.hid (fun X (hX : Below W.heap.size W X) => cloneEntsP P tv t w X htP (hbW.trans (hX.mono hbW.size)) hn)
    have HDL := Lib.hid (fun (R X : World) (hR : Below W.heap.size W R) (hX : Below R.heap.size R X) (vv : Value) (ho : OwnEnts P X R.heap.size vv t) =>
      delFuncP_any 93 (enters_of Tryz.func93 (by kernel_rfl) rfl) (.pointer (some ⟨w.heap.size, 0, none⟩)) (removed e) P R (hP.trans ((hbW.trans (hR.mono hbW.size)).mono hP.size)) vv t X ho hX hn
        (fun Y u x hx hY hu => remc_any u e x w.heap.size Y hu ((hY.cell (p := ⟨w.heap.size, 0, none⟩) (Nat.lt_of_lt_of_le hlw hR.size)).trans ((hR.cell (p := ⟨w.heap.size, 0, none⟩) hlw).trans d0)) ((hY.cell (p := ⟨w.heap.size, 1, none⟩) (Nat.lt_of_lt_of_le hlw hR.size)).trans ((hR.cell (p := ⟨w.heap.size, 1, none⟩) hlw).trans d1)) (hft x hx) hfe))
    obtain ⟨ix, hix⟩ : ∃ ix, idxI t e.path = ix := ⟨_, rfl⟩
    rw [hix] at HFD
    have hcase : 0 ≤ ix ∨ (ix < 0 ∧ decide (e.path = []) = true) := by
      rw [← hix]
      unfold idxI
      cases hf : Top.find t e.path with
      | none => exact .inr ⟨by decide, decide_eq_true (Classical.byContradiction fun h => hno ⟨hf, h⟩)⟩
      | some i => exact .inl (by show 0 ≤ (i : Int); omega)
    rw [← hp] at hcase
    clear ht hn hft hfe hck herr hcr hct hno hr hix hp
    generalize (⟨e.path.toArray⟩ : ByteArray) = U at *
    rcases hcase with h0 | ⟨h0, h1⟩
    · have h0' : ¬ ix < 0 := by omega
      go_enter Tryz.func59, Tryz.ntmps59
      go_wp2_with fail
      refine HC.out.mono ?_
      rintro en w1 ⟨rfl, hb1⟩
      have d0 := (hb1.cell (p := ⟨w.heap.size, 0, none⟩) hlw).trans d0
      have d1 := (hb1.cell (p := ⟨w.heap.size, 1, none⟩) hlw).trans d1
      have HF := Lib.hid (HFD.out w1 hb1)
      have hlw1 := Nat.lt_of_lt_of_le hlw hb1.size
      go_wp2_with fail
      refine HF.out.mono ?_
      rintro en w2 ⟨rfl, hb2⟩
      have d0 := (hb2.cell (p := ⟨w.heap.size, 0, none⟩) hlw1).trans d0
      have d1 := (hb2.cell (p := ⟨w.heap.size, 1, none⟩) hlw1).trans d1
      have hb12 := hb1.trans (hb2.mono hb1.size)
      have HCX := Lib.hid (HCL.out w2 hb12)
      go_wp2_with fail
      refine (HIT.out _).mono ?_
      rintro en w3 ⟨rfl, rfl⟩
      go_wp2_with fail
      refine HCX.out.mono ?_
      rintro en w4 ⟨v4, rfl, ho4, hb4⟩
      have HDX := Lib.hid (HDL.out _ w4 hb12 hb4 v4 ho4)
      go_wp2_with fail
      refine HDX.out.mono ?_
      rintro en w5 ⟨v5, rfl, ho5, hb5⟩
      go_wp2_with fail
      go_ret2
      unfold TPostP
      rw [HR.out]
      exact ⟨_, rfl, ho5.mono' (by have := hbW.size; have := hb12.size; omega), hbW.trans ((hb12.trans (hb5.mono hb12.size)).mono hbW.size)⟩
    · go_enter Tryz.func59, Tryz.ntmps59
      go_wp2_with fail
      refine HC.out.mono ?_
      rintro en w1 ⟨rfl, hb1⟩
      have d0 := (hb1.cell (p := ⟨w.heap.size, 0, none⟩) hlw).trans d0
      have d1 := (hb1.cell (p := ⟨w.heap.size, 1, none⟩) hlw).trans d1
      have HF := Lib.hid (HFD.out w1 hb1)
      have hlw1 := Nat.lt_of_lt_of_le hlw hb1.size
      go_wp2_with fail
      refine HF.out.mono ?_
      rintro en w2 ⟨rfl, hb2⟩
      have d0 := (hb2.cell (p := ⟨w.heap.size, 0, none⟩) hlw1).trans d0
      have d1 := (hb2.cell (p := ⟨w.heap.size, 1, none⟩) hlw1).trans d1
      have hb12 := hb1.trans (hb2.mono hb1.size)
      have HCX := Lib.hid (HCL.out w2 hb12)
      go_wp2_with fail
      refine (HIT.out _).mono ?_
      rintro en w3 ⟨rfl, rfl⟩
      go_wp2_with fail
      refine HCX.out.mono ?_
      rintro en w4 ⟨v4, rfl, ho4, hb4⟩
      have HDX := Lib.hid (HDL.out _ w4 hb12 hb4 v4 ho4)
      go_wp2_with fail
      refine HDX.out.mono ?_
      rintro en w5 ⟨v5, rfl, ho5, hb5⟩
      go_wp2_with fail
      go_ret2
      unfold TPostP
      rw [HR.out]
      exact ⟨_, rfl, ho5.mono' (by have := hbW.size; have := hb12.size; omega), hbW.trans ((hb12.trans (hb5.mono hb12.size)).mono hbW.size)⟩
end Go.Proofs.YtbhmdcdhklgomaaGreatDoor
