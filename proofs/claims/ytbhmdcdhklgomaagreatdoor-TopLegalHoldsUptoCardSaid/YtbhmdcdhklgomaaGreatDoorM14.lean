/-
  dirtree.Apply: an entry that makes no node.
-/
import Derived.Test.YtbhmdcdhklgomaaGreatDoorM13
import Derived.Test.YtbhmdcdhklgomaaGreatDoorM07
import Derived.BigQuiet
namespace Go.Proofs.YtbhmdcdhklgomaaGreatDoor
open Go.RowKit Top

set_option maxHeartbeats 2000000 in
set_option maxRecDepth 100000 in
theorem remc_any (v : Value) (e x : Ent) (eb : Nat) (w : World) (hv : EntV w v x) (h0 : w.cell? ⟨eb, 0, none⟩ = some (.int .i64 e.kind)) (h1 : w.cell? ⟨eb, 1, none⟩ = some (.string ⟨e.path.toArray⟩)) (hx : x.path.length ≤ 16777216) (he : e.path.length ≤ 16777216) :
    Calls Tryz.prog 93 #[v, .pointer (some ⟨eb, 0, none⟩)] w fun en w' => en = .returned (.bool (removed e x)) ∧ Below w.heap.size w w' := by
  obtain ⟨aa, ac, ea, ec, rfl, _, _⟩ := hv
  obtain ⟨W, hW, hbW, hzW, d0, d1, d2, d3, d4, d5, d6⟩ := ebox w x (.slice aa x.attrs.length ac) (.slice ea x.exts.length ec)
  have h0 := (hbW.cell (p := ⟨eb, 0, none⟩) (World.block_lt_of_cell? _ _ h0)).trans h0
  have h1 := (hbW.cell (p := ⟨eb, 1, none⟩) (World.block_lt_of_cell? _ _ h1)).trans h1
  have HC := Lib.hid (fun X => under_l x.path e.path X hx he)
  have hr : removed e x = (e.kind == 4 && Path.under x.path e.path) := rfl
  rw [hr]
  clear hr hx he
  generalize (⟨x.path.toArray⟩ : ByteArray) = U at *
  generalize (⟨e.path.toArray⟩ : ByteArray) = V at *
  by_cases h4 : e.kind = 4
  · rw [h4] at h0 ⊢
    clear h4
    go_enter Tryz.func93, Tryz.ntmps93
    go_wp2_with fail
    refine (HC.out _).mono ?_
    rintro en w' ⟨rfl, hb⟩
    go_wp2_with fail
    go_ret
    exact ⟨rfl, hbW.trans (hb.mono hbW.size)⟩
  · have e4 : (e.kind == 4) = false := beq_eq_false_iff_ne.2 h4
    rw [e4]
    clear h4
    go_enter Tryz.func93, Tryz.ntmps93
    go_wp2_with fail
    go_ret
    exact ⟨rfl, hbW⟩
def FitP (t : List Ent) : Prop := ∀ x ∈ t, x.path.length ≤ 16777216
def TPost (t : List Ent) (e : Ent) (w : World) (en : Ending) (w' : World) : Prop := ∃ v, en = .returned (.tuple #[v, .int .i64 (applyT t e).1]) ∧ Ents w' v (applyT t e).2 ∧ Below w.heap.size w w'
/-- What is asked of entry.Check. -/
def CheckAt (v : Value) (e : Ent) (w : World) : Prop := ∀ X, Below w.heap.size w X → Calls Tryz.prog 85 #[v] X fun en w' => en = .returned (.int .i64 (entErr e)) ∧ Below X.heap.size X w'

set_option maxHeartbeats 4000000 in
set_option maxRecDepth 100000 in
theorem tapp_err (tv v : Value) (t : List Ent) (e : Ent) (w : World) (hev : EntV w v e) (hck : CheckAt v e w) (herr : entErr e ≠ 0) :
    Calls Tryz.prog 59 #[tv, v] w (TPost t e w) := by
  obtain ⟨aa, ac, ea, ec, rfl, _, _⟩ := hev
  obtain ⟨W, hW, hbW, hzW, d0, d1, d2, d3, d4, d5, d6⟩ := ebox w e (.slice aa e.attrs.length ac) (.slice ea e.exts.length ec)
  have HC := Lib.hid (hck W hbW)
  have hr : applyT t e = (entErr e, []) := by unfold applyT; rw [if_pos herr]
  have HR := Lib.hid hr
  have e0 : (entErr e != 0) = true := bne_iff_ne.2 herr
  generalize entErr e = z at *
  clear hck hr herr
  go_enter Tryz.func59, Tryz.ntmps59
  go_wp2_with fail
  refine HC.out.mono ?_
  rintro en w1 ⟨rfl, hb1⟩
  go_wp2_with fail
  go_ret2
  unfold TPost
  rw [HR.out]
  exact ⟨_, rfl, Ents.nil _, hbW.trans (hb1.mono hbW.size)⟩
set_option maxHeartbeats 4000000 in
set_option maxRecDepth 100000 in
theorem tapp_del (tv v : Value) (t : List Ent) (e : Ent) (w : World) (ht : Ents w tv t) (hn : t.length ≤ 65536) (hft : FitP t) (hfe : e.path.length ≤ 16777216) (hev : EntV w v e) (hck : CheckAt v e w) (herr : entErr e = 0) (hcr : creates e = false) :
    Calls Tryz.prog 59 #[tv, v] w (TPost t e w) := by
  obtain ⟨aa, ac, ea, ec, rfl, _, _⟩ := hev
  obtain ⟨W, hW, hbW, hzW, d0, d1, d2, d3, d4, d5, d6⟩ := ebox w e (.slice aa e.attrs.length ac) (.slice ea e.exts.length ec)
  have hlw : w.heap.size < W.heap.size := by omega
  have HC := Lib.hid (hck W hbW)
  rw [herr] at HC
  have HFD := Lib.hid (fun X (hX : Below W.heap.size W X) => find_any tv t e.path X ((ht.below hbW).below hX))
  have HIT := Lib.hid (fun X => inTree_any e.kind X)
  have hct : (e.kind == 1 || e.kind == 2 || e.kind == 3) = false := hcr
  rw [hct] at HIT
  have hp : ((⟨e.path.toArray⟩ : ByteArray).toList == []) = decide (e.path = []) := by
    rw [Lib.toList_data]
    cases e.path <;> rfl
  by_cases hno : Top.find t e.path = none ∧ e.path ≠ []
  · have hr : applyT t e = (9, []) := by unfold applyT; rw [if_neg (by rw [herr]; decide), if_pos hcr, if_pos hno]
    have HR := Lib.hid hr
    have hix : idxI t e.path = -1 := by unfold idxI; rw [hno.1]
    rw [hix] at HFD
    rw [decide_eq_false hno.2] at hp
    clear ht hn hft hfe hck herr hcr hct hno hr hix
    generalize (⟨e.path.toArray⟩ : ByteArray) = U at *
    go_enter Tryz.func59, Tryz.ntmps59
    go_wp2_with fail
    refine HC.out.mono ?_
    rintro en w1 ⟨rfl, hb1⟩
    have d0 := (hb1.cell (p := ⟨w.heap.size, 0, none⟩) hlw).trans d0
    have d1 := (hb1.cell (p := ⟨w.heap.size, 1, none⟩) hlw).trans d1
    have HF := Lib.hid (HFD.out w1 hb1)
    have hlw1 := Nat.lt_of_lt_of_le hlw hb1.size
    go_wp2_with fail
    refine HF.out.mono ?_
    rintro en w2 ⟨rfl, hb2⟩
    have d0 := (hb2.cell (p := ⟨w.heap.size, 0, none⟩) hlw1).trans d0
    have d1 := (hb2.cell (p := ⟨w.heap.size, 1, none⟩) hlw1).trans d1
    go_wp2_with fail
    refine (HIT.out _).mono ?_
    rintro en w3 ⟨rfl, rfl⟩
    go_wp2_with fail
    go_ret2
    unfold TPost
    rw [HR.out]
    exact ⟨_, rfl, Ents.nil _, hbW.trans ((hb1.trans (hb2.mono hb1.size)).mono hbW.size)⟩
  · have hr : applyT t e = (0, t.filter fun x => !removed e x) := by unfold applyT; rw [if_neg (by rw [herr]; decide), if_pos hcr, if_neg hno]
    have HR := Lib.hid hr
    have htW := ht.below hbW
    have HCL := Lib.hid (fun X (hX : Below W.heap.size W X) => cloneEnts_any tv t X (htW.below hX) hn)
    have HDL := Lib.hid (fun (R X : World) (hR : Below W.heap.size W R) (hX : Below R.heap.size R X) (vv : Value) (ho : OwnEnts R X R.heap.size vv t) =>
      delFunc_any 93 (enters_of Tryz.func93 (by kernel_rfl) rfl) (.pointer (some ⟨w.heap.size, 0, none⟩)) (removed e) R vv t X ho hX hn
        (fun Y u x hx hY hu => remc_any u e x w.heap.size Y hu ((hY.cell (p := ⟨w.heap.size, 0, none⟩) (Nat.lt_of_lt_of_le hlw hR.size)).trans ((hR.cell (p := ⟨w.heap.size, 0, none⟩) hlw).trans d0)) ((hY.cell (p := ⟨w.heap.size, 1, none⟩) (Nat.lt_of_lt_of_le hlw hR.size)).trans ((hR.cell (p := ⟨w.heap.size, 1, none⟩) hlw).trans d1)) (hft x hx) hfe))
    obtain ⟨ix, hix⟩ : ∃ ix, idxI t e.path = ix := ⟨_, rfl⟩
    rw [hix] at HFD
    have hcase : 0 ≤ ix ∨ (ix < 0 ∧ decide (e.path = []) = true) := by
      rw [← hix]
      unfold idxI
      cases hf : Top.find t e.path with
      | none => exact .inr ⟨by decide, decide_eq_true (Classical.byContradiction fun h => hno ⟨hf, h⟩)⟩
      | some i => exact .inl (by show 0 ≤ (i : Int); omega)
    rw [← hp] at hcase
    clear ht hn hft hfe hck herr hcr hct hno hr hix hp htW
    generalize (⟨e.path.toArray⟩ : ByteArray) = U at *
    rcases hcase with h0 | ⟨h0, h1⟩
    · have h0' : ¬ ix < 0 := by omega
      go_enter Tryz.func59, Tryz.ntmps59
      go_wp2_with fail
      refine HC.out.mono ?_
      rintro en w1 ⟨rfl, hb1⟩
      have d0 := (hb1.cell (p := ⟨w.heap.size, 0, none⟩) hlw).trans d0
      have d1 := (hb1.cell (p := ⟨w.heap.size, 1, none⟩) hlw).trans d1
      have HF := Lib.hid (HFD.out w1 hb1)
      have hlw1 := Nat.lt_of_lt_of_le hlw hb1.size
      go_wp2_with fail
      refine HF.out.mono ?_
      rintro en w2 ⟨rfl, hb2⟩
      have d0 := (hb2.cell (p := ⟨w.heap.size, 0, none⟩) hlw1).trans d0
      have d1 := (hb2.cell (p := ⟨w.heap.size, 1, none⟩) hlw1).trans d1
      have hb12 := hb1.trans (hb2.mono hb1.size)
      have HCX := Lib.hid (HCL.out w2 hb12)
      go_wp2_with fail
      refine (HIT.out _).mono ?_
      rintro en w3 ⟨rfl, rfl⟩
      go_wp2_with fail
      refine HCX.out.mono ?_
      rintro en w4 ⟨v4, rfl, ho4, hb4⟩
      have HDX := Lib.hid (HDL.out _ w4 hb12 hb4 v4 ho4)
      go_wp2_with fail
      refine HDX.out.mono ?_
      rintro en w5 ⟨v5, rfl, ho5, hb5⟩
      go_wp2_with fail
      go_ret2
      unfold TPost
      rw [HR.out]
      exact ⟨_, rfl, ho5.read hb5, hbW.trans ((hb12.trans (hb5.mono hb12.size)).mono hbW.size)⟩
    · go_enter Tryz.func59, Tryz.ntmps59
      go_wp2_with fail
      refine HC.out.mono ?_
      rintro en w1 ⟨rfl, hb1⟩
      have d0 := (hb1.cell (p := ⟨w.heap.size, 0, none⟩) hlw).trans d0
      have d1 := (hb1.cell (p := ⟨w.heap.size, 1, none⟩) hlw).trans d1
      have HF := Lib.hid (HFD.out w1 hb1)
      have hlw1 := Nat.lt_of_lt_of_le hlw hb1.size
      go_wp2_with fail
      refine HF.out.mono ?_
      rintro en w2 ⟨rfl, hb2⟩
      have d0 := (hb2.cell (p := ⟨w.heap.size, 0, none⟩) hlw1).trans d0
      have d1 := (hb2.cell (p := ⟨w.heap.size, 1, none⟩) hlw1).trans d1
      have hb12 := hb1.trans (hb2.mono hb1.size)
      have HCX := Lib.hid (HCL.out w2 hb12)
      go_wp2_with fail
      refine (HIT.out _).mono ?_
      rintro en w3 ⟨rfl, rfl⟩
      go_wp2_with fail
      refine HCX.out.mono ?_
      rintro en w4 ⟨v4, rfl, ho4, hb4⟩
      have HDX := Lib.hid (HDL.out _ w4 hb12 hb4 v4 ho4)
      go_wp2_with fail
      refine HDX.out.mono ?_
      rintro en w5 ⟨v5, rfl, ho5, hb5⟩
      go_wp2_with fail
      go_ret2
      unfold TPost
      rw [HR.out]
      exact ⟨_, rfl, ho5.read hb5, hbW.trans ((hb12.trans (hb5.mono hb12.size)).mono hbW.size)⟩
end Go.Proofs.YtbhmdcdhklgomaaGreatDoor

/-
  dirtree.Apply, plain facts: where the new node goes, and what is put there.
-/
namespace Go.Proofs.YtbhmdcdhklgomaaGreatDoor
open Go.RowKit Top

theorem all2_ins {α β : Type} {R : α → β → Prop} {xs : List α} {ys : List β} (h : All2 R xs ys) {a : α} {b : β} (hab : R a b) (i : Nat) : All2 R (xs.take i ++ a :: xs.drop i) (ys.take i ++ b :: ys.drop i) := by
  have hl := h.1
  refine ⟨by simp [hl], fun j x y hx hy => ?_⟩
  have hm : (xs.take i).length = (ys.take i).length := by simp [hl]
  rw [List.getElem?_append] at hx hy
  rw [← hm] at hy
  by_cases hj : j < (xs.take i).length
  · rw [if_pos hj] at hx hy
    have hji : j < i := by rw [List.length_take] at hj; omega
    rw [List.getElem?_take_of_lt hji] at hx hy
    exact h.2 j x y hx hy
  · rw [if_neg hj] at hx hy
    generalize j - (xs.take i).length = k at hx hy
    cases k with
    | zero =>
      rw [List.getElem?_cons_zero] at hx hy
      injection hx with hx
      injection hy with hy
      rw [← hx, ← hy]
      exact hab
    | succ k =>
      rw [List.getElem?_cons_succ, List.getElem?_drop] at hx hy
      exact h.2 _ x y hx hy
theorem all2_set {α β : Type} {R : α → β → Prop} {xs : List α} {ys : List β} (h : All2 R xs ys) {a : α} {b : β} (hab : R a b) (i : Nat) : All2 R (xs.set i a) (ys.set i b) := by
  refine ⟨by simp [h.1], fun j x y hx hy => ?_⟩
  rw [List.getElem?_set] at hx hy
  by_cases hj : i = j
  · rw [if_pos hj] at hx hy
    have hx1 : j < xs.length := by
      by_cases hh : i < xs.length
      · omega
      · rw [if_neg hh] at hx
        cases hx
    have hy1 : j < ys.length := by rw [← h.1]; exact hx1
    rw [if_pos (by omega)] at hx
    rw [if_pos (by omega)] at hy
    injection hx with hx
    injection hy with hy
    rw [← hx, ← hy]
    exact hab
  · rw [if_neg hj] at hx hy
    exact h.2 j x y hx hy
theorem bsF_le (lt : Nat → Bool) : ∀ (f i j : Nat), i ≤ j → bsF lt f i j ≤ j
  | 0, i, j, h => h
  | f + 1, i, j, h => by
    rw [bsF_succ]
    by_cases hij : i < j
    · rw [if_pos hij]
      by_cases hl : lt ((i + j) / 2) = true
      · rw [if_pos hl]
        exact bsF_le lt f _ j (by omega)
      · rw [if_neg hl]
        exact Nat.le_trans (bsF_le lt f i ((i + j) / 2) (by omega)) (by omega)
    · rw [if_neg hij]
      exact h
theorem place_le (t : List Ent) (p : Bs) : place t p ≤ t.length := bsF_le _ _ 0 _ (Nat.zero_le _)
theorem OwnEnts.ins {R w : World} {B : Nat} {v : Value} {t : List Ent} {vss : List (List Value)} {x : List Value} {e : Ent} (h2 : All2 (EntC R) vss t) (hx : EntC R x e) (i : Nat) (hi : i ≤ t.length)
    (h : w.ownsRow B 43 7 v (t.length + 1) (vss.flatten.take (i * 7) ++ (x ++ vss.flatten.drop (i * 7)))) : OwnEnts R w B v (insAt t i e) := by
  refine ⟨vss.take i ++ x :: vss.drop i, ?_, all2_ins h2 hx i⟩
  have hl : (insAt t i e).length = t.length + 1 := by
    unfold insAt
    simp
    omega
  rw [hl, List.flatten_append, List.flatten_cons, flatten_take 7 vss i (all2_lens h2), flatten_drop 7 vss i (all2_lens h2)]
  exact h
theorem row_kept' {w w' : World} {B : Nat} {E : TypeId} {k n : Nat} {v : Value} {xs : List Value} (h : w.ownsRow B E k v n xs) (hb : Below w.heap.size w w') : w'.ownsRow B E k v n xs := by
  have hg : w.grownBy w' none := ⟨hb.os, hb.tape, hb.output, hb.size, fun k hk _ => hb.block k hk⟩
  refine World.ownsRow.kept h hg ?_
  cases hv : v.ownBlock
  · exact .inl rfl
  · exact .inr (by simp)
theorem flat_ones {R : World} {vss : List (List Value)} {t : List Ent} (h2 : All2 (EntC R) vss t) : ∀ u ∈ vss.flatten, u.oneCell' = true := fun u hu => by
  obtain ⟨x, hx, hux⟩ := List.mem_flatten.1 hu
  exact all2_ones h2 x hx u hux
end Go.Proofs.YtbhmdcdhklgomaaGreatDoor

/-
  dirtree.Apply: a node made where none is.
-/
namespace Go.Proofs.YtbhmdcdhklgomaaGreatDoor
open Go.RowKit Top

set_option maxHeartbeats 4000000 in
set_option maxRecDepth 100000 in
theorem tapp_cdir (tv v : Value) (t : List Ent) (e : Ent) (w : World) (ht : Ents w tv t) (hfe : e.path.length ≤ 16777216) (hev : EntV w v e) (hck : CheckAt v e w) (herr : entErr e = 0) (hcr : creates e = true) (hd : dirErr t (Path.parentV e.path) ≠ 0) :
    Calls Tryz.prog 59 #[tv, v] w (TPost t e w) := by
  obtain ⟨aa, ac, ea, ec, rfl, _, _⟩ := hev
  obtain ⟨W, hW, hbW, hzW, d0, d1, d2, d3, d4, d5, d6⟩ := ebox w e (.slice aa e.attrs.length ac) (.slice ea e.exts.length ec)
  have hlw : w.heap.size < W.heap.size := by omega
  have HC := Lib.hid (hck W hbW)
  rw [herr] at HC
  have HFD := Lib.hid (fun X (hX : Below W.heap.size W X) => find_any tv t e.path X ((ht.below hbW).below hX))
  have HIT := Lib.hid (fun X => inTree_any e.kind X)
  have hct : (e.kind == 1 || e.kind == 2 || e.kind == 3) = true := hcr
  rw [hct] at HIT
  have hpv : (Path.parentV (⟨e.path.toArray⟩ : ByteArray).data.toList) = Path.parentV e.path := rfl
  have HPA := Lib.hid (fun X => parent_any ⟨e.path.toArray⟩ X (by show e.path.length < _; omega))
  rw [hpv] at HPA
  have HDI := Lib.hid (fun X (hX : Below W.heap.size W X) => directory_any tv t (Path.parentV e.path) X ((ht.below hbW).below hX))
  have hr : applyT t e = (dirErr t (Path.parentV e.path), []) := by unfold applyT; rw [if_neg (by rw [herr]; decide), if_neg (by rw [hcr]; decide), if_pos hd]
  have HR := Lib.hid hr
  have e0 : (dirErr t (Path.parentV e.path) != 0) = true := bne_iff_ne.2 hd
  generalize dirErr t (Path.parentV e.path) = z at *
  clear ht hfe hck herr hcr hct hr hpv hd
  generalize Path.parentV e.path = PV at *
  generalize Path.parentE (⟨e.path.toArray⟩ : ByteArray).data.toList = PE at *
  generalize (⟨PV.toArray⟩ : ByteArray) = PU at *
  generalize (⟨e.path.toArray⟩ : ByteArray) = U at *
  go_enter Tryz.func59, Tryz.ntmps59
  go_wp2_with fail
  refine HC.out.mono ?_
  rintro en w1 ⟨rfl, hb1⟩
  have d0 := (hb1.cell (p := ⟨w.heap.size, 0, none⟩) hlw).trans d0
  have d1 := (hb1.cell (p := ⟨w.heap.size, 1, none⟩) hlw).trans d1
  have HF := Lib.hid (HFD.out w1 hb1)
  have hlw1 := Nat.lt_of_lt_of_le hlw hb1.size
  go_wp2_with fail
  refine HF.out.mono ?_
  rintro en w2 ⟨rfl, hb2⟩
  have d0 := (hb2.cell (p := ⟨w.heap.size, 0, none⟩) hlw1).trans d0
  have d1 := (hb2.cell (p := ⟨w.heap.size, 1, none⟩) hlw1).trans d1
  have hb12 := hb1.trans (hb2.mono hb1.size)
  go_wp2_with fail
  refine (HIT.out _).mono ?_
  rintro en w3 ⟨rfl, rfl⟩
  go_wp2_with fail
  refine (HPA.out _).mono ?_
  rintro en w4 ⟨rfl, hb4⟩
  have hb14 := hb12.trans (hb4.mono hb12.size)
  have HDX := Lib.hid (HDI.out w4 hb14)
  go_wp2_with fail
  refine HDX.out.mono ?_
  rintro en w5 ⟨rfl, hb5⟩
  go_wp2_with fail
  go_ret2
  unfold TPost
  rw [HR.out]
  exact ⟨_, rfl, Ents.nil _, hbW.trans ((hb14.trans (hb5.mono hb14.size)).mono hbW.size)⟩

set_option maxHeartbeats 4000000 in
set_option maxRecDepth 100000 in
theorem tapp_new (tv v : Value) (t : List Ent) (e : Ent) (w : World) (ht : Ents w tv t) (hn : t.length ≤ 65536) (hft : FitP t) (hfe : e.path.length ≤ 16777216) (hev : EntV w v e) (hck : CheckAt v e w) (herr : entErr e = 0) (hcr : creates e = true) (hd : dirErr t (Path.parentV e.path) = 0) (hno : Top.find t e.path = none) :
    Calls Tryz.prog 59 #[tv, v] w (TPost t e w) := by
  obtain ⟨aa, ac, ea, ec, rfl, hev1, hev2⟩ := hev
  obtain ⟨W, hW, hbW, hzW, d0, d1, d2, d3, d4, d5, d6⟩ := ebox w e (.slice aa e.attrs.length ac) (.slice ea e.exts.length ec)
  have hlw : w.heap.size < W.heap.size := by omega
  have HC := Lib.hid (hck W hbW)
  rw [herr] at HC
  have htW := ht.below hbW
  have HFD := Lib.hid (fun X (hX : Below W.heap.size W X) => find_any tv t e.path X (htW.below hX))
  have hix : idxI t e.path = -1 := by unfold idxI; rw [hno]
  rw [hix] at HFD
  have HIT := Lib.hid (fun X => inTree_any e.kind X)
  have hct : (e.kind == 1 || e.kind == 2 || e.kind == 3) = true := hcr
  rw [hct] at HIT
  have hpv : (Path.parentV (⟨e.path.toArray⟩ : ByteArray).data.toList) = Path.parentV e.path := rfl
  have HPA := Lib.hid (fun X => parent_any ⟨e.path.toArray⟩ X (by show e.path.length < _; omega))
  rw [hpv] at HPA
  have HDI := Lib.hid (fun X (hX : Below W.heap.size W X) => directory_any tv t (Path.parentV e.path) X (htW.below hX))
  rw [hd] at HDI
  have HCL := Lib.hid (fun X (hX : Below W.heap.size W X) => cloneEnts_any tv t X (htW.below hX) hn)
  have HBS := Lib.hid (fun vv X (hX : Ents X vv t) => bsearch_any vv t e.path X hX hn hfe hft)
  have hpl := place_le t e.path
  have hr : applyT t e = if 5000 ≤ t.length then (6, []) else (0, insAt t (place t e.path) e) := by
    unfold applyT
    rw [if_neg (by rw [herr]; decide), if_neg (by rw [hcr]; decide), if_neg (by rw [hd]; decide), hno]
  have HEC := Lib.hid (fun X (hX : Below w.heap.size w X) => (show EntC X (entL e (.slice aa e.attrs.length ac) (.slice ea e.exts.length ec)) e from ⟨aa, ac, ea, ec, rfl, hev1.below hX, hev2.below hX⟩))
  have HOT := Lib.hid ht.form
  generalize place t e.path = pl at *
  clear ht hft hfe hck herr hcr hct hpv hd hno hix htW hev1 hev2
  generalize Path.parentV e.path = PV at *
  generalize Path.parentE (⟨e.path.toArray⟩ : ByteArray).data.toList = PE at *
  generalize (⟨PV.toArray⟩ : ByteArray) = PU at *
  obtain ⟨ta, tc, rfl, ht1, ht2⟩ := HOT.out
  clear HOT
  by_cases h5 : 5000 ≤ t.length
  · rw [if_pos h5] at hr
    have HR := Lib.hid hr
    clear hr
    generalize (⟨e.path.toArray⟩ : ByteArray) = U at *
    go_enter Tryz.func59, Tryz.ntmps59
    go_wp2_with fail
    refine HC.out.mono ?_
    rintro en w1 ⟨rfl, hb1⟩
    have d0 := (hb1.cell (p := ⟨w.heap.size, 0, none⟩) hlw).trans d0
    have d1 := (hb1.cell (p := ⟨w.heap.size, 1, none⟩) hlw).trans d1
    have HF := Lib.hid (HFD.out w1 hb1)
    have hlw1 := Nat.lt_of_lt_of_le hlw hb1.size
    go_wp2_with fail
    refine HF.out.mono ?_
    rintro en w2 ⟨rfl, hb2⟩
    have d0 := (hb2.cell (p := ⟨w.heap.size, 0, none⟩) hlw1).trans d0
    have d1 := (hb2.cell (p := ⟨w.heap.size, 1, none⟩) hlw1).trans d1
    have hb12 := hb1.trans (hb2.mono hb1.size)
    go_wp2_with fail
    refine (HIT.out _).mono ?_
    rintro en w3 ⟨rfl, rfl⟩
    go_wp2_with fail
    refine (HPA.out _).mono ?_
    rintro en w4 ⟨rfl, hb4⟩
    have hb14 := hb12.trans (hb4.mono hb12.size)
    have HDX := Lib.hid (HDI.out w4 hb14)
    go_wp2_with fail
    refine HDX.out.mono ?_
    rintro en w5 ⟨rfl, hb5⟩
    have hb15 := hb14.trans (hb5.mono hb14.size)
    have HCX := Lib.hid (HCL.out w5 hb15)
    go_wp2_with fail
    refine HCX.out.mono ?_
    rintro en w6 ⟨v6, rfl, ho6, hb6⟩
    go_wp2_with fail
    go_ret2
    unfold TPost
    rw [HR.out]
    exact ⟨_, rfl, Ents.nil _, hbW.trans ((hb15.trans (hb6.mono hb15.size)).mono hbW.size)⟩
  · rw [if_neg h5] at hr
    have HR := Lib.hid hr
    clear hr
    go_enter Tryz.func59, Tryz.ntmps59
    go_wp2_with fail
    refine HC.out.mono ?_
    rintro en w1 ⟨rfl, hb1⟩
    have cc := fun (i : Nat) (u : Value) (h : W.cell? ⟨w.heap.size, i, none⟩ = some u) => (hb1.cell (p := ⟨w.heap.size, i, none⟩) hlw).trans h
    have d0 := cc 0 _ d0
    have d1 := cc 1 _ d1
    have d2 := cc 2 _ d2
    have d3 := cc 3 _ d3
    have d4 := cc 4 _ d4
    have d5 := cc 5 _ d5
    have d6 := cc 6 _ d6
    clear cc
    have HF := Lib.hid (HFD.out w1 hb1)
    have hlw1 := Nat.lt_of_lt_of_le hlw hb1.size
    go_wp2_with fail
    refine HF.out.mono ?_
    rintro en w2 ⟨rfl, hb2⟩
    have cc := fun (i : Nat) (u : Value) (h : w1.cell? ⟨w.heap.size, i, none⟩ = some u) => (hb2.cell (p := ⟨w.heap.size, i, none⟩) hlw1).trans h
    have d0 := cc 0 _ d0
    have d1 := cc 1 _ d1
    have d2 := cc 2 _ d2
    have d3 := cc 3 _ d3
    have d4 := cc 4 _ d4
    have d5 := cc 5 _ d5
    have d6 := cc 6 _ d6
    clear cc
    have hb12 := hb1.trans (hb2.mono hb1.size)
    have hlw2 := Nat.lt_of_lt_of_le hlw hb12.size
    go_wp2_with fail
    refine (HIT.out _).mono ?_
    rintro en w3 ⟨rfl, rfl⟩
    go_wp2_with fail
    refine (HPA.out _).mono ?_
    rintro en w4 ⟨rfl, hb4⟩
    have hb14 := hb12.trans (hb4.mono hb12.size)
    have HDX := Lib.hid (HDI.out w4 hb14)
    go_wp2_with fail
    refine HDX.out.mono ?_
    rintro en w5 ⟨rfl, hb5⟩
    have hb15 := hb14.trans (hb5.mono hb14.size)
    have HCX := Lib.hid (HCL.out w5 hb15)
    go_wp2_with fail
    refine HCX.out.mono ?_
    rintro en w6 ⟨v6, rfl, ho6, hb6⟩
    have hb26 : Below w2.heap.size w2 w6 := hb4.trans ((hb5.trans (hb6.mono hb5.size)).mono hb4.size)
    have cc := fun (i : Nat) (u : Value) (h : w2.cell? ⟨w.heap.size, i, none⟩ = some u) => (hb26.cell (p := ⟨w.heap.size, i, none⟩) hlw2).trans h
    have d0 := cc 0 _ d0
    have d1 := cc 1 _ d1
    have d2 := cc 2 _ d2
    have d3 := cc 3 _ d3
    have d4 := cc 4 _ d4
    have d5 := cc 5 _ d5
    have d6 := cc 6 _ d6
    clear cc
    have hb16 := hb15.trans (hb6.mono hb15.size)
    have hlw6 := Nat.lt_of_lt_of_le hlw hb16.size
    have HBX := Lib.hid (HBS.out v6 w6 (ho6.read hb6))
    have HO6 := Lib.hid ho6
    clear ho6
    go_wp2_with fail
    refine HBX.out.mono ?_
    rintro en w7 ⟨bb, rfl, hb7⟩
    have cc := fun (i : Nat) (u : Value) (h : w6.cell? ⟨w.heap.size, i, none⟩ = some u) => (hb7.cell (p := ⟨w.heap.size, i, none⟩) hlw6).trans h
    have d0 := cc 0 _ d0
    have d1 := cc 1 _ d1
    have d2 := cc 2 _ d2
    have d3 := cc 3 _ d3
    have d4 := cc 4 _ d4
    have d5 := cc 5 _ d5
    have d6 := cc 6 _ d6
    clear cc
    have hb17 := hb16.trans (hb7.mono hb16.size)
    obtain ⟨X, hX, hbX, hzX, _, _, _, _, _, _, _⟩ := ebox w7 e (.slice aa e.attrs.length ac) (.slice ea e.exts.length ec)
    obtain ⟨vss, hvo, hva⟩ := HO6.out
    have hs6 : w5.heap.size ≤ X.heap.size := by
      have := hb6.size
      have := hb7.size
      omega
    have hblk : X.heap[w7.heap.size]? = some (.cells (entL e (.slice aa e.attrs.length ac) (.slice ea e.exts.length ec)).toArray 43 (0, 0)) := by rw [← hX]; exact heap_alloc_new w7 _
    have hins := ins_ent v6 t.length pl w5.heap.size w7.heap.size vss.flatten (entL e (.slice aa e.attrs.length ac) (.slice ea e.exts.length ec)) X (row_kept' (row_kept' hvo hb7) hbX) hpl (by omega) rfl (flat_ones hva) (entC_one (HEC.out w (Below.refl _ _))) hblk (fun hbk => absurd (World.ownsRow.lt (row_kept' hvo hb7) _ hbk).2 (Nat.lt_irrefl _)) hs6
    have HINS := Lib.hid hins
    clear hblk hins hvo
    go_wp2_with fail
    refine HINS.out.mono ?_
    rintro en w8 ⟨v8, rfl, ho8, hb8⟩
    have hbw5 := hbW.trans (hb15.mono hbW.size)
    have HO8 := OwnEnts.ins hva (HEC.out w5 hbw5) pl hpl ho8
    have hb58 : Below w5.heap.size w5 w8 := (hb6.trans ((hb7.trans (hbX.mono hb7.size)).mono hb6.size)).trans hb8
    go_wp2_with fail
    go_ret2
    unfold TPost
    rw [HR.out]
    exact ⟨_, rfl, HO8.read hb58, hbw5.trans (hb58.mono hbw5.size)⟩
end Go.Proofs.YtbhmdcdhklgomaaGreatDoor

/-
  dirtree.Apply: a node changed.
-/
namespace Go.Proofs.YtbhmdcdhklgomaaGreatDoor
open Go.RowKit Top

set_option maxHeartbeats 4000000 in
set_option maxRecDepth 100000 in
theorem tapp_set (tv v : Value) (t : List Ent) (e : Ent) (w : World) (ht : Ents w tv t) (hn : t.length ≤ 65536) (hfe : e.path.length ≤ 16777216) (hev : EntV w v e) (hck : CheckAt v e w) (herr : entErr e = 0) (hcr : creates e = true) (hd : dirErr t (Path.parentV e.path) = 0) (i : Nat) (hno : Top.find t e.path = some i) :
    Calls Tryz.prog 59 #[tv, v] w (TPost t e w) := by
  obtain ⟨aa, ac, ea, ec, rfl, hev1, hev2⟩ := hev
  obtain ⟨W, hW, hbW, hzW, d0, d1, d2, d3, d4, d5, d6⟩ := ebox w e (.slice aa e.attrs.length ac) (.slice ea e.exts.length ec)
  have hlw : w.heap.size < W.heap.size := by omega
  have HC := Lib.hid (hck W hbW)
  rw [herr] at HC
  have htW := ht.below hbW
  have HFD := Lib.hid (fun X (hX : Below W.heap.size W X) => find_any tv t e.path X (htW.below hX))
  have hix : idxI t e.path = (i : Nat) := by unfold idxI; rw [hno]
  rw [hix] at HFD
  obtain ⟨x, hx, hgx, _⟩ := find_get hno
  have hil := (List.getElem?_eq_some_iff.1 hx).1
  have HIT := Lib.hid (fun X => inTree_any e.kind X)
  have hct : (e.kind == 1 || e.kind == 2 || e.kind == 3) = true := hcr
  rw [hct] at HIT
  have hpv : (Path.parentV (⟨e.path.toArray⟩ : ByteArray).data.toList) = Path.parentV e.path := rfl
  have HPA := Lib.hid (fun X => parent_any ⟨e.path.toArray⟩ X (by show e.path.length < _; omega))
  rw [hpv] at HPA
  have HDI := Lib.hid (fun X (hX : Below W.heap.size W X) => directory_any tv t (Path.parentV e.path) X (htW.below hX))
  rw [hd] at HDI
  have HCL := Lib.hid (fun X (hX : Below W.heap.size W X) => cloneEnts_any tv t X (htW.below hX) hn)
  have hr : applyT t e = if (x.kind == 2) != (e.kind == 2) then (8, []) else (0, t.set i e) := by
    unfold applyT
    rw [if_neg (by rw [herr]; decide), if_neg (by rw [hcr]; decide), if_neg (by rw [hd]; decide), hno, hgx]
  have HEC := Lib.hid (fun X (hX : Below w.heap.size w X) => (show EntC X (entL e (.slice aa e.attrs.length ac) (.slice ea e.exts.length ec)) e from ⟨aa, ac, ea, ec, rfl, hev1.below hX, hev2.below hX⟩))
  have HX := Lib.hid hx
  obtain ⟨ta, tc, rfl, ht1, ht2⟩ := ht.form
  obtain ⟨bk, o, xa, xc, ya, yc, rfl, _, _, k0, _⟩ := htW.get hx
  have hlk := World.block_lt_of_cell? _ _ k0
  have q1 : (i : Int) ≥ 0 := by omega
  have q2 : (i : Int) < (t.length : Int) := by omega
  have q3 : ¬ ((i : Int) < 0) := by omega
  clear ht hfe hck herr hcr hct hpv hd hno hix htW hev1 hev2 hx hgx
  generalize Path.parentV e.path = PV at *
  generalize Path.parentE (⟨e.path.toArray⟩ : ByteArray).data.toList = PE at *
  generalize (⟨PV.toArray⟩ : ByteArray) = PU at *
  obtain ⟨b1, hb1x⟩ : ∃ b, (x.kind == 2) = b := ⟨_, rfl⟩
  obtain ⟨b2, hb2x⟩ : ∃ b, (e.kind == 2) = b := ⟨_, rfl⟩
  rw [hb1x, hb2x] at hr
  have HR := Lib.hid hr
  clear hr
  go_enter Tryz.func59, Tryz.ntmps59
  go_wp2_with fail
  refine HC.out.mono ?_
  rintro en w1 ⟨rfl, hb1⟩
  have cc := fun (i : Nat) (u : Value) (h : W.cell? ⟨w.heap.size, i, none⟩ = some u) => (hb1.cell (p := ⟨w.heap.size, i, none⟩) hlw).trans h
  have d0 := cc 0 _ d0
  have d1 := cc 1 _ d1
  have d2 := cc 2 _ d2
  have d3 := cc 3 _ d3
  have d4 := cc 4 _ d4
  have d5 := cc 5 _ d5
  have d6 := cc 6 _ d6
  clear cc
  have HF := Lib.hid (HFD.out w1 hb1)
  have hlw1 := Nat.lt_of_lt_of_le hlw hb1.size
  go_wp2_with fail
  refine HF.out.mono ?_
  rintro en w2 ⟨rfl, hb2⟩
  have cc := fun (i : Nat) (u : Value) (h : w1.cell? ⟨w.heap.size, i, none⟩ = some u) => (hb2.cell (p := ⟨w.heap.size, i, none⟩) hlw1).trans h
  have d0 := cc 0 _ d0
  have d1 := cc 1 _ d1
  have d2 := cc 2 _ d2
  have d3 := cc 3 _ d3
  have d4 := cc 4 _ d4
  have d5 := cc 5 _ d5
  have d6 := cc 6 _ d6
  clear cc
  have hb12 := hb1.trans (hb2.mono hb1.size)
  have hlw2 := Nat.lt_of_lt_of_le hlw hb12.size
  go_wp2_with fail
  refine (HIT.out _).mono ?_
  rintro en w3 ⟨rfl, rfl⟩
  go_wp2_with fail
  refine (HPA.out _).mono ?_
  rintro en w4 ⟨rfl, hb4⟩
  have hb14 := hb12.trans (hb4.mono hb12.size)
  have HDX := Lib.hid (HDI.out w4 hb14)
  go_wp2_with fail
  refine HDX.out.mono ?_
  rintro en w5 ⟨rfl, hb5⟩
  have hb15 := hb14.trans (hb5.mono hb14.size)
  have HCX := Lib.hid (HCL.out w5 hb15)
  go_wp2_with fail
  refine HCX.out.mono ?_
  rintro en w6 ⟨v6, rfl, ho6, hb6⟩
  have hb26 : Below w2.heap.size w2 w6 := hb4.trans ((hb5.trans (hb6.mono hb5.size)).mono hb4.size)
  have cc := fun (i : Nat) (u : Value) (h : w2.cell? ⟨w.heap.size, i, none⟩ = some u) => (hb26.cell (p := ⟨w.heap.size, i, none⟩) hlw2).trans h
  have d0 := cc 0 _ d0
  have d1 := cc 1 _ d1
  have d2 := cc 2 _ d2
  have d3 := cc 3 _ d3
  have d4 := cc 4 _ d4
  have d5 := cc 5 _ d5
  have d6 := cc 6 _ d6
  clear cc
  have hb16 := hb15.trans (hb6.mono hb15.size)
  have k0 := (hb16.cell (p := ⟨bk, o + i * 7, none⟩) hlk).trans k0
  have hbw5 := hbW.trans (hb15.mono hbW.size)
  have hbw6 := hbw5.trans (hb6.mono hbw5.size)
  by_cases hne : (b1 != b2) = true
  · have HR : Hid (applyT t e = (8, [])) := by
      show _ = _
      rw [HR.out, if_pos hne]
    clear ho6
    generalize e.kind = ke at *
    generalize x.kind = kx at *
    cases b1 <;> cases b2 <;> first | (exact absurd hne (by decide)) | skip
    all_goals
      clear hne
      go_wp2_with fail
      try go_quiet (fail)
      go_wp2_with fail
      go_ret2
      unfold TPost
      rw [HR.out]
      exact ⟨_, rfl, Ents.nil _, below_drewN hbw6 _⟩
  · have HR : Hid (applyT t e = (0, t.set i e)) := by
      show _ = _
      rw [HR.out, if_neg hne]
    obtain ⟨vss, hvo, hva⟩ := ho6
    obtain ⟨g, cap, rfl, hcap1, hcap2⟩ := World.ownsRow.form hvo (by omega)
    have hl7 := all2_lens hva
    obtain ⟨vs, hvs⟩ : ∃ vs, vss[i]? = some vs := ⟨_, List.getElem?_eq_getElem (by rw [hva.1]; exact hil)⟩
    obtain ⟨xa', xc', ya', yc', rfl, _, _⟩ := hva.2 i _ _ hvs HX.out
    have HVO := Lib.hid hvo
    have HL7 := Lib.hid hl7
    have HVS := Lib.hid hvs
    have HVA := Lib.hid hva
    have hvi : i < vss.length := by rw [hva.1]; exact hil
    have hgB : w5.heap.size ≤ g := (World.ownsRow.lt hvo g rfl).1
    have hlw6 := Nat.lt_of_lt_of_le hlw hb16.size
    have hqu := fun q => below_drewN (Below.refl w6.heap.size w6) q
    clear hvo hl7 hvs hva
    cases b1 <;> cases b2 <;> first | (exact absurd rfl hne) | skip
    all_goals
      clear hne
      go_wp2_with fail
      try go_quiet (fail)
      have hb7 := hqu nq
      clear hqu
      generalize w6.drewN nq = w7 at *
      have cc := fun (i : Nat) (u : Value) (h : w6.cell? ⟨w.heap.size, i, none⟩ = some u) => (hb7.cell (p := ⟨w.heap.size, i, none⟩) hlw6).trans h
      have d0 := cc 0 _ d0
      have d1 := cc 1 _ d1
      have d2 := cc 2 _ d2
      have d3 := cc 3 _ d3
      have d4 := cc 4 _ d4
      have d5 := cc 5 _ d5
      have d6 := cc 6 _ d6
      clear cc
      have hvo := row_kept' HVO.out hb7
      obtain ⟨e0, e1, e2, e3, e4, e5, e6⟩ := row_elem hvo HL7.out HVS.out
      have z := fun k => row_free hvo k
      have z0 := z (i * 7)
      have z1 := z (i * 7 + 1)
      have z2 := z (i * 7 + 2)
      have z3 := z (i * 7 + 3)
      have z4 := z (i * 7 + 4)
      have z5 := z (i * 7 + 5)
      have z6 := z (i * 7 + 6)
      have hnew := set7_own (a0 := .int .i64 e.kind) (a1 := .string ⟨e.path.toArray⟩) (a2 := .slice aa e.attrs.length ac) (a3 := .string ⟨e.target.toArray⟩) (a4 := .int .i64 e.size) (a5 := .string ⟨e.digest.toArray⟩) (a6 := .slice ea e.exts.length ec) hvo HL7.out (i := i) hvi
      have HNEW := Lib.hid hnew
      have hb57 := hb6.trans (hb7.mono hb6.size)
      have HBS := Lib.hid (((((((hb57.setCell (p := ⟨g, i * 7, none⟩) hgB (.int .i64 e.kind)).setCell (p := ⟨g, i * 7 + 1, none⟩) hgB (.string ⟨e.path.toArray⟩)).setCell (p := ⟨g, i * 7 + 2, none⟩) hgB (.slice aa e.attrs.length ac)).setCell (p := ⟨g, i * 7 + 3, none⟩) hgB (.string ⟨e.target.toArray⟩)).setCell (p := ⟨g, i * 7 + 4, none⟩) hgB (.int .i64 e.size)).setCell (p := ⟨g, i * 7 + 5, none⟩) hgB (.string ⟨e.digest.toArray⟩)).setCell (p := ⟨g, i * 7 + 6, none⟩) hgB (.slice ea e.exts.length ec))
      clear hvo z hnew
      go_wp2_with fail
      go_ret2
      unfold TPost
      rw [HR.out]
      have hbF := HBS.out
      have hown : OwnEnts w5 _ w5.heap.size _ (t.set i e) := ⟨_, by rw [List.length_set]; exact HNEW.out, all2_set HVA.out (HEC.out w5 hbw5) i⟩
      exact ⟨_, rfl, hown.read hbF, hbw5.trans (hbF.mono hbw5.size)⟩
end Go.Proofs.YtbhmdcdhklgomaaGreatDoor
