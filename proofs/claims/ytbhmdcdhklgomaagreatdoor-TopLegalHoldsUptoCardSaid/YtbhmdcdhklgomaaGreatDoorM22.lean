/-
  (history.state).apply. (Written by gen_state.py.)
-/
import Derived.Test.YtbhmdcdhklgomaaGreatDoorM21
namespace Go.Proofs.YtbhmdcdhklgomaaGreatDoor
open Go.RowKit Top

theorem base_apply (w : World) (s0 s1 : Value) (e : Ent) (aa ea : Option Addr) (ac ec : Nat) : ∃ W, ((w.alloc (.cells #[s0, s1] 83)).alloc (.cells #[.int .i64 e.kind, .string ⟨e.path.toArray⟩, .slice aa e.attrs.length ac, .string ⟨e.target.toArray⟩, .int .i64 e.size, .string ⟨e.digest.toArray⟩, .slice ea e.exts.length ec] 43)).alloc (.cells #[.slice none 0 0, .slice none 0 0] 83) = W ∧ Below w.heap.size w W ∧ w.heap.size + 1 + 1 < W.heap.size ∧
    W.heap[w.heap.size]? = some (.cells #[s0, s1] 83 (0, 0)) ∧ W.heap[w.heap.size + 1]? = some (.cells #[.int .i64 e.kind, .string ⟨e.path.toArray⟩, .slice aa e.attrs.length ac, .string ⟨e.target.toArray⟩, .int .i64 e.size, .string ⟨e.digest.toArray⟩, .slice ea e.exts.length ec] 43 (0, 0)) ∧ W.heap[w.heap.size + 1 + 1]? = some (.cells #[.slice none 0 0, .slice none 0 0] 83 (0, 0)) := by
  generalize (Obj.cells #[s0, s1] 83) = A
  generalize (Obj.cells #[.int .i64 e.kind, .string ⟨e.path.toArray⟩, .slice aa e.attrs.length ac, .string ⟨e.target.toArray⟩, .int .i64 e.size, .string ⟨e.digest.toArray⟩, .slice ea e.exts.length ec] 43) = B
  generalize (Obj.cells #[.slice none 0 0, .slice none 0 0] 83) = C
  have e0 := heap_alloc_new w A
  have e1 := heap_alloc_new (w.alloc A) B
  have e2 := heap_alloc_new ((w.alloc A).alloc B) C
  have f1 := fun k o (h : (w.alloc A).heap[k]? = some o) => (Below.heap_alloc (w.alloc A) B k (Array.getElem?_eq_some_iff.1 h).1).trans h
  have f2 := fun k o (h : ((w.alloc A).alloc B).heap[k]? = some o) => (Below.heap_alloc ((w.alloc A).alloc B) C k (Array.getElem?_eq_some_iff.1 h).1).trans h
  rw [World.size_alloc] at e1
  rw [World.size_alloc, World.size_alloc] at e2
  exact ⟨_, rfl, (((Below.refl _ w).alloc (Nat.le_refl _) _).alloc (by simp) _).alloc (by simp; omega) _, by simp, f2 _ _ (f1 _ _ e0), f2 _ _ e1, e2⟩

set_option maxHeartbeats 4000000 in
set_option maxRecDepth 100000 in
theorem sapply_any (v ev : Value) (s : St) (e : Ent) (d : Int) (w : World) (hs : StV w v s) (hev : EntV w ev e) (hg : Ground w) (ht : s.tree.length ≤ 65536) (hh : s.holds.length ≤ 65535) (hft : FitP s.tree) (hfh : FitH s.holds) (hP : e.path.length ≤ 16777216) (hT : e.target.length ≤ 16777216) :
    Calls Tryz.prog 37 #[v, ev, .int .i64 d] w fun en w' => ∃ v', en = .returned (.tuple #[v', .int .i64 (applyS s e d).1]) ∧ StV w' v' (applyS s e d).2 ∧ Below w.heap.size w w' := by
  have hck : CheckAt ev e w := fun Y hY => check_any ev e Y (hev.below hY) (hg.below hY) hP hT
  have hsv := hs
  obtain ⟨ta, tc, ha, hc, rfl, h2, h3⟩ := hs
  have KA := Lib.hid (fun X (hX : Below w.heap.size w X) => tapply_any _ ev s.tree e X (h2.below hX) ht hft hP (hev.below hX) (fun Y hY => hck Y (hX.trans (hY.mono hX.size))))
  have KC := Lib.hid (fun X (hX : Below w.heap.size w X) => hcreates_any ev e X (hev.below hX))
  have KH := Lib.hid (fun X (hX : Below w.heap.size w X) => has_any _ s e.path X (hsv.below hX))
  have KL := Lib.hid (fun X (hX : Below w.heap.size w X) => allowH_any _ ev s.holds e d X (h3.below hX) (by omega) hfh (hev.below hX) hP)
  have KR := Lib.hid (fun X (hX : Below w.heap.size w X) => happly_any _ ev s.holds e d X (h3.below hX) hh (hev.below hX) (hg.below hX) hfh hP hT)
  obtain ⟨aa, ac, ea, ec, rfl, _, _⟩ := hev
  obtain ⟨W, hW, hbW, hlz, qS, qE, qZ⟩ := base_apply w (.slice ta s.tree.length tc) (.slice ha s.holds.length hc) e aa ea ac ec
  have HSP : Hid (applyS s e d = if (applyT s.tree e).1 ≠ 0 then ((applyT s.tree e).1, s)
    else if (Top.creates e = false ∨ has s e.path = true) ∧ allowed s.holds e d ≠ 0 then (allowed s.holds e d, s)
    else if (applyH s.holds e d).1 ≠ 0 then ((applyH s.holds e d).1, s)
    else (0, ⟨(applyT s.tree e).2, (applyH s.holds e d).2⟩)) := Lib.hid rfl
  clear hck hsv
  unfold TPost at KA
  unfold HPost at KR
  generalize applyT s.tree e = At at *
  obtain ⟨at1, at2⟩ := At
  generalize allowed s.holds e d = lz at *
  generalize applyH s.holds e d = Ah at *
  obtain ⟨ah1, ah2⟩ := Ah
  generalize Top.creates e = cb at *
  generalize has s e.path = hb at *
  go_enter Tryz.func37, Tryz.ntmps37
  go_upto_region 1 with (fail)
  try rw [hW]
  clear hW

  have HA := Lib.hid (KA.out W hbW)
  clear KA
  have hbr := Below.refl W.heap.size W
  have hS := (hbr.block (w.heap.size) (by omega)).trans qS
  have hE := (hbr.block (w.heap.size + 1) (by omega)).trans qE
  have hZ := (hbr.block (w.heap.size + 1 + 1) hlz).trans qZ
  have s0 := tcell hS 0 (.slice ta s.tree.length tc) rfl
  have s1 := tcell hS 1 (.slice ha s.holds.length hc) rfl
  have e0 := tcell hE 0 (.int .i64 e.kind) rfl
  have e1 := tcell hE 1 (.string ⟨e.path.toArray⟩) rfl
  have e2 := tcell hE 2 (.slice aa e.attrs.length ac) rfl
  have e3 := tcell hE 3 (.string ⟨e.target.toArray⟩) rfl
  have e4 := tcell hE 4 (.int .i64 e.size) rfl
  have e5 := tcell hE 5 (.string ⟨e.digest.toArray⟩) rfl
  have e6 := tcell hE 6 (.slice ea e.exts.length ec) rfl
  have y0 := tcell hZ 0 (.slice none 0 0) rfl
  have y1 := tcell hZ 1 (.slice none 0 0) rfl
  have z0 := tfree hZ 0
  have z1 := tfree hZ 1

  go_wp2_with fail
  refine HA.out.mono ?_
  rintro en w1 ⟨tv, rfl, htv, hb1⟩
  have hbw := hbW.trans (hb1.mono hbW.size)
  obtain ⟨na, nc, rfl, _, _⟩ := htv.form
  have hS := (hb1.block (w.heap.size) (by omega)).trans qS
  have hE := (hb1.block (w.heap.size + 1) (by omega)).trans qE
  have hZ := (hb1.block (w.heap.size + 1 + 1) hlz).trans qZ
  have s0 := tcell hS 0 (.slice ta s.tree.length tc) rfl
  have s1 := tcell hS 1 (.slice ha s.holds.length hc) rfl
  have e0 := tcell hE 0 (.int .i64 e.kind) rfl
  have e1 := tcell hE 1 (.string ⟨e.path.toArray⟩) rfl
  have e2 := tcell hE 2 (.slice aa e.attrs.length ac) rfl
  have e3 := tcell hE 3 (.string ⟨e.target.toArray⟩) rfl
  have e4 := tcell hE 4 (.int .i64 e.size) rfl
  have e5 := tcell hE 5 (.string ⟨e.digest.toArray⟩) rfl
  have e6 := tcell hE 6 (.slice ea e.exts.length ec) rfl
  have y0 := tcell hZ 0 (.slice none 0 0) rfl
  have y1 := tcell hZ 1 (.slice none 0 0) rfl
  have z0 := tfree hZ 0
  have z1 := tfree hZ 1

  rcases Decidable.em (at1 = 0) with ha0 | ha0
  rotate_left
  · have HS : Hid (applyS s e d = (at1, s)) := by
      show _ = _
      rw [HSP.out, if_pos ha0]
    have q : (at1 != 0) = true := bne_iff_ne.2 ha0
    go_wp2_with fail
    try simp only [Exit.inBlock, Exit.then]
    obtain ⟨t1, t2⟩ := set2 hZ (.slice ta s.tree.length tc) (.slice ha s.holds.length hc)
    have hwf := hbw.grown t2 hbw.size (fun k hk => by injection hk; omega)
    refine bodyPost_ret (v := .tuple #[.agg #[.slice ta s.tree.length tc, .slice ha s.holds.length hc], .int .i64 at1]) ?_ ?_ ?_
    · refine results_row_tmp (p := 6) (u := 7) (ty := 83) (by kernel_rfl) _ _ (w.heap.size + 1 + 1) 83 _ (0, 0) _ ?_ t1 Tryz.underlying83 (by kernel_rfl) (by kernel_rfl)
      kernel_rfl
    · kernel_rfl
    · rw [HS.out]
      exact ⟨_, rfl, ⟨_, _, _, _, rfl, h2.below hwf, h3.below hwf⟩, hwf⟩
  
  subst ha0
  have HSP : Hid (applyS s e d = if (cb = false ∨ hb = true) ∧ lz ≠ 0 then (lz, s)
    else if ah1 ≠ 0 then (ah1, s)
    else (0, ⟨at2, ah2⟩)) := by
    show _ = _
    rw [HSP.out, if_neg (by simp)]
  have HT1 := Lib.hid htv
  clear htv
  have HB1 := Lib.hid hb1
  have HBW := Lib.hid hbw
  clear hb1 hbw
  have HB_w1 := HB1
  have H1_w1 := Lib.hid (Below.refl w1.heap.size w1)
  clear HB1 HA s0 s1 e0 e1 e2 e3 e4 e5 e6 y0 y1 z0 z1 hS hE hZ hbr
  cases cb
  · have hS := (HB_w1.out.block (w.heap.size) (by omega)).trans qS
    have hE := (HB_w1.out.block (w.heap.size + 1) (by omega)).trans qE
    have hZ := (HB_w1.out.block (w.heap.size + 1 + 1) hlz).trans qZ
    have s0 := tcell hS 0 (.slice ta s.tree.length tc) rfl
    have s1 := tcell hS 1 (.slice ha s.holds.length hc) rfl
    have e0 := tcell hE 0 (.int .i64 e.kind) rfl
    have e1 := tcell hE 1 (.string ⟨e.path.toArray⟩) rfl
    have e2 := tcell hE 2 (.slice aa e.attrs.length ac) rfl
    have e3 := tcell hE 3 (.string ⟨e.target.toArray⟩) rfl
    have e4 := tcell hE 4 (.int .i64 e.size) rfl
    have e5 := tcell hE 5 (.string ⟨e.digest.toArray⟩) rfl
    have e6 := tcell hE 6 (.slice ea e.exts.length ec) rfl
    have y0 := tcell hZ 0 (.slice none 0 0) rfl
    have y1 := tcell hZ 1 (.slice none 0 0) rfl
    have z0 := tfree hZ 0
    have z1 := tfree hZ 1
    have hbw := hbW.trans (HB_w1.out.mono hbW.size)
    have HQ := Lib.hid (KC.out w1 (hbW.trans (HB_w1.out.mono hbW.size)))
    go_wp2_with fail
    refine HQ.out.mono ?_
    rintro en w2 ⟨rfl, hcall⟩
    have HB_w2 := Lib.hid (HB_w1.out.trans (hcall.mono HB_w1.out.size))
    have H1_w2 := Lib.hid (H1_w1.out.trans (hcall.mono H1_w1.out.size))
    clear hcall HQ
    have hS := (HB_w2.out.block (w.heap.size) (by omega)).trans qS
    have hE := (HB_w2.out.block (w.heap.size + 1) (by omega)).trans qE
    have hZ := (HB_w2.out.block (w.heap.size + 1 + 1) hlz).trans qZ
    have s0 := tcell hS 0 (.slice ta s.tree.length tc) rfl
    have s1 := tcell hS 1 (.slice ha s.holds.length hc) rfl
    have e0 := tcell hE 0 (.int .i64 e.kind) rfl
    have e1 := tcell hE 1 (.string ⟨e.path.toArray⟩) rfl
    have e2 := tcell hE 2 (.slice aa e.attrs.length ac) rfl
    have e3 := tcell hE 3 (.string ⟨e.target.toArray⟩) rfl
    have e4 := tcell hE 4 (.int .i64 e.size) rfl
    have e5 := tcell hE 5 (.string ⟨e.digest.toArray⟩) rfl
    have e6 := tcell hE 6 (.slice ea e.exts.length ec) rfl
    have y0 := tcell hZ 0 (.slice none 0 0) rfl
    have y1 := tcell hZ 1 (.slice none 0 0) rfl
    have z0 := tfree hZ 0
    have z1 := tfree hZ 1
    have hbw := hbW.trans (HB_w2.out.mono hbW.size)
    have HQ := Lib.hid (KL.out w2 (hbW.trans (HB_w2.out.mono hbW.size)))
    go_wp2_with fail
    refine HQ.out.mono ?_
    rintro en w2l ⟨rfl, hcall⟩
    have HB_w2l := Lib.hid (HB_w2.out.trans (hcall.mono HB_w2.out.size))
    have H1_w2l := Lib.hid (H1_w2.out.trans (hcall.mono H1_w2.out.size))
    clear hcall HQ
    rcases Decidable.em (lz = 0) with hl0 | hl0
    · subst hl0
      have hS := (HB_w2l.out.block (w.heap.size) (by omega)).trans qS
      have hE := (HB_w2l.out.block (w.heap.size + 1) (by omega)).trans qE
      have hZ := (HB_w2l.out.block (w.heap.size + 1 + 1) hlz).trans qZ
      have s0 := tcell hS 0 (.slice ta s.tree.length tc) rfl
      have s1 := tcell hS 1 (.slice ha s.holds.length hc) rfl
      have e0 := tcell hE 0 (.int .i64 e.kind) rfl
      have e1 := tcell hE 1 (.string ⟨e.path.toArray⟩) rfl
      have e2 := tcell hE 2 (.slice aa e.attrs.length ac) rfl
      have e3 := tcell hE 3 (.string ⟨e.target.toArray⟩) rfl
      have e4 := tcell hE 4 (.int .i64 e.size) rfl
      have e5 := tcell hE 5 (.string ⟨e.digest.toArray⟩) rfl
      have e6 := tcell hE 6 (.slice ea e.exts.length ec) rfl
      have y0 := tcell hZ 0 (.slice none 0 0) rfl
      have y1 := tcell hZ 1 (.slice none 0 0) rfl
      have z0 := tfree hZ 0
      have z1 := tfree hZ 1
      have hbw := hbW.trans (HB_w2l.out.mono hbW.size)
      have HQ := Lib.hid (KR.out w2l (hbW.trans (HB_w2l.out.mono hbW.size)))
      go_wp2_with fail
      refine HQ.out.mono ?_
      rintro en w2lr ⟨hvv, rfl, hhv, hcall⟩
      have HB_w2lr := Lib.hid (HB_w2l.out.trans (hcall.mono HB_w2l.out.size))
      have H1_w2lr := Lib.hid (H1_w2l.out.trans (hcall.mono H1_w2l.out.size))
      clear hcall HQ
      obtain ⟨ma, mc, rfl, _, _⟩ := hhv.form
      have HH := Lib.hid hhv
      clear hhv
      have hS := (HB_w2lr.out.block (w.heap.size) (by omega)).trans qS
      have hE := (HB_w2lr.out.block (w.heap.size + 1) (by omega)).trans qE
      have hZ := (HB_w2lr.out.block (w.heap.size + 1 + 1) hlz).trans qZ
      have s0 := tcell hS 0 (.slice ta s.tree.length tc) rfl
      have s1 := tcell hS 1 (.slice ha s.holds.length hc) rfl
      have e0 := tcell hE 0 (.int .i64 e.kind) rfl
      have e1 := tcell hE 1 (.string ⟨e.path.toArray⟩) rfl
      have e2 := tcell hE 2 (.slice aa e.attrs.length ac) rfl
      have e3 := tcell hE 3 (.string ⟨e.target.toArray⟩) rfl
      have e4 := tcell hE 4 (.int .i64 e.size) rfl
      have e5 := tcell hE 5 (.string ⟨e.digest.toArray⟩) rfl
      have e6 := tcell hE 6 (.slice ea e.exts.length ec) rfl
      have y0 := tcell hZ 0 (.slice none 0 0) rfl
      have y1 := tcell hZ 1 (.slice none 0 0) rfl
      have z0 := tfree hZ 0
      have z1 := tfree hZ 1
      have hbw := hbW.trans (HB_w2lr.out.mono hbW.size)
      rcases Decidable.em (ah1 = 0) with hr0 | hr0
      · subst hr0
        have HS : Hid (applyS s e d = (0, ⟨at2, ah2⟩)) := by
          show _ = _
          rw [HSP.out, if_neg (by simp), if_neg (by simp)]
        go_wp2_with fail
        try simp only [Exit.inBlock, Exit.then]
        obtain ⟨t1, t2⟩ := set2 hZ (.slice na at2.length nc) (.slice ma ah2.length mc)
        have hwf := hbw.grown t2 hbw.size (fun k hk => by injection hk; omega)
        refine bodyPost_ret (v := .tuple #[.agg #[.slice na at2.length nc, .slice ma ah2.length mc], .int .i64 0]) ?_ ?_ ?_
        · refine results_row_tmp (p := 6) (u := 7) (ty := 83) (by kernel_rfl) _ _ (w.heap.size + 1 + 1) 83 _ (0, 0) _ ?_ t1 Tryz.underlying83 (by kernel_rfl) (by kernel_rfl)
          kernel_rfl
        · kernel_rfl
        · rw [HS.out]
          exact ⟨_, rfl, ⟨_, _, _, _, rfl, (HT1.out.below H1_w2lr.out).apart hZ (by decide) (by decide) (by decide) t2, holds_apart HH.out hZ (by decide) t2⟩, hwf⟩
      · have HS : Hid (applyS s e d = (ah1, s)) := by
          show _ = _
          rw [HSP.out, if_neg (by simp), if_pos hr0]
        have q : (ah1 != 0) = true := bne_iff_ne.2 hr0
        go_wp2_with fail
        try simp only [Exit.inBlock, Exit.then]
        obtain ⟨t1, t2⟩ := set2 hZ (.slice ta s.tree.length tc) (.slice ha s.holds.length hc)
        have hwf := hbw.grown t2 hbw.size (fun k hk => by injection hk; omega)
        refine bodyPost_ret (v := .tuple #[.agg #[.slice ta s.tree.length tc, .slice ha s.holds.length hc], .int .i64 ah1]) ?_ ?_ ?_
        · refine results_row_tmp (p := 6) (u := 7) (ty := 83) (by kernel_rfl) _ _ (w.heap.size + 1 + 1) 83 _ (0, 0) _ ?_ t1 Tryz.underlying83 (by kernel_rfl) (by kernel_rfl)
          kernel_rfl
        · kernel_rfl
        · rw [HS.out]
          exact ⟨_, rfl, ⟨_, _, _, _, rfl, h2.below hwf, h3.below hwf⟩, hwf⟩
    · have HS : Hid (applyS s e d = (lz, s)) := by
        show _ = _
        rw [HSP.out, if_pos ⟨by simp, hl0⟩]
      have q : (lz != 0) = true := bne_iff_ne.2 hl0
      have hS := (HB_w2l.out.block (w.heap.size) (by omega)).trans qS
      have hE := (HB_w2l.out.block (w.heap.size + 1) (by omega)).trans qE
      have hZ := (HB_w2l.out.block (w.heap.size + 1 + 1) hlz).trans qZ
      have s0 := tcell hS 0 (.slice ta s.tree.length tc) rfl
      have s1 := tcell hS 1 (.slice ha s.holds.length hc) rfl
      have e0 := tcell hE 0 (.int .i64 e.kind) rfl
      have e1 := tcell hE 1 (.string ⟨e.path.toArray⟩) rfl
      have e2 := tcell hE 2 (.slice aa e.attrs.length ac) rfl
      have e3 := tcell hE 3 (.string ⟨e.target.toArray⟩) rfl
      have e4 := tcell hE 4 (.int .i64 e.size) rfl
      have e5 := tcell hE 5 (.string ⟨e.digest.toArray⟩) rfl
      have e6 := tcell hE 6 (.slice ea e.exts.length ec) rfl
      have y0 := tcell hZ 0 (.slice none 0 0) rfl
      have y1 := tcell hZ 1 (.slice none 0 0) rfl
      have z0 := tfree hZ 0
      have z1 := tfree hZ 1
      have hbw := hbW.trans (HB_w2l.out.mono hbW.size)
      go_wp2_with fail
      try simp only [Exit.inBlock, Exit.then]
      obtain ⟨t1, t2⟩ := set2 hZ (.slice ta s.tree.length tc) (.slice ha s.holds.length hc)
      have hwf := hbw.grown t2 hbw.size (fun k hk => by injection hk; omega)
      refine bodyPost_ret (v := .tuple #[.agg #[.slice ta s.tree.length tc, .slice ha s.holds.length hc], .int .i64 lz]) ?_ ?_ ?_
      · refine results_row_tmp (p := 6) (u := 7) (ty := 83) (by kernel_rfl) _ _ (w.heap.size + 1 + 1) 83 _ (0, 0) _ ?_ t1 Tryz.underlying83 (by kernel_rfl) (by kernel_rfl)
        kernel_rfl
      · kernel_rfl
      · rw [HS.out]
        exact ⟨_, rfl, ⟨_, _, _, _, rfl, h2.below hwf, h3.below hwf⟩, hwf⟩
  · cases hb
    · have hS := (HB_w1.out.block (w.heap.size) (by omega)).trans qS
      have hE := (HB_w1.out.block (w.heap.size + 1) (by omega)).trans qE
      have hZ := (HB_w1.out.block (w.heap.size + 1 + 1) hlz).trans qZ
      have s0 := tcell hS 0 (.slice ta s.tree.length tc) rfl
      have s1 := tcell hS 1 (.slice ha s.holds.length hc) rfl
      have e0 := tcell hE 0 (.int .i64 e.kind) rfl
      have e1 := tcell hE 1 (.string ⟨e.path.toArray⟩) rfl
      have e2 := tcell hE 2 (.slice aa e.attrs.length ac) rfl
      have e3 := tcell hE 3 (.string ⟨e.target.toArray⟩) rfl
      have e4 := tcell hE 4 (.int .i64 e.size) rfl
      have e5 := tcell hE 5 (.string ⟨e.digest.toArray⟩) rfl
      have e6 := tcell hE 6 (.slice ea e.exts.length ec) rfl
      have y0 := tcell hZ 0 (.slice none 0 0) rfl
      have y1 := tcell hZ 1 (.slice none 0 0) rfl
      have z0 := tfree hZ 0
      have z1 := tfree hZ 1
      have hbw := hbW.trans (HB_w1.out.mono hbW.size)
      have HQ := Lib.hid (KC.out w1 (hbW.trans (HB_w1.out.mono hbW.size)))
      go_wp2_with fail
      refine HQ.out.mono ?_
      rintro en w2 ⟨rfl, hcall⟩
      have HB_w2 := Lib.hid (HB_w1.out.trans (hcall.mono HB_w1.out.size))
      have H1_w2 := Lib.hid (H1_w1.out.trans (hcall.mono H1_w1.out.size))
      clear hcall HQ
      have hS := (HB_w2.out.block (w.heap.size) (by omega)).trans qS
      have hE := (HB_w2.out.block (w.heap.size + 1) (by omega)).trans qE
      have hZ := (HB_w2.out.block (w.heap.size + 1 + 1) hlz).trans qZ
      have s0 := tcell hS 0 (.slice ta s.tree.length tc) rfl
      have s1 := tcell hS 1 (.slice ha s.holds.length hc) rfl
      have e0 := tcell hE 0 (.int .i64 e.kind) rfl
      have e1 := tcell hE 1 (.string ⟨e.path.toArray⟩) rfl
      have e2 := tcell hE 2 (.slice aa e.attrs.length ac) rfl
      have e3 := tcell hE 3 (.string ⟨e.target.toArray⟩) rfl
      have e4 := tcell hE 4 (.int .i64 e.size) rfl
      have e5 := tcell hE 5 (.string ⟨e.digest.toArray⟩) rfl
      have e6 := tcell hE 6 (.slice ea e.exts.length ec) rfl
      have y0 := tcell hZ 0 (.slice none 0 0) rfl
      have y1 := tcell hZ 1 (.slice none 0 0) rfl
      have z0 := tfree hZ 0
      have z1 := tfree hZ 1
      have hbw := hbW.trans (HB_w2.out.mono hbW.size)
      have HQ := Lib.hid (KH.out w2 (hbW.trans (HB_w2.out.mono hbW.size)))
      go_wp2_with fail
      refine HQ.out.mono ?_
      rintro en w3 ⟨rfl, hcall⟩
      have HB_w3 := Lib.hid (HB_w2.out.trans (hcall.mono HB_w2.out.size))
      have H1_w3 := Lib.hid (H1_w2.out.trans (hcall.mono H1_w2.out.size))
      clear hcall HQ
      have hS := (HB_w3.out.block (w.heap.size) (by omega)).trans qS
      have hE := (HB_w3.out.block (w.heap.size + 1) (by omega)).trans qE
      have hZ := (HB_w3.out.block (w.heap.size + 1 + 1) hlz).trans qZ
      have s0 := tcell hS 0 (.slice ta s.tree.length tc) rfl
      have s1 := tcell hS 1 (.slice ha s.holds.length hc) rfl
      have e0 := tcell hE 0 (.int .i64 e.kind) rfl
      have e1 := tcell hE 1 (.string ⟨e.path.toArray⟩) rfl
      have e2 := tcell hE 2 (.slice aa e.attrs.length ac) rfl
      have e3 := tcell hE 3 (.string ⟨e.target.toArray⟩) rfl
      have e4 := tcell hE 4 (.int .i64 e.size) rfl
      have e5 := tcell hE 5 (.string ⟨e.digest.toArray⟩) rfl
      have e6 := tcell hE 6 (.slice ea e.exts.length ec) rfl
      have y0 := tcell hZ 0 (.slice none 0 0) rfl
      have y1 := tcell hZ 1 (.slice none 0 0) rfl
      have z0 := tfree hZ 0
      have z1 := tfree hZ 1
      have hbw := hbW.trans (HB_w3.out.mono hbW.size)
      have HQ := Lib.hid (KR.out w3 (hbW.trans (HB_w3.out.mono hbW.size)))
      go_wp2_with fail
      refine HQ.out.mono ?_
      rintro en w3r ⟨hvv, rfl, hhv, hcall⟩
      have HB_w3r := Lib.hid (HB_w3.out.trans (hcall.mono HB_w3.out.size))
      have H1_w3r := Lib.hid (H1_w3.out.trans (hcall.mono H1_w3.out.size))
      clear hcall HQ
      obtain ⟨ma, mc, rfl, _, _⟩ := hhv.form
      have HH := Lib.hid hhv
      clear hhv
      have hS := (HB_w3r.out.block (w.heap.size) (by omega)).trans qS
      have hE := (HB_w3r.out.block (w.heap.size + 1) (by omega)).trans qE
      have hZ := (HB_w3r.out.block (w.heap.size + 1 + 1) hlz).trans qZ
      have s0 := tcell hS 0 (.slice ta s.tree.length tc) rfl
      have s1 := tcell hS 1 (.slice ha s.holds.length hc) rfl
      have e0 := tcell hE 0 (.int .i64 e.kind) rfl
      have e1 := tcell hE 1 (.string ⟨e.path.toArray⟩) rfl
      have e2 := tcell hE 2 (.slice aa e.attrs.length ac) rfl
      have e3 := tcell hE 3 (.string ⟨e.target.toArray⟩) rfl
      have e4 := tcell hE 4 (.int .i64 e.size) rfl
      have e5 := tcell hE 5 (.string ⟨e.digest.toArray⟩) rfl
      have e6 := tcell hE 6 (.slice ea e.exts.length ec) rfl
      have y0 := tcell hZ 0 (.slice none 0 0) rfl
      have y1 := tcell hZ 1 (.slice none 0 0) rfl
      have z0 := tfree hZ 0
      have z1 := tfree hZ 1
      have hbw := hbW.trans (HB_w3r.out.mono hbW.size)
      rcases Decidable.em (ah1 = 0) with hr0 | hr0
      · subst hr0
        have HS : Hid (applyS s e d = (0, ⟨at2, ah2⟩)) := by
          show _ = _
          rw [HSP.out, if_neg (by simp), if_neg (by simp)]
        go_wp2_with fail
        try simp only [Exit.inBlock, Exit.then]
        obtain ⟨t1, t2⟩ := set2 hZ (.slice na at2.length nc) (.slice ma ah2.length mc)
        have hwf := hbw.grown t2 hbw.size (fun k hk => by injection hk; omega)
        refine bodyPost_ret (v := .tuple #[.agg #[.slice na at2.length nc, .slice ma ah2.length mc], .int .i64 0]) ?_ ?_ ?_
        · refine results_row_tmp (p := 6) (u := 7) (ty := 83) (by kernel_rfl) _ _ (w.heap.size + 1 + 1) 83 _ (0, 0) _ ?_ t1 Tryz.underlying83 (by kernel_rfl) (by kernel_rfl)
          kernel_rfl
        · kernel_rfl
        · rw [HS.out]
          exact ⟨_, rfl, ⟨_, _, _, _, rfl, (HT1.out.below H1_w3r.out).apart hZ (by decide) (by decide) (by decide) t2, holds_apart HH.out hZ (by decide) t2⟩, hwf⟩
      · have HS : Hid (applyS s e d = (ah1, s)) := by
          show _ = _
          rw [HSP.out, if_neg (by simp), if_pos hr0]
        have q : (ah1 != 0) = true := bne_iff_ne.2 hr0
        go_wp2_with fail
        try simp only [Exit.inBlock, Exit.then]
        obtain ⟨t1, t2⟩ := set2 hZ (.slice ta s.tree.length tc) (.slice ha s.holds.length hc)
        have hwf := hbw.grown t2 hbw.size (fun k hk => by injection hk; omega)
        refine bodyPost_ret (v := .tuple #[.agg #[.slice ta s.tree.length tc, .slice ha s.holds.length hc], .int .i64 ah1]) ?_ ?_ ?_
        · refine results_row_tmp (p := 6) (u := 7) (ty := 83) (by kernel_rfl) _ _ (w.heap.size + 1 + 1) 83 _ (0, 0) _ ?_ t1 Tryz.underlying83 (by kernel_rfl) (by kernel_rfl)
          kernel_rfl
        · kernel_rfl
        · rw [HS.out]
          exact ⟨_, rfl, ⟨_, _, _, _, rfl, h2.below hwf, h3.below hwf⟩, hwf⟩
    · have hS := (HB_w1.out.block (w.heap.size) (by omega)).trans qS
      have hE := (HB_w1.out.block (w.heap.size + 1) (by omega)).trans qE
      have hZ := (HB_w1.out.block (w.heap.size + 1 + 1) hlz).trans qZ
      have s0 := tcell hS 0 (.slice ta s.tree.length tc) rfl
      have s1 := tcell hS 1 (.slice ha s.holds.length hc) rfl
      have e0 := tcell hE 0 (.int .i64 e.kind) rfl
      have e1 := tcell hE 1 (.string ⟨e.path.toArray⟩) rfl
      have e2 := tcell hE 2 (.slice aa e.attrs.length ac) rfl
      have e3 := tcell hE 3 (.string ⟨e.target.toArray⟩) rfl
      have e4 := tcell hE 4 (.int .i64 e.size) rfl
      have e5 := tcell hE 5 (.string ⟨e.digest.toArray⟩) rfl
      have e6 := tcell hE 6 (.slice ea e.exts.length ec) rfl
      have y0 := tcell hZ 0 (.slice none 0 0) rfl
      have y1 := tcell hZ 1 (.slice none 0 0) rfl
      have z0 := tfree hZ 0
      have z1 := tfree hZ 1
      have hbw := hbW.trans (HB_w1.out.mono hbW.size)
      have HQ := Lib.hid (KC.out w1 (hbW.trans (HB_w1.out.mono hbW.size)))
      go_wp2_with fail
      refine HQ.out.mono ?_
      rintro en w2 ⟨rfl, hcall⟩
      have HB_w2 := Lib.hid (HB_w1.out.trans (hcall.mono HB_w1.out.size))
      have H1_w2 := Lib.hid (H1_w1.out.trans (hcall.mono H1_w1.out.size))
      clear hcall HQ
      have hS := (HB_w2.out.block (w.heap.size) (by omega)).trans qS
      have hE := (HB_w2.out.block (w.heap.size + 1) (by omega)).trans qE
      have hZ := (HB_w2.out.block (w.heap.size + 1 + 1) hlz).trans qZ
      have s0 := tcell hS 0 (.slice ta s.tree.length tc) rfl
      have s1 := tcell hS 1 (.slice ha s.holds.length hc) rfl
      have e0 := tcell hE 0 (.int .i64 e.kind) rfl
      have e1 := tcell hE 1 (.string ⟨e.path.toArray⟩) rfl
      have e2 := tcell hE 2 (.slice aa e.attrs.length ac) rfl
      have e3 := tcell hE 3 (.string ⟨e.target.toArray⟩) rfl
      have e4 := tcell hE 4 (.int .i64 e.size) rfl
      have e5 := tcell hE 5 (.string ⟨e.digest.toArray⟩) rfl
      have e6 := tcell hE 6 (.slice ea e.exts.length ec) rfl
      have y0 := tcell hZ 0 (.slice none 0 0) rfl
      have y1 := tcell hZ 1 (.slice none 0 0) rfl
      have z0 := tfree hZ 0
      have z1 := tfree hZ 1
      have hbw := hbW.trans (HB_w2.out.mono hbW.size)
      have HQ := Lib.hid (KH.out w2 (hbW.trans (HB_w2.out.mono hbW.size)))
      go_wp2_with fail
      refine HQ.out.mono ?_
      rintro en w3 ⟨rfl, hcall⟩
      have HB_w3 := Lib.hid (HB_w2.out.trans (hcall.mono HB_w2.out.size))
      have H1_w3 := Lib.hid (H1_w2.out.trans (hcall.mono H1_w2.out.size))
      clear hcall HQ
      have hS := (HB_w3.out.block (w.heap.size) (by omega)).trans qS
      have hE := (HB_w3.out.block (w.heap.size + 1) (by omega)).trans qE
      have hZ := (HB_w3.out.block (w.heap.size + 1 + 1) hlz).trans qZ
      have s0 := tcell hS 0 (.slice ta s.tree.length tc) rfl
      have s1 := tcell hS 1 (.slice ha s.holds.length hc) rfl
      have e0 := tcell hE 0 (.int .i64 e.kind) rfl
      have e1 := tcell hE 1 (.string ⟨e.path.toArray⟩) rfl
      have e2 := tcell hE 2 (.slice aa e.attrs.length ac) rfl
      have e3 := tcell hE 3 (.string ⟨e.target.toArray⟩) rfl
      have e4 := tcell hE 4 (.int .i64 e.size) rfl
      have e5 := tcell hE 5 (.string ⟨e.digest.toArray⟩) rfl
      have e6 := tcell hE 6 (.slice ea e.exts.length ec) rfl
      have y0 := tcell hZ 0 (.slice none 0 0) rfl
      have y1 := tcell hZ 1 (.slice none 0 0) rfl
      have z0 := tfree hZ 0
      have z1 := tfree hZ 1
      have hbw := hbW.trans (HB_w3.out.mono hbW.size)
      have HQ := Lib.hid (KL.out w3 (hbW.trans (HB_w3.out.mono hbW.size)))
      go_wp2_with fail
      refine HQ.out.mono ?_
      rintro en w3l ⟨rfl, hcall⟩
      have HB_w3l := Lib.hid (HB_w3.out.trans (hcall.mono HB_w3.out.size))
      have H1_w3l := Lib.hid (H1_w3.out.trans (hcall.mono H1_w3.out.size))
      clear hcall HQ
      rcases Decidable.em (lz = 0) with hl0 | hl0
      · subst hl0
        have hS := (HB_w3l.out.block (w.heap.size) (by omega)).trans qS
        have hE := (HB_w3l.out.block (w.heap.size + 1) (by omega)).trans qE
        have hZ := (HB_w3l.out.block (w.heap.size + 1 + 1) hlz).trans qZ
        have s0 := tcell hS 0 (.slice ta s.tree.length tc) rfl
        have s1 := tcell hS 1 (.slice ha s.holds.length hc) rfl
        have e0 := tcell hE 0 (.int .i64 e.kind) rfl
        have e1 := tcell hE 1 (.string ⟨e.path.toArray⟩) rfl
        have e2 := tcell hE 2 (.slice aa e.attrs.length ac) rfl
        have e3 := tcell hE 3 (.string ⟨e.target.toArray⟩) rfl
        have e4 := tcell hE 4 (.int .i64 e.size) rfl
        have e5 := tcell hE 5 (.string ⟨e.digest.toArray⟩) rfl
        have e6 := tcell hE 6 (.slice ea e.exts.length ec) rfl
        have y0 := tcell hZ 0 (.slice none 0 0) rfl
        have y1 := tcell hZ 1 (.slice none 0 0) rfl
        have z0 := tfree hZ 0
        have z1 := tfree hZ 1
        have hbw := hbW.trans (HB_w3l.out.mono hbW.size)
        have HQ := Lib.hid (KR.out w3l (hbW.trans (HB_w3l.out.mono hbW.size)))
        go_wp2_with fail
        refine HQ.out.mono ?_
        rintro en w3lr ⟨hvv, rfl, hhv, hcall⟩
        have HB_w3lr := Lib.hid (HB_w3l.out.trans (hcall.mono HB_w3l.out.size))
        have H1_w3lr := Lib.hid (H1_w3l.out.trans (hcall.mono H1_w3l.out.size))
        clear hcall HQ
        obtain ⟨ma, mc, rfl, _, _⟩ := hhv.form
        have HH := Lib.hid hhv
        clear hhv
        have hS := (HB_w3lr.out.block (w.heap.size) (by omega)).trans qS
        have hE := (HB_w3lr.out.block (w.heap.size + 1) (by omega)).trans qE
        have hZ := (HB_w3lr.out.block (w.heap.size + 1 + 1) hlz).trans qZ
        have s0 := tcell hS 0 (.slice ta s.tree.length tc) rfl
        have s1 := tcell hS 1 (.slice ha s.holds.length hc) rfl
        have e0 := tcell hE 0 (.int .i64 e.kind) rfl
        have e1 := tcell hE 1 (.string ⟨e.path.toArray⟩) rfl
        have e2 := tcell hE 2 (.slice aa e.attrs.length ac) rfl
        have e3 := tcell hE 3 (.string ⟨e.target.toArray⟩) rfl
        have e4 := tcell hE 4 (.int .i64 e.size) rfl
        have e5 := tcell hE 5 (.string ⟨e.digest.toArray⟩) rfl
        have e6 := tcell hE 6 (.slice ea e.exts.length ec) rfl
        have y0 := tcell hZ 0 (.slice none 0 0) rfl
        have y1 := tcell hZ 1 (.slice none 0 0) rfl
        have z0 := tfree hZ 0
        have z1 := tfree hZ 1
        have hbw := hbW.trans (HB_w3lr.out.mono hbW.size)
        rcases Decidable.em (ah1 = 0) with hr0 | hr0
        · subst hr0
          have HS : Hid (applyS s e d = (0, ⟨at2, ah2⟩)) := by
            show _ = _
            rw [HSP.out, if_neg (by simp), if_neg (by simp)]
          go_wp2_with fail
          try simp only [Exit.inBlock, Exit.then]
          obtain ⟨t1, t2⟩ := set2 hZ (.slice na at2.length nc) (.slice ma ah2.length mc)
          have hwf := hbw.grown t2 hbw.size (fun k hk => by injection hk; omega)
          refine bodyPost_ret (v := .tuple #[.agg #[.slice na at2.length nc, .slice ma ah2.length mc], .int .i64 0]) ?_ ?_ ?_
          · refine results_row_tmp (p := 6) (u := 7) (ty := 83) (by kernel_rfl) _ _ (w.heap.size + 1 + 1) 83 _ (0, 0) _ ?_ t1 Tryz.underlying83 (by kernel_rfl) (by kernel_rfl)
            kernel_rfl
          · kernel_rfl
          · rw [HS.out]
            exact ⟨_, rfl, ⟨_, _, _, _, rfl, (HT1.out.below H1_w3lr.out).apart hZ (by decide) (by decide) (by decide) t2, holds_apart HH.out hZ (by decide) t2⟩, hwf⟩
        · have HS : Hid (applyS s e d = (ah1, s)) := by
            show _ = _
            rw [HSP.out, if_neg (by simp), if_pos hr0]
          have q : (ah1 != 0) = true := bne_iff_ne.2 hr0
          go_wp2_with fail
          try simp only [Exit.inBlock, Exit.then]
          obtain ⟨t1, t2⟩ := set2 hZ (.slice ta s.tree.length tc) (.slice ha s.holds.length hc)
          have hwf := hbw.grown t2 hbw.size (fun k hk => by injection hk; omega)
          refine bodyPost_ret (v := .tuple #[.agg #[.slice ta s.tree.length tc, .slice ha s.holds.length hc], .int .i64 ah1]) ?_ ?_ ?_
          · refine results_row_tmp (p := 6) (u := 7) (ty := 83) (by kernel_rfl) _ _ (w.heap.size + 1 + 1) 83 _ (0, 0) _ ?_ t1 Tryz.underlying83 (by kernel_rfl) (by kernel_rfl)
            kernel_rfl
          · kernel_rfl
          · rw [HS.out]
            exact ⟨_, rfl, ⟨_, _, _, _, rfl, h2.below hwf, h3.below hwf⟩, hwf⟩
      · have HS : Hid (applyS s e d = (lz, s)) := by
          show _ = _
          rw [HSP.out, if_pos ⟨by simp, hl0⟩]
        have q : (lz != 0) = true := bne_iff_ne.2 hl0
        have hS := (HB_w3l.out.block (w.heap.size) (by omega)).trans qS
        have hE := (HB_w3l.out.block (w.heap.size + 1) (by omega)).trans qE
        have hZ := (HB_w3l.out.block (w.heap.size + 1 + 1) hlz).trans qZ
        have s0 := tcell hS 0 (.slice ta s.tree.length tc) rfl
        have s1 := tcell hS 1 (.slice ha s.holds.length hc) rfl
        have e0 := tcell hE 0 (.int .i64 e.kind) rfl
        have e1 := tcell hE 1 (.string ⟨e.path.toArray⟩) rfl
        have e2 := tcell hE 2 (.slice aa e.attrs.length ac) rfl
        have e3 := tcell hE 3 (.string ⟨e.target.toArray⟩) rfl
        have e4 := tcell hE 4 (.int .i64 e.size) rfl
        have e5 := tcell hE 5 (.string ⟨e.digest.toArray⟩) rfl
        have e6 := tcell hE 6 (.slice ea e.exts.length ec) rfl
        have y0 := tcell hZ 0 (.slice none 0 0) rfl
        have y1 := tcell hZ 1 (.slice none 0 0) rfl
        have z0 := tfree hZ 0
        have z1 := tfree hZ 1
        have hbw := hbW.trans (HB_w3l.out.mono hbW.size)
        go_wp2_with fail
        try simp only [Exit.inBlock, Exit.then]
        obtain ⟨t1, t2⟩ := set2 hZ (.slice ta s.tree.length tc) (.slice ha s.holds.length hc)
        have hwf := hbw.grown t2 hbw.size (fun k hk => by injection hk; omega)
        refine bodyPost_ret (v := .tuple #[.agg #[.slice ta s.tree.length tc, .slice ha s.holds.length hc], .int .i64 lz]) ?_ ?_ ?_
        · refine results_row_tmp (p := 6) (u := 7) (ty := 83) (by kernel_rfl) _ _ (w.heap.size + 1 + 1) 83 _ (0, 0) _ ?_ t1 Tryz.underlying83 (by kernel_rfl) (by kernel_rfl)
          kernel_rfl
        · kernel_rfl
        · rw [HS.out]
          exact ⟨_, rfl, ⟨_, _, _, _, rfl, h2.below hwf, h3.below hwf⟩, hwf⟩
end Go.Proofs.YtbhmdcdhklgomaaGreatDoor
