/-
  session.Add.
-/
import Derived.Test.YtbhmdcdhklgomaaGreatDoorM38
import Derived.Test.YtbhmdcdhklgomaaGreatDoorM17
namespace Go.Proofs.YtbhmdcdhklgomaaGreatDoor
open Go.RowKit Top

theorem row5 {w : World} {b : Nat} {T : TypeId} {v0 v1 v2 v3 v4 : Value} (h : w.heap[b]? = some (.cells #[v0, v1, v2, v3, v4] T (0, 0))) :
    w.cell? ⟨b, 0, none⟩ = some v0 ∧ w.cell? ⟨b, 1, none⟩ = some v1 ∧ w.cell? ⟨b, 2, none⟩ = some v2 ∧ w.cell? ⟨b, 3, none⟩ = some v3 ∧ w.cell? ⟨b, 4, none⟩ = some v4 :=
  ⟨tcell h 0 v0 rfl, tcell h 1 v1 rfl, tcell h 2 v2 rfl, tcell h 3 v3 rfl, tcell h 4 v4 rfl⟩
theorem base_add (w : World) (v0 v1 v2 v3 v4 v5 v6 v7 v8 c0 c1 c2 c3 c4 : Value) : ∃ W, ((w.alloc (.cells #[v0, v1, v2, v3, v4, v5, v6, v7, v8] 68)).alloc (.cells #[c0, c1, c2, c3, c4] 62)).alloc (.cells #[.int .i64 0, .int .i64 0, .string ⟨#[]⟩, .slice none 0 0, .slice none 0 0, .int .i64 0, .string ⟨#[]⟩, .slice none 0 0, .slice none 0 0] 68) = W ∧
    W.heap[w.heap.size]? = some (.cells #[v0, v1, v2, v3, v4, v5, v6, v7, v8] 68 (0, 0)) ∧ W.heap[w.heap.size + 1]? = some (.cells #[c0, c1, c2, c3, c4] 62 (0, 0)) ∧
    W.heap[w.heap.size + 1 + 1]? = some (.cells #[.int .i64 0, .int .i64 0, .string ⟨#[]⟩, .slice none 0 0, .slice none 0 0, .int .i64 0, .string ⟨#[]⟩, .slice none 0 0, .slice none 0 0] 68 (0, 0)) ∧ Below w.heap.size w W ∧ w.heap.size + 1 + 1 < W.heap.size := by
  generalize (Obj.cells #[v0, v1, v2, v3, v4, v5, v6, v7, v8] 68) = A
  generalize (Obj.cells #[c0, c1, c2, c3, c4] 62) = B
  generalize hC : (Obj.cells #[.int .i64 0, .int .i64 0, .string ⟨#[]⟩, .slice none 0 0, .slice none 0 0, .int .i64 0, .string ⟨#[]⟩, .slice none 0 0, .slice none 0 0] 68) = C
  have e0 := heap_alloc_new w A
  have hb1 := (Below.refl _ w).alloc (Nat.le_refl _) A
  generalize hw1 : w.alloc A = w1 at *
  have hs1 : w1.heap.size = w.heap.size + 1 := by rw [← hw1]; simp
  have e1 := heap_alloc_new w1 B
  have hb2 := (Below.refl _ w1).alloc (Nat.le_refl _) B
  have hs2 : (w1.alloc B).heap.size = w.heap.size + 1 + 1 := by simp [hs1]
  generalize w1.alloc B = w2 at *
  have e2 := heap_alloc_new w2 C
  have hb3 := (Below.refl _ w2).alloc (Nat.le_refl _) C
  rw [hs1] at e1
  rw [hs2] at e2
  have hb12 := hb1.trans (hb2.mono hb1.size)
  refine ⟨_, rfl, (hb3.block _ (by omega)).trans ((hb2.block _ (by omega)).trans e0), (hb3.block _ (by omega)).trans e1, ?_, hb12.trans (hb3.mono hb12.size), by simp [hs2]⟩
  rw [e2, ← hC]

theorem base_rs (w : World) (v0 v1 v2 v3 v4 v5 v6 s0 s1 s2 : Value) : ∃ W, (w.alloc (.cells #[v0, v1, v2, v3, v4, v5, v6] 43)).alloc (.cells #[s0, s1, s2] 66) = W ∧ Below w.heap.size w W ∧ w.heap.size + 1 < W.heap.size ∧
    W.heap[w.heap.size]? = some (.cells #[v0, v1, v2, v3, v4, v5, v6] 43 (0, 0)) ∧ W.heap[w.heap.size + 1]? = some (.cells #[s0, s1, s2] 66 (0, 0)) := by
  generalize hA : (Obj.cells #[v0, v1, v2, v3, v4, v5, v6] 43) = A
  generalize hB : (Obj.cells #[s0, s1, s2] 66) = B
  have e0 := heap_alloc_new w A
  have hb1 := (Below.refl _ w).alloc (Nat.le_refl _) A
  generalize hw1 : w.alloc A = w1 at *
  have hs1 : w1.heap.size = w.heap.size + 1 := by rw [← hw1]; simp
  have e1 := heap_alloc_new w1 B
  have hb2 := (Below.refl _ w1).alloc (Nat.le_refl _) B
  rw [hs1] at e1
  refine ⟨_, rfl, hb1.trans (hb2.mono hb1.size), by simp [hs1], ?_, ?_⟩
  · rw [hb2.block _ (by omega), e0, ← hA]
  · rw [e1, ← hB]

set_option maxHeartbeats 4000000 in
set_option maxRecDepth 100000 in
theorem add_any (v cv : Value) (d : Draft) (c : Change) (m : Nat) (w : World) (hd : DraV w v d) (hc : ChgV w cv c) (hok : DraOk m d) (hm : m + d.entries.length ≤ 80) (hg : Ground w) (hca : c.attrs.length ≤ 16777216) (hcc : c.content.length ≤ 65536) (hP : c.path.length ≤ 16777216) (hT : c.target.length ≤ 16777216) :
    Calls Tryz.prog 22 #[v, cv] w fun en w' => ∃ v', en = .returned (.tuple #[v', .int .i64 (addS d c).2]) ∧ DraV w' v' (addS d c).1 ∧ Below w.heap.size w w' := by
  have HD := Lib.hid (fun X (hX : Below w.heap.size w X) => hd.below hX)
  have HG := Lib.hid hg
  have HOK := Lib.hid hok
  obtain ⟨da, dc, ca, cc, ta, tc, ha, hc', rfl, h2, h3, h4, h5⟩ := hd
  have HC := Lib.hid (fun X (hX : Below w.heap.size w X) => hc.below hX)
  obtain ⟨aa, ac, rfl, hat⟩ := hc
  obtain ⟨W, hW, q0, q1, q2, hbW, hsz⟩ := base_add w (.int .i64 d.num) (.int .i64 d.date) (.string ⟨d.prev.toArray⟩) (.slice da d.entries.length dc) (.slice ca d.store.chunks.length cc) (.int .i64 d.store.ses) (.string ⟨d.store.stream.toArray⟩) (.slice ta d.tree.length tc) (.slice ha d.holds.length hc') (.int .i64 c.kind) (.string ⟨c.path.toArray⟩) (.slice aa c.attrs.length ac) (.string ⟨c.target.toArray⟩) (.string ⟨c.content.toArray⟩)
  have HQ0 := Lib.hid q0
  have HQ1 := Lib.hid q1
  have HQ2 := Lib.hid q2
  obtain ⟨⟨d0, d1, d2, d3, d4, d5, d6, d7, d8⟩, _⟩ := row9 q0
  obtain ⟨c0, c1, c2, c3, c4⟩ := row5 q1
  have HE := Lib.hid (fun X (hX : Below w.heap.size w X) => h2.below hX)
  have HTR := Lib.hid (fun X (hX : Below w.heap.size w X) => h4.below hX)
  have HHO := Lib.hid (fun X (hX : Below w.heap.size w X) => h5.below hX)
  have HRC := Lib.hid (record_any (.agg #[.slice ca d.store.chunks.length cc, .int .i64 d.store.ses, .string ⟨d.store.stream.toArray⟩]) _ d.store c ((m + d.entries.length) * 200000) W ⟨ca, cc, rfl, h3.below hbW⟩ (HC.out W hbW) hok.rep.store (by omega) (hg.below hbW) hca hcc hP hT)
  have HA : Hid (addS d c = if entErr (recE d.store c) ≠ 0 then (d, entErr (recE d.store c))
      else if c.content ≠ [] ∧ c.kind ≠ 1 then (d, 1)
      else if 400 ≤ d.entries.length ∨ 14680064 < (recS d.store c).stream.length then (d, 6)
      else if (applyT d.tree (recE d.store c)).1 ≠ 0 then (d, (applyT d.tree (recE d.store c)).1)
      else if forbid d (recE d.store c) ≠ 0 then (d, forbid d (recE d.store c))
      else if (applyH d.holds (recE d.store c) d.date).1 ≠ 0 then (d, (applyH d.holds (recE d.store c) d.date).1)
      else (⟨d.num, d.date, d.prev, d.entries ++ [recE d.store c], recS d.store c, (applyT d.tree (recE d.store c)).2, (applyH d.holds (recE d.store c) d.date).2⟩, 0)) := Lib.hid rfl
  have hRP : (recE d.store c).path.length ≤ 16777216 := by rw [recE_path d.store c]; exact hP
  have hRT : (recE d.store c).target.length ≤ 16777216 := by
    unfold recE
    split <;> exact hT
  generalize addS d c = res at *
  generalize recE d.store c = e at *
  generalize recS d.store c = st at *
  clear hg hok q0 q1 q2 h2 h3 h4 h5 hat
  go_enter Tryz.func22, Tryz.ntmps22
  go_upto_region 1 with (fail)
  try rw [hW]
  clear hW
  go_wp2_with fail
  refine HRC.out.mono ?_
  rintro en w1 ⟨ev, sv, rfl, ⟨ea, eac, ex, exc, rfl, he1, he2⟩, ⟨na, nc, rfl, hst⟩, hb1⟩
  obtain ⟨Z, hZ, hbZ, hsZ, q6, q7⟩ := base_rs w1 (.int .i64 e.kind) (.string ⟨e.path.toArray⟩) (.slice ea e.attrs.length eac) (.string ⟨e.target.toArray⟩) (.int .i64 e.size) (.string ⟨e.digest.toArray⟩) (.slice ex e.exts.length exc) (.slice na st.chunks.length nc) (.int .i64 st.ses) (.string ⟨st.stream.toArray⟩)
  have hb1W : Below w.heap.size w w1 := hbW.trans (hb1.mono hbW.size)
  have hbWZ : Below W.heap.size W Z := hb1.trans (hbZ.mono hb1.size)
  have hbX0 := hb1W.trans (hbZ.mono hb1W.size)
  have hlW0 : w.heap.size < W.heap.size := by omega
  have hlW1 : w.heap.size + 1 < W.heap.size := by omega
  have hw1s := hb1.size
  have HQ0 := Lib.hid ((hbWZ.block _ hlW0).trans HQ0.out)
  have HQ1 := Lib.hid ((hbWZ.block _ hlW1).trans HQ1.out)
  have HQ2 := Lib.hid ((hbWZ.block _ hsz).trans HQ2.out)
  have HE6 := Lib.hid q6
  have HS7 := Lib.hid q7
  have HEV := Lib.hid (fun X (hX : Below w1.heap.size w1 X) => (⟨ea, eac, ex, exc, rfl, he1.below hX, he2.below hX⟩ : EntV X (.agg #[.int .i64 e.kind, .string ⟨e.path.toArray⟩, .slice ea e.attrs.length eac, .string ⟨e.target.toArray⟩, .int .i64 e.size, .string ⟨e.digest.toArray⟩, .slice ex e.exts.length exc]) e))
  have HST := Lib.hid hst
  have HEC := Lib.hid (⟨ea, eac, ex, exc, rfl, he1, he2⟩ : EntC w1 (entL e (.slice ea e.attrs.length eac) (.slice ex e.exts.length exc)) e)
  have hRPe := hRP
  clear d0 d1 d2 d3 d4 d5 d6 d7 d8 c0 c1 c2 c3 c4 q6 q7 he1 he2 hst HRC
  obtain ⟨⟨d0, d1, d2, d3, d4, d5, d6, d7, d8⟩, _⟩ := row9 HQ0.out
  obtain ⟨e0, e1, e2, e3, e4, e5, e6, _⟩ := row7 HE6.out
  have s0 := tcell HS7.out 0 (.slice na st.chunks.length nc) rfl
  have s1 := tcell HS7.out 1 (.int .i64 st.ses) rfl
  have s2 := tcell HS7.out 2 (.string ⟨st.stream.toArray⟩) rfl
  have c0 := tcell HQ1.out 0 (.int .i64 c.kind) rfl
  have c4 := tcell HQ1.out 4 (.string ⟨c.content.toArray⟩) rfl
  generalize hz : entErr e = z at *
  have HZ := Lib.hid hz
  clear hz
  go_upto_region 2 with (fail)
  try rw [hZ]
  clear hZ
  by_cases g1 : z = 0
  case neg =>
    have g1b : (z != 0) = true := bne_iff_ne.2 g1
    have HR : Hid (res = (d, z)) := Lib.hid (by rw [HA.out, if_pos g1])
    obtain ⟨⟨y0, y1, y2, y3, y4, y5, y6, y7, y8⟩, z0, z1, z2, z3, z4, z5, z6, z7, z8⟩ := row9 HQ2.out
    go_wp2_with fail
    try simp only [Exit.inBlock, Exit.then]
    obtain ⟨t1, sg⟩ := set9 HQ2.out (.int .i64 d.num) (.int .i64 d.date) (.string ⟨d.prev.toArray⟩) (.slice da d.entries.length dc) (.slice ca d.store.chunks.length cc) (.int .i64 d.store.ses) (.string ⟨d.store.stream.toArray⟩) (.slice ta d.tree.length tc) (.slice ha d.holds.length hc')
    refine bodyPost_ret (results_row_tmp (p := 4) (u := 5) (ty := 68) rfl _ _ (w.heap.size + 1 + 1) 68 _ (0, 0) _ rfl t1 Tryz.underlying68 rfl (by kernel_rfl)) rfl ?_
    rw [HR.out]
    exact ⟨_, rfl, DraV.oth free_dra rfl HQ2.out (Oth.of_grown sg) (HD.out _ hbX0), hbX0.grown sg hbX0.size (fun k hk => by injection hk; omega)⟩
  subst g1
  have HA := Lib.hid (HA.out.trans (if_neg (by simp)))
  have hp : ((⟨c.content.toArray⟩ : ByteArray).toList == []) = decide (c.content = []) := by
    rw [Lib.toList_data]
    cases c.content <;> rfl
  have HA : Hid (res = _) := HA
  by_cases g2 : c.content ≠ [] ∧ c.kind ≠ 1
  case pos =>
    have HR : Hid (res = (d, 1)) := Lib.hid (by rw [HA.out, if_pos g2])
    rw [decide_eq_false g2.1] at hp
    have g2k : ¬ c.kind = 1 := g2.2
    have g2b : (c.kind != 1) = true := bne_iff_ne.2 g2.2
    clear g2
    generalize (⟨c.content.toArray⟩ : ByteArray) = U at *
    obtain ⟨⟨y0, y1, y2, y3, y4, y5, y6, y7, y8⟩, z0, z1, z2, z3, z4, z5, z6, z7, z8⟩ := row9 HQ2.out
    go_wp2_with fail
    try simp only [Exit.inBlock, Exit.then]
    obtain ⟨t1, sg⟩ := set9 HQ2.out (.int .i64 d.num) (.int .i64 d.date) (.string ⟨d.prev.toArray⟩) (.slice da d.entries.length dc) (.slice ca d.store.chunks.length cc) (.int .i64 d.store.ses) (.string ⟨d.store.stream.toArray⟩) (.slice ta d.tree.length tc) (.slice ha d.holds.length hc')
    refine bodyPost_ret (results_row_tmp (p := 4) (u := 5) (ty := 68) rfl _ _ (w.heap.size + 1 + 1) 68 _ (0, 0) _ rfl t1 Tryz.underlying68 rfl (by kernel_rfl)) rfl ?_
    rw [HR.out]
    exact ⟨_, rfl, DraV.oth free_dra rfl HQ2.out (Oth.of_grown sg) (HD.out _ hbX0), hbX0.grown sg hbX0.size (fun k hk => by injection hk; omega)⟩
  have HA := Lib.hid (HA.out.trans (if_neg g2))
  have hor : c.content = [] ∨ c.kind = 1 := by
    rcases Decidable.em (c.content = []) with h | h
    · exact .inl h
    · rcases Decidable.em (c.kind = 1) with h2 | h2
      · exact .inr h2
      · exact absurd ⟨h, h2⟩ g2
  clear g2
  rcases Decidable.em (c.content = []) with hct | hct
  case' inl =>
    rw [decide_eq_true hct] at hp
    clear hor hct
    generalize (⟨c.content.toArray⟩ : ByteArray) = U at *
    go_upto_region 6 with (fail)
  case' inr =>
    have hk1 : c.kind = 1 := by
      rcases hor with h | h
      · exact absurd h hct
      · exact h
    have hk1b : (c.kind != 1) = false := by rw [hk1]; rfl
    rw [decide_eq_false hct] at hp
    clear hor hct hk1
    generalize (⟨c.content.toArray⟩ : ByteArray) = U at *
    go_upto_region 6 with (fail)
  all_goals
    clear c0 c4 hp
    by_cases g3 : 400 ≤ d.entries.length ∨ 14680064 < st.stream.length
    case pos =>
      have HR : Hid (res = (d, 6)) := Lib.hid (by rw [HA.out, if_pos g3])
      have h5 : (14680064 : Int) < (st.stream.length : Int) := by omega
      have h4' : ¬ (400 : Int) ≤ (d.entries.length : Int) := by omega
      have h4d : decide ((400 : Int) ≤ (d.entries.length : Int)) = false := decide_eq_false h4'
      have h5d : decide ((14680064 : Int) < (st.stream.length : Int)) = true := decide_eq_true h5
      clear g3
      obtain ⟨⟨y0, y1, y2, y3, y4, y5, y6, y7, y8⟩, z0, z1, z2, z3, z4, z5, z6, z7, z8⟩ := row9 HQ2.out
      go_wp2_with fail
      try simp only [Exit.inBlock, Exit.then]
      obtain ⟨t1, sg⟩ := set9 HQ2.out (.int .i64 d.num) (.int .i64 d.date) (.string ⟨d.prev.toArray⟩) (.slice da d.entries.length dc) (.slice ca d.store.chunks.length cc) (.int .i64 d.store.ses) (.string ⟨d.store.stream.toArray⟩) (.slice ta d.tree.length tc) (.slice ha d.holds.length hc')
      refine bodyPost_ret (results_row_tmp (p := 4) (u := 5) (ty := 68) rfl _ _ (w.heap.size + 1 + 1) 68 _ (0, 0) _ rfl t1 Tryz.underlying68 rfl (by kernel_rfl)) rfl ?_
      rw [HR.out]
      exact ⟨_, rfl, DraV.oth free_dra rfl HQ2.out (Oth.of_grown sg) (HD.out _ hbX0), hbX0.grown sg hbX0.size (fun k hk => by injection hk; omega)⟩
    have HA := Lib.hid (HA.out.trans (if_neg g3))
    have h4' : ¬ (400 : Int) ≤ (d.entries.length : Int) := by omega
    have h5' : ¬ (14680064 : Int) < (st.stream.length : Int) := by omega
    have h4d : decide ((400 : Int) ≤ (d.entries.length : Int)) = false := decide_eq_false h4'
    have h5d : decide ((14680064 : Int) < (st.stream.length : Int)) = false := decide_eq_false h5'
    clear g3
    have hrt := HOK.out.rep.tree
    have hrh := HOK.out.rep.holds
    have hrt : d.tree.length ≤ 5000 := hrt
    have hrh : d.holds.length ≤ m + d.entries.length := hrh
    have HTA := Lib.hid (tapply_any _ _ d.tree e Z (HTR.out Z hbX0) (by omega) HOK.out.rep.paths hRP (HEV.out Z hbZ) (fun Y hY => check_any _ e Y (EntV.below (HEV.out Z hbZ) hY) ((HG.out.below hbX0).below hY) hRP hRT))
    unfold TPost at HTA
    generalize applyT d.tree e = TA at *
    obtain ⟨tco, tnew⟩ := TA
    go_wp2_with fail
    refine HTA.out.mono ?_
    rintro en x2 ⟨tv, rfl, htn, hb2⟩
    obtain ⟨tva, tvc, rfl, _, _⟩ := htn.form
    have hbX2 := hbX0.trans (hb2.mono hbX0.size)
    have hbZ2 := hbZ.trans (hb2.mono hbZ.size)
    have HTN := Lib.hid (fun X (hX : Below x2.heap.size x2 X) => htn.below hX)
    clear htn HTA
    clear d0 d1 d2 d3 d4 d5 d6 d7 d8 e0 e1 e2 e3 e4 e5 e6 s0 s1 s2
    have HQ0 := Lib.hid ((hb2.block _ (Array.getElem?_eq_some_iff.1 HQ0.out).1).trans HQ0.out)
    have HQ2 := Lib.hid ((hb2.block _ (Array.getElem?_eq_some_iff.1 HQ2.out).1).trans HQ2.out)
    have HE6 := Lib.hid ((hb2.block _ (Array.getElem?_eq_some_iff.1 HE6.out).1).trans HE6.out)
    have HS7 := Lib.hid ((hb2.block _ (Array.getElem?_eq_some_iff.1 HS7.out).1).trans HS7.out)
    obtain ⟨⟨d0, d1, d2, d3, d4, d5, d6, d7, d8⟩, _⟩ := row9 HQ0.out
    obtain ⟨e0, e1, e2, e3, e4, e5, e6, _⟩ := row7 HE6.out
    have s0 := tcell HS7.out 0 (.slice na st.chunks.length nc) rfl
    have s1 := tcell HS7.out 1 (.int .i64 st.ses) rfl
    have s2 := tcell HS7.out 2 (.string ⟨st.stream.toArray⟩) rfl
    go_upto_region 9 with (fail)
    by_cases g4 : tco = 0
    case neg =>
      have g4b : (tco != 0) = true := bne_iff_ne.2 g4
      have HR : Hid (res = (d, tco)) := Lib.hid (by rw [HA.out, if_pos g4])
      obtain ⟨⟨y0, y1, y2, y3, y4, y5, y6, y7, y8⟩, z0, z1, z2, z3, z4, z5, z6, z7, z8⟩ := row9 HQ2.out
      go_wp2_with fail
      try simp only [Exit.inBlock, Exit.then]
      obtain ⟨t1, sg⟩ := set9 HQ2.out (.int .i64 d.num) (.int .i64 d.date) (.string ⟨d.prev.toArray⟩) (.slice da d.entries.length dc) (.slice ca d.store.chunks.length cc) (.int .i64 d.store.ses) (.string ⟨d.store.stream.toArray⟩) (.slice ta d.tree.length tc) (.slice ha d.holds.length hc')
      refine bodyPost_ret (results_row_tmp (p := 4) (u := 5) (ty := 68) rfl _ _ (w.heap.size + 1 + 1) 68 _ (0, 0) _ rfl t1 Tryz.underlying68 rfl (by kernel_rfl)) rfl ?_
      rw [HR.out]
      exact ⟨_, rfl, DraV.oth free_dra rfl HQ2.out (Oth.of_grown sg) (HD.out _ hbX2), hbX2.grown sg hbX2.size (fun k hk => by injection hk; omega)⟩
    subst g4
    have HA := Lib.hid (HA.out.trans (if_neg (by simp)))
    have HFO := Lib.hid (forbidden_any _ _ d e x2 (HD.out x2 hbX2) (HEV.out x2 hbZ2) (by omega) HOK.out.rep.fits hRP)
    have HA : Hid (res = _) := HA
    generalize forbid d e = fo at *
    go_wp2_with fail
    refine HFO.out.mono ?_
    rintro en x3 ⟨rfl, hb3⟩
    have hbX3 := hbX2.trans (hb3.mono hbX2.size)
    have hbZ3 := hbZ2.trans (hb3.mono hbZ2.size)
    have hb23 := hb3
    clear HFO
    clear d0 d1 d2 d3 d4 d5 d6 d7 d8 e0 e1 e2 e3 e4 e5 e6 s0 s1 s2
    have HQ0 := Lib.hid ((hb3.block _ (Array.getElem?_eq_some_iff.1 HQ0.out).1).trans HQ0.out)
    have HQ2 := Lib.hid ((hb3.block _ (Array.getElem?_eq_some_iff.1 HQ2.out).1).trans HQ2.out)
    have HE6 := Lib.hid ((hb3.block _ (Array.getElem?_eq_some_iff.1 HE6.out).1).trans HE6.out)
    have HS7 := Lib.hid ((hb3.block _ (Array.getElem?_eq_some_iff.1 HS7.out).1).trans HS7.out)
    obtain ⟨⟨d0, d1, d2, d3, d4, d5, d6, d7, d8⟩, _⟩ := row9 HQ0.out
    obtain ⟨e0, e1, e2, e3, e4, e5, e6, _⟩ := row7 HE6.out
    have s0 := tcell HS7.out 0 (.slice na st.chunks.length nc) rfl
    have s1 := tcell HS7.out 1 (.int .i64 st.ses) rfl
    have s2 := tcell HS7.out 2 (.string ⟨st.stream.toArray⟩) rfl
    go_upto_region 12 with (fail)
    by_cases g5 : fo = 0
    case neg =>
      have g5b : (fo != 0) = true := bne_iff_ne.2 g5
      have HR : Hid (res = (d, fo)) := Lib.hid (by rw [HA.out, if_pos g5])
      obtain ⟨⟨y0, y1, y2, y3, y4, y5, y6, y7, y8⟩, z0, z1, z2, z3, z4, z5, z6, z7, z8⟩ := row9 HQ2.out
      go_wp2_with fail
      try simp only [Exit.inBlock, Exit.then]
      obtain ⟨t1, sg⟩ := set9 HQ2.out (.int .i64 d.num) (.int .i64 d.date) (.string ⟨d.prev.toArray⟩) (.slice da d.entries.length dc) (.slice ca d.store.chunks.length cc) (.int .i64 d.store.ses) (.string ⟨d.store.stream.toArray⟩) (.slice ta d.tree.length tc) (.slice ha d.holds.length hc')
      refine bodyPost_ret (results_row_tmp (p := 4) (u := 5) (ty := 68) rfl _ _ (w.heap.size + 1 + 1) 68 _ (0, 0) _ rfl t1 Tryz.underlying68 rfl (by kernel_rfl)) rfl ?_
      rw [HR.out]
      exact ⟨_, rfl, DraV.oth free_dra rfl HQ2.out (Oth.of_grown sg) (HD.out _ hbX3), hbX3.grown sg hbX3.size (fun k hk => by injection hk; omega)⟩
    subst g5
    have HA := Lib.hid (HA.out.trans (if_neg (by simp)))
    have HHA := Lib.hid (happly_any _ _ d.holds e d.date x3 (HHO.out x3 hbX3) (by omega) (HEV.out x3 hbZ3) (HG.out.below hbX3) HOK.out.rep.fits hRP hRT)
    have HA : Hid (res = _) := HA
    unfold HPost at HHA
    generalize applyH d.holds e d.date = HAp at *
    obtain ⟨hco, hnew⟩ := HAp
    go_wp2_with fail
    refine HHA.out.mono ?_
    rintro en x4 ⟨hv4, rfl, hhn, hb4⟩
    obtain ⟨hoa, hoc, rfl, _, _⟩ := hhn.form
    have hbX4 := hbX3.trans (hb4.mono hbX3.size)
    have hbZ4 := hbZ3.trans (hb4.mono hbZ3.size)
    have hb24 := hb23.trans (hb4.mono hb23.size)
    have HHN := Lib.hid (fun X (hX : Below x4.heap.size x4 X) => Flat.below (c := holdC) hhn hX)
    clear hhn HHA
    clear d0 d1 d2 d3 d4 d5 d6 d7 d8 e0 e1 e2 e3 e4 e5 e6 s0 s1 s2
    have HQ0 := Lib.hid ((hb4.block _ (Array.getElem?_eq_some_iff.1 HQ0.out).1).trans HQ0.out)
    have HQ2 := Lib.hid ((hb4.block _ (Array.getElem?_eq_some_iff.1 HQ2.out).1).trans HQ2.out)
    have HE6 := Lib.hid ((hb4.block _ (Array.getElem?_eq_some_iff.1 HE6.out).1).trans HE6.out)
    have HS7 := Lib.hid ((hb4.block _ (Array.getElem?_eq_some_iff.1 HS7.out).1).trans HS7.out)
    obtain ⟨⟨d0, d1, d2, d3, d4, d5, d6, d7, d8⟩, _⟩ := row9 HQ0.out
    obtain ⟨e0, e1, e2, e3, e4, e5, e6, _⟩ := row7 HE6.out
    have s0 := tcell HS7.out 0 (.slice na st.chunks.length nc) rfl
    have s1 := tcell HS7.out 1 (.int .i64 st.ses) rfl
    have s2 := tcell HS7.out 2 (.string ⟨st.stream.toArray⟩) rfl
    go_upto_region 15 with (fail)
    by_cases g6 : hco = 0
    case neg =>
      have g6b : (hco != 0) = true := bne_iff_ne.2 g6
      have HR : Hid (res = (d, hco)) := Lib.hid (by rw [HA.out, if_pos g6])
      obtain ⟨⟨y0, y1, y2, y3, y4, y5, y6, y7, y8⟩, z0, z1, z2, z3, z4, z5, z6, z7, z8⟩ := row9 HQ2.out
      go_wp2_with fail
      try simp only [Exit.inBlock, Exit.then]
      obtain ⟨t1, sg⟩ := set9 HQ2.out (.int .i64 d.num) (.int .i64 d.date) (.string ⟨d.prev.toArray⟩) (.slice da d.entries.length dc) (.slice ca d.store.chunks.length cc) (.int .i64 d.store.ses) (.string ⟨d.store.stream.toArray⟩) (.slice ta d.tree.length tc) (.slice ha d.holds.length hc')
      refine bodyPost_ret (results_row_tmp (p := 4) (u := 5) (ty := 68) rfl _ _ (w.heap.size + 1 + 1) 68 _ (0, 0) _ rfl t1 Tryz.underlying68 rfl (by kernel_rfl)) rfl ?_
      rw [HR.out]
      exact ⟨_, rfl, DraV.oth free_dra rfl HQ2.out (Oth.of_grown sg) (HD.out _ hbX4), hbX4.grown sg hbX4.size (fun k hk => by injection hk; omega)⟩
    subst g6
    have HA := Lib.hid (HA.out.trans (if_neg (by simp)))
    have HR : Hid (res = (⟨d.num, d.date, d.prev, d.entries ++ [e], st, tnew, hnew⟩, 0)) := HA
    obtain ⟨N, hN, hbN, hzN, hblk⟩ := box9 x4 (.int .i64 d.num) (.int .i64 d.date) (.string ⟨d.prev.toArray⟩) (.slice da d.entries.length dc) (.slice ca d.store.chunks.length cc) (.int .i64 d.store.ses) (.string ⟨d.store.stream.toArray⟩) (.slice ta d.tree.length tc) (.slice ha d.holds.length hc') 68
    have hbXN := hbX4.trans (hbN.mono hbX4.size)
    have hbZN := hbZ4.trans (hbN.mono hbZ4.size)
    have HN12 := Lib.hid hblk
    clear hblk
    go_upto_region 18 with (fail)
    try rw [hN]
    clear hN
    clear d0 d1 d2 d3 d4 d5 d6 d7 d8 e0 e1 e2 e3 e4 e5 e6 s0 s1 s2
    have HQ0 := Lib.hid ((hbN.block _ (Array.getElem?_eq_some_iff.1 HQ0.out).1).trans HQ0.out)
    have HQ2 := Lib.hid ((hbN.block _ (Array.getElem?_eq_some_iff.1 HQ2.out).1).trans HQ2.out)
    have HE6 := Lib.hid ((hbN.block _ (Array.getElem?_eq_some_iff.1 HE6.out).1).trans HE6.out)
    have HS7 := Lib.hid ((hbN.block _ (Array.getElem?_eq_some_iff.1 HS7.out).1).trans HS7.out)
    obtain ⟨⟨d0, d1, d2, d3, d4, d5, d6, d7, d8⟩, _⟩ := row9 HQ0.out
    obtain ⟨e0, e1, e2, e3, e4, e5, e6, _⟩ := row7 HE6.out
    have s0 := tcell HS7.out 0 (.slice na st.chunks.length nc) rfl
    have s1 := tcell HS7.out 1 (.int .i64 st.ses) rfl
    have s2 := tcell HS7.out 2 (.string ⟨st.stream.toArray⟩) rfl
    have a0 : N.cell? ⟨w.heap.size, 3, none⟩ = some (.slice da d.entries.length dc) := d3
    have a1 : N.cell? ⟨w1.heap.size, 0, none⟩ = some (.int .i64 e.kind) := e0
    have a2 : N.cell? ⟨w1.heap.size, 1, none⟩ = some (.string ⟨e.path.toArray⟩) := e1
    have a3 : N.cell? ⟨w1.heap.size, 2, none⟩ = some (.slice ea e.attrs.length eac) := e2
    have a4 : N.cell? ⟨w1.heap.size, 3, none⟩ = some (.string ⟨e.target.toArray⟩) := e3
    have a5 : N.cell? ⟨w1.heap.size, 4, none⟩ = some (.int .i64 e.size) := e4
    have a6 : N.cell? ⟨w1.heap.size, 5, none⟩ = some (.string ⟨e.digest.toArray⟩) := e5
    have a7 : N.cell? ⟨w1.heap.size, 6, none⟩ = some (.slice ex e.exts.length exc) := e6
    have hl0 : w.heap.size < N.heap.size := (Array.getElem?_eq_some_iff.1 HQ0.out).1
    have hl6 : w1.heap.size < N.heap.size := (Array.getElem?_eq_some_iff.1 HE6.out).1
    have hl12 : x4.heap.size < N.heap.size := hzN
    have hx41 : w1.heap.size + 1 < x4.heap.size := by
      have t1 := hb2.size
      have t2 := hb24.size
      omega
    have hx4w : w.heap.size + 1 + 1 < x4.heap.size := by omega
    have hne0 : w.heap.size ≠ x4.heap.size := by omega
    have hne6 : w1.heap.size ≠ x4.heap.size := by omega
    have hVV := (Below.refl N.heap.size N).drew
    have hAl : Below N.heap.size N (N.drew.alloc (.cells #[.int .i64 e.kind, .string ⟨e.path.toArray⟩, .slice ea e.attrs.length eac, .string ⟨e.target.toArray⟩, .int .i64 e.size, .string ⟨e.digest.toArray⟩, .slice ex e.exts.length exc] 43)) := hVV.alloc hVV.size (.cells #[.int .i64 e.kind, .string ⟨e.path.toArray⟩, .slice ea e.attrs.length eac, .string ⟨e.target.toArray⟩, .int .i64 e.size, .string ⟨e.digest.toArray⟩, .slice ex e.exts.length exc] 43)
    have hN1 : Below w1.heap.size w1 N := hbZN
    have hA1 := hN1.trans (hVV.mono hN1.size)
    have hB1 := hN1.trans (hAl.mono hN1.size)
    have HCL := Lib.hid (fun X (hX : Below w1.heap.size w1 X) => cloneEntsR w1 _ d.entries X (HE.out w1 hb1W) hX (by omega))
    have k0 := cell_on hVV hl0 a0
    have k1 := cell_on hVV hl6 a1
    have k2 := cell_on hVV hl6 a2
    have k3 := cell_on hVV hl6 a3
    have k4 := cell_on hVV hl6 a4
    have k5 := cell_on hVV hl6 a5
    have k6 := cell_on hVV hl6 a6
    have k7 := cell_on hVV hl6 a7
    have m0 := cell_on hAl hl0 a0
    have m1 := cell_on hAl hl6 a1
    have m2 := cell_on hAl hl6 a2
    have m3 := cell_on hAl hl6 a3
    have m4 := cell_on hAl hl6 a4
    have m5 := cell_on hAl hl6 a5
    have m6 := cell_on hAl hl6 a6
    have m7 := cell_on hAl hl6 a7
    clear d0 d1 d2 d3 d4 d5 d6 d7 d8 e0 e1 e2 e3 e4 e5 e6 s0 s1 s2
    go_region_held3 (fun w' => w'.cell? ⟨w.heap.size, 3, none⟩ = some (.slice da d.entries.length dc) ∧ w'.cell? ⟨w1.heap.size, 0, none⟩ = some (.int .i64 e.kind) ∧ w'.cell? ⟨w1.heap.size, 1, none⟩ = some (.string ⟨e.path.toArray⟩) ∧ w'.cell? ⟨w1.heap.size, 2, none⟩ = some (.slice ea e.attrs.length eac) ∧ w'.cell? ⟨w1.heap.size, 3, none⟩ = some (.string ⟨e.target.toArray⟩) ∧ w'.cell? ⟨w1.heap.size, 4, none⟩ = some (.int .i64 e.size) ∧ w'.cell? ⟨w1.heap.size, 5, none⟩ = some (.string ⟨e.digest.toArray⟩) ∧ w'.cell? ⟨w1.heap.size, 6, none⟩ = some (.slice ex e.exts.length exc))
      (first | with_reducible exact ⟨a0, a1, a2, a3, a4, a5, a6, a7⟩ | with_reducible exact ⟨k0, k1, k2, k3, k4, k5, k6, k7⟩ | with_reducible exact ⟨m0, m1, m2, m3, m4, m5, m6, m7⟩ | with_reducible exact ⟨p0, p1, p2, p3, p4, p5, p6, p7⟩ | with_reducible exact ⟨n0, n1, n2, n3, n4, n5, n6, n7⟩ | with_reducible exact ⟨q0, q1, q2, q3, q4, q5, q6, q7⟩ | with_reducible exact ⟨r0, r1, r2, r3, r4, r5, r6, r7⟩ | go_keep)
      (first | (go_at_call 62; refine (HCL.out _ hA1).mono ?_; rintro en v1 ⟨cv, rfl, ⟨vss, hr1, hr2⟩, hv1⟩; obtain ⟨ga, gc, rfl, _, _⟩ := row_form hr1; have hvc : Below N.heap.size N v1 := hVV.trans (hv1.mono hVV.size); have p0 := cell_on hvc hl0 a0; have p1 := cell_on hvc hl6 a1; have p2 := cell_on hvc hl6 a2; have p3 := cell_on hvc hl6 a3; have p4 := cell_on hvc hl6 a4; have p5 := cell_on hvc hl6 a5; have p6 := cell_on hvc hl6 a6; have p7 := cell_on hvc hl6 a7; have hvl : Below N.heap.size N (v1.alloc (.cells #[.int .i64 e.kind, .string ⟨e.path.toArray⟩, .slice ea e.attrs.length eac, .string ⟨e.target.toArray⟩, .int .i64 e.size, .string ⟨e.digest.toArray⟩, .slice ex e.exts.length exc] 43)) := hvc.alloc hvc.size (.cells #[.int .i64 e.kind, .string ⟨e.path.toArray⟩, .slice ea e.attrs.length eac, .string ⟨e.target.toArray⟩, .int .i64 e.size, .string ⟨e.digest.toArray⟩, .slice ex e.exts.length exc] 43); have n0 := cell_on hvl hl0 a0; have n1 := cell_on hvl hl6 a1; have n2 := cell_on hvl hl6 a2; have n3 := cell_on hvl hl6 a3; have n4 := cell_on hvl hl6 a4; have n5 := cell_on hvl hl6 a5; have n6 := cell_on hvl hl6 a6; have n7 := cell_on hvl hl6 a7) | (go_at_call 62; refine (HCL.out _ hB1).mono ?_; rintro en v1 ⟨cv, rfl, ⟨vss, hr1, hr2⟩, hv1⟩; obtain ⟨ga, gc, rfl, _, _⟩ := row_form hr1; have hvc : Below N.heap.size N v1 := hAl.trans (hv1.mono hAl.size); have p0 := cell_on hvc hl0 a0; have p1 := cell_on hvc hl6 a1; have p2 := cell_on hvc hl6 a2; have p3 := cell_on hvc hl6 a3; have p4 := cell_on hvc hl6 a4; have p5 := cell_on hvc hl6 a5; have p6 := cell_on hvc hl6 a6; have p7 := cell_on hvc hl6 a7; have HG1 := Lib.hid ((hv1.block N.drew.heap.size (by simp)).trans (heap_alloc_new N.drew (.cells #[.int .i64 e.kind, .string ⟨e.path.toArray⟩, .slice ea e.attrs.length eac, .string ⟨e.target.toArray⟩, .int .i64 e.size, .string ⟨e.digest.toArray⟩, .slice ex e.exts.length exc] 43)))) | (refine step_appN 43 32 7 112 _ info_ent Tryz.underlying32 rfl (by decide) (by decide) (w := v1.alloc (.cells #[.int .i64 e.kind, .string ⟨e.path.toArray⟩, .slice ea e.attrs.length eac, .string ⟨e.target.toArray⟩, .int .i64 e.size, .string ⟨e.digest.toArray⟩, .slice ex e.exts.length exc] 43)) (by rfl) (.tmp 82) (.tmp 84) (by rfl) _ (.slice ga d.entries.length gc) d.entries.length vss.flatten (by rfl) (World.ownsRow.alloc hr1 _) v1.heap.size (entL e (.slice ea e.attrs.length eac) (.slice ex e.exts.length exc)) (by rfl) (heap_alloc_new v1 _) rfl (entC_one HEC.out) (by omega) hvl.size ?_; intro v2 w3 hr3 hb3 hg3; obtain ⟨ga2, gc2, rfl, _, _⟩ := row_form hr3; have hvd : Below N.heap.size N w3 := hvl.trans (hb3.mono (Nat.le_refl _)); have q0 := cell_on hvd hl0 a0; have q1 := cell_on hvd hl6 a1; have q2 := cell_on hvd hl6 a2; have q3 := cell_on hvd hl6 a3; have q4 := cell_on hvd hl6 a4; have q5 := cell_on hvd hl6 a5; have q6 := cell_on hvd hl6 a6; have q7 := cell_on hvd hl6 a7; have HF := Lib.hid ((hvd.block x4.heap.size hl12).trans HN12.out); have y3 := tcell HF.out 3 (.slice da d.entries.length dc) rfl; have z3 := tfree HF.out 3; have r0 := (cell_set_other (w := w3) hne0 3 3 (.slice ga2 (d.entries.length + 1) gc2)).trans q0; have r1 := (cell_set_other (w := w3) hne6 3 0 (.slice ga2 (d.entries.length + 1) gc2)).trans q1; have r2 := (cell_set_other (w := w3) hne6 3 1 (.slice ga2 (d.entries.length + 1) gc2)).trans q2; have r3 := (cell_set_other (w := w3) hne6 3 2 (.slice ga2 (d.entries.length + 1) gc2)).trans q3; have r4 := (cell_set_other (w := w3) hne6 3 3 (.slice ga2 (d.entries.length + 1) gc2)).trans q4; have r5 := (cell_set_other (w := w3) hne6 3 4 (.slice ga2 (d.entries.length + 1) gc2)).trans q5; have r6 := (cell_set_other (w := w3) hne6 3 5 (.slice ga2 (d.entries.length + 1) gc2)).trans q6; have r7 := (cell_set_other (w := w3) hne6 3 6 (.slice ga2 (d.entries.length + 1) gc2)).trans q7) | (refine step_appN 43 32 7 112 _ info_ent Tryz.underlying32 rfl (by decide) (by decide) (w := v1) (by rfl) (.tmp 82) (.tmp 84) (by rfl) _ (.slice ga d.entries.length gc) d.entries.length vss.flatten (by rfl) hr1 N.drew.heap.size (entL e (.slice ea e.attrs.length eac) (.slice ex e.exts.length exc)) (by rfl) HG1.out rfl (entC_one HEC.out) (by omega) hv1.size ?_; intro v2 w3 hr3 hb3 hg3; obtain ⟨ga2, gc2, rfl, _, _⟩ := row_form hr3; have hvd : Below N.heap.size N w3 := hvc.trans (hb3.mono hAl.size); have q0 := cell_on hvd hl0 a0; have q1 := cell_on hvd hl6 a1; have q2 := cell_on hvd hl6 a2; have q3 := cell_on hvd hl6 a3; have q4 := cell_on hvd hl6 a4; have q5 := cell_on hvd hl6 a5; have q6 := cell_on hvd hl6 a6; have q7 := cell_on hvd hl6 a7; have HF := Lib.hid ((hvd.block x4.heap.size hl12).trans HN12.out); have y3 := tcell HF.out 3 (.slice da d.entries.length dc) rfl; have z3 := tfree HF.out 3; have r0 := (cell_set_other (w := w3) hne0 3 3 (.slice ga2 (d.entries.length + 1) gc2)).trans q0; have r1 := (cell_set_other (w := w3) hne6 3 0 (.slice ga2 (d.entries.length + 1) gc2)).trans q1; have r2 := (cell_set_other (w := w3) hne6 3 1 (.slice ga2 (d.entries.length + 1) gc2)).trans q2; have r3 := (cell_set_other (w := w3) hne6 3 2 (.slice ga2 (d.entries.length + 1) gc2)).trans q3; have r4 := (cell_set_other (w := w3) hne6 3 3 (.slice ga2 (d.entries.length + 1) gc2)).trans q4; have r5 := (cell_set_other (w := w3) hne6 3 4 (.slice ga2 (d.entries.length + 1) gc2)).trans q5; have r6 := (cell_set_other (w := w3) hne6 3 5 (.slice ga2 (d.entries.length + 1) gc2)).trans q6; have r7 := (cell_set_other (w := w3) hne6 3 6 (.slice ga2 (d.entries.length + 1) gc2)).trans q7))
    all_goals
      clear a0 a1 a2 a3 a4 a5 a6 a7 k0 k1 k2 k3 k4 k5 k6 k7 m0 m1 m2 m3 m4 m5 m6 m7 p0 p1 p2 p3 p4 p5 p6 p7 q0 q1 q2 q3 q4 q5 q6 q7 r0 r1 r2 r3 r4 r5 r6 r7 y3 z3
      have sg := set_grown (w := w3) (b := x4.heap.size) [(3, .slice ga2 (d.entries.length + 1) gc2)]
      have tU := sets HF.out [(3, .slice ga2 (d.entries.length + 1) gc2)]
      have HU12 : Hid (_ = some (Obj.cells #[.int .i64 d.num, .int .i64 d.date, .string ⟨d.prev.toArray⟩, .slice ga2 (d.entries.length + 1) gc2, .slice ca d.store.chunks.length cc, .int .i64 d.store.ses, .string ⟨d.store.stream.toArray⟩, .slice ta d.tree.length tc, .slice ha d.holds.length hc'] 68 (0, 0))) := Lib.hid tU
      have HU2 := Lib.hid ((Oth.of_grown sg).get ((hvd.block _ (Array.getElem?_eq_some_iff.1 HQ2.out).1).trans HQ2.out) (by omega))
      have HU7 := Lib.hid ((Oth.of_grown sg).get ((hvd.block _ (Array.getElem?_eq_some_iff.1 HS7.out).1).trans HS7.out) (by omega))
      have h4d := hbN.trans (hvd.mono hbN.size)
      have h4U := h4d.grown sg h4d.size (fun k hk => by injection hk; omega)
      have HROW := Lib.hid (row_keepC hr3 ((Oth.of_grown sg).keepC (Ts := [68]) HF.out (by simp)) (by decide))
      clear tU hr3 hr1 hb3 hg3
      generalize hU : List.foldl _ w3 _ = U at sg HU12 HU2 HU7 h4U HROW
      have hU : w3.setCell ⟨x4.heap.size, 3, none⟩ (.slice ga2 (d.entries.length + 1) gc2) = U := hU
      rw [hU]
      clear hU sg
      have s0 := tcell HU7.out 0 (.slice na st.chunks.length nc) rfl
      have s1 := tcell HU7.out 1 (.int .i64 st.ses) rfl
      have s2 := tcell HU7.out 2 (.string ⟨st.stream.toArray⟩) rfl
      obtain ⟨⟨_, _, _, _, y4, y5, y6, y7, y8⟩, _, _, _, _, z4, z5, z6, z7, z8⟩ := row9 HU12.out
      have sg := set_grown (w := U) (b := x4.heap.size) [(4, .slice na st.chunks.length nc), (5, .int .i64 st.ses), (6, .string ⟨st.stream.toArray⟩), (7, .slice tva tnew.length tvc), (8, .slice hoa hnew.length hoc)]
      have tY := sets HU12.out [(4, .slice na st.chunks.length nc), (5, .int .i64 st.ses), (6, .string ⟨st.stream.toArray⟩), (7, .slice tva tnew.length tvc), (8, .slice hoa hnew.length hoc)]
      have HY12 : Hid (_ = some (Obj.cells #[.int .i64 d.num, .int .i64 d.date, .string ⟨d.prev.toArray⟩, .slice ga2 (d.entries.length + 1) gc2, .slice na st.chunks.length nc, .int .i64 st.ses, .string ⟨st.stream.toArray⟩, .slice tva tnew.length tvc, .slice hoa hnew.length hoc] 68 (0, 0))) := Lib.hid tY
      have HY2 := Lib.hid ((Oth.of_grown sg).get HU2.out (by omega))
      have h4Y := h4U.grown sg h4U.size (fun k hk => by injection hk; omega)
      have HROW := Lib.hid (row_keepC HROW.out ((Oth.of_grown sg).keepC (Ts := [68]) HU12.out (by simp)) (by decide))
      clear tY
      go_upto_region 20 with (fail)
      generalize hY : List.foldl _ U _ = Y at sg HY12 HY2 h4Y HROW
      have hY : ((((U.setCell ⟨x4.heap.size, 4, none⟩ (.slice na st.chunks.length nc)).setCell ⟨x4.heap.size, 5, none⟩ (.int .i64 st.ses)).setCell ⟨x4.heap.size, 6, none⟩ (.string ⟨st.stream.toArray⟩)).setCell ⟨x4.heap.size, 7, none⟩ (.slice tva tnew.length tvc)).setCell ⟨x4.heap.size, 8, none⟩ (.slice hoa hnew.length hoc) = Y := hY
      rw [hY]
      clear hY sg s0 s1 s2 y4 y5 y6 y7 y8 z4 z5 z6 z7 z8
      have hYw := hbX4.trans (h4Y.mono hbX4.size)
      have hY1 : Below w1.heap.size w1 Y := hbZ4.trans (h4Y.mono hbZ4.size)
      have hY2 : Below x2.heap.size x2 Y := hb24.trans (h4Y.mono hb24.size)
      have hlen : (d.entries ++ [e]).length = d.entries.length + 1 := by simp
      have hent : OwnEnts w1 Y _ (.slice ga2 (d.entries.length + 1) gc2) (d.entries ++ [e]) := ⟨vss ++ [(entL e (.slice ea e.attrs.length eac) (.slice ex e.exts.length exc))], by
        rw [hlen, List.flatten_append, List.flatten_singleton]
        exact HROW.out, all2_snoc hr2 HEC.out⟩
      have hd : DraV Y (.agg #[.int .i64 d.num, .int .i64 d.date, .string ⟨d.prev.toArray⟩, .slice ga2 (d.entries.length + 1) gc2, .slice na st.chunks.length nc, .int .i64 st.ses, .string ⟨st.stream.toArray⟩, .slice tva tnew.length tvc, .slice hoa hnew.length hoc]) ⟨d.num, d.date, d.prev, d.entries ++ [e], st, tnew, hnew⟩ := ⟨ga2, gc2, na, nc, tva, tvc, hoa, hoc, by rw [hlen], by rw [hlen]; exact hent.read hY1, Flat.below (c := chunkC) HST.out hY1, HTN.out Y hY2, HHN.out Y h4Y⟩
      have HDN := Lib.hid hd
      clear hd hent
      obtain ⟨⟨d0, d1, d2, d3, d4, d5, d6, d7, d8⟩, _⟩ := row9 HY12.out
      obtain ⟨⟨y0, y1, y2, y3, y4, y5, y6, y7, y8⟩, z0, z1, z2, z3, z4, z5, z6, z7, z8⟩ := row9 HY2.out
      go_wp2_with fail
      try simp only [Exit.inBlock, Exit.then]
      obtain ⟨t1, sg⟩ := set9 HY2.out (.int .i64 d.num) (.int .i64 d.date) (.string ⟨d.prev.toArray⟩) (.slice ga2 (d.entries.length + 1) gc2) (.slice na st.chunks.length nc) (.int .i64 st.ses) (.string ⟨st.stream.toArray⟩) (.slice tva tnew.length tvc) (.slice hoa hnew.length hoc)
      refine bodyPost_ret (results_row_tmp (p := 4) (u := 5) (ty := 68) rfl _ _ (w.heap.size + 1 + 1) 68 _ (0, 0) _ rfl t1 Tryz.underlying68 rfl (by kernel_rfl)) rfl ?_
      rw [HR.out]
      exact ⟨_, rfl, DraV.oth free_dra rfl HY2.out (Oth.of_grown sg) HDN.out, hYw.grown sg hYw.size (fun k hk => by injection hk; omega)⟩
end Go.Proofs.YtbhmdcdhklgomaaGreatDoor
