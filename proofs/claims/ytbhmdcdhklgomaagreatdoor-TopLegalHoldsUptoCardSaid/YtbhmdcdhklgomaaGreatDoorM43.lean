/-
  session.Begin.
-/
import Derived.Test.YtbhmdcdhklgomaaGreatDoorM37
import Derived.Test.YtbhmdcdhklgomaaGreatDoorM42
import Derived.Test.YtbhmdcdhklgomaaGreatDoorM03
import Derived.Test.YtbhmdcdhklgomaaGreatDoorM07
import Derived.Test.YtbhmdcdhklgomaaGreatDoorM38
namespace Go.Proofs.YtbhmdcdhklgomaaGreatDoor
open Go.RowKit Top

theorem replay_at (v : Value) (l : List Ses) (w : World) (hv : ArcV w v l) (hg : Ground w) (hok : ∀ s ∈ l, SesOk s) (hcn : count l ≤ 80) (hl : l.length ≤ 255) :
    Calls Tryz.prog 55 #[v] w fun en w' => ∃ ea ec ca cc ta tc ha hc, en = .returned (.agg #[.int .i64 0, .int .i64 0, .string ⟨#[]⟩, .slice ea 0 ec, .slice ca (replay l).store.chunks.length cc, .int .i64 (replay l).store.ses, .string ⟨(replay l).store.stream.toArray⟩, .slice ta (replay l).tree.length tc, .slice ha (replay l).holds.length hc]) ∧
      Ents w' (.slice ea 0 ec) [] ∧ Flat chunkC 4 w' (.slice ca (replay l).store.chunks.length cc) (replay l).store.chunks ∧ Ents w' (.slice ta (replay l).tree.length tc) (replay l).tree ∧ Holds w' (.slice ha (replay l).holds.length hc) (replay l).holds ∧ Below w.heap.size w w' := by
  refine (replay_any v l w hv hg (fun s hs => (hok s hs).each) (fun s hs => Nat.le_trans (hok s hs).stream (by decide)) hcn hl).mono ?_
  rintro en w2 ⟨rv, rfl, ⟨ea, ec, ca, cc, ta, tc, ha, hc, rfl, r2, r3, r4, r5⟩, hb2⟩
  exact ⟨ea, ec, ca, cc, ta, tc, ha, hc, rfl, r2, r3, r4, r5, hb2⟩

set_option maxHeartbeats 4000000 in
set_option maxRecDepth 100000 in
theorem sbegin_any (v : Value) (l : List Ses) (date : Int) (w : World) (hv : ArcV w v l) (hg : Ground w) (hok : ∀ s ∈ l, SesOk s) (hcn : count l ≤ 80) (hl : l.length ≤ 255) :
    Calls Tryz.prog 21 #[v, .int .i64 date] w fun en w' => ∃ v', en = .returned (.tuple #[v', .int .i64 (beginS l date).2]) ∧ DraV w' v' (beginS l date).1 ∧ Below w.heap.size w w' := by
  have HV := Lib.hid (fun X (hX : Below w.heap.size w X) => hv.below hX)
  have HG := Lib.hid hg
  have HOK := Lib.hid hok
  obtain ⟨id, da, sp, sa, sc, rfl, hs⟩ := hv
  obtain ⟨W, hW, q0, q4, hbW, hsz⟩ := base_beg w (.int .u32 id) (.int .i64 da) (.int .i64 sp) (.slice sa l.length sc)
  have HQ0 := Lib.hid q0
  have HQ4 := Lib.hid q4
  have a0 := tcell q0 0 (.int .u32 id) rfl
  have a1 := tcell q0 1 (.int .i64 da) rfl
  have a2 := tcell q0 2 (.int .i64 sp) rfl
  have a3 := tcell q0 3 (.slice sa l.length sc) rfl
  obtain ⟨⟨y0, y1, y2, y3, y4, y5, y6, y7, y8⟩, z0, z1, z2, z3, z4, z5, z6, z7, z8⟩ := row9 q4
  have HLD := Lib.hid (lastDate_any _ l W (HV.out W hbW))
  clear hs hg hok q0 q4
  go_enter Tryz.func21, Tryz.ntmps21
  go_upto_region 1 with (fail)
  try rw [hW]
  clear hW
  by_cases n1 : 255 ≤ l.length
  · have HR : Hid (beginS l date = (draft0, 6)) := Lib.hid (if_pos n1)
    have n1' : (255 : Int) ≤ (l.length : Int) := by omega
    go_wp2_with fail
    try simp only [Exit.inBlock, Exit.then]
    obtain ⟨t1, sg⟩ := set9 HQ4.out (.int .i64 0) (.int .i64 0) (.string ⟨#[]⟩) (.slice none 0 0) (.slice none 0 0) (.int .i64 0) (.string ⟨#[]⟩) (.slice none 0 0) (.slice none 0 0)
    refine bodyPost_ret (results_row_tmp (p := 4) (u := 5) (ty := 68) rfl _ _ (w.heap.size + 1) 68 _ (0, 0) _ rfl t1 Tryz.underlying68 rfl (by kernel_rfl)) rfl ?_
    rw [HR.out]
    exact ⟨_, rfl, draft0_any _, hbW.grown sg hbW.size (fun k hk => by injection hk; omega)⟩
  have n1' : ¬ (255 : Int) ≤ (l.length : Int) := by omega
  by_cases n2 : date < 0
  · have HR : Hid (beginS l date = (draft0, 2)) := Lib.hid (by unfold beginS; rw [if_neg n1, if_pos (.inl n2)])
    go_wp2_with fail
    try simp only [Exit.inBlock, Exit.then]
    obtain ⟨t1, sg⟩ := set9 HQ4.out (.int .i64 0) (.int .i64 0) (.string ⟨#[]⟩) (.slice none 0 0) (.slice none 0 0) (.int .i64 0) (.string ⟨#[]⟩) (.slice none 0 0) (.slice none 0 0)
    refine bodyPost_ret (results_row_tmp (p := 4) (u := 5) (ty := 68) rfl _ _ (w.heap.size + 1) 68 _ (0, 0) _ rfl t1 Tryz.underlying68 rfl (by kernel_rfl)) rfl ?_
    rw [HR.out]
    exact ⟨_, rfl, draft0_any _, hbW.grown sg hbW.size (fun k hk => by injection hk; omega)⟩
  by_cases n3 : 1000000000 < date
  · have HR : Hid (beginS l date = (draft0, 2)) := Lib.hid (by unfold beginS; rw [if_neg n1, if_pos (.inr n3)])
    go_wp2_with fail
    try simp only [Exit.inBlock, Exit.then]
    obtain ⟨t1, sg⟩ := set9 HQ4.out (.int .i64 0) (.int .i64 0) (.string ⟨#[]⟩) (.slice none 0 0) (.slice none 0 0) (.int .i64 0) (.string ⟨#[]⟩) (.slice none 0 0) (.slice none 0 0)
    refine bodyPost_ret (results_row_tmp (p := 4) (u := 5) (ty := 68) rfl _ _ (w.heap.size + 1) 68 _ (0, 0) _ rfl t1 Tryz.underlying68 rfl (by kernel_rfl)) rfl ?_
    rw [HR.out]
    exact ⟨_, rfl, draft0_any _, hbW.grown sg hbW.size (fun k hk => by injection hk; omega)⟩
  go_wp2_with fail
  refine HLD.out.mono ?_
  rintro en w1 ⟨rfl, hb1⟩
  have hlW : w.heap.size < W.heap.size := by omega
  have hbw1 := hbW.trans (hb1.mono hbW.size)
  have HQ0 := Lib.hid ((hb1.block _ hlW).trans HQ0.out)
  have HQ4 := Lib.hid ((hb1.block _ hsz).trans HQ4.out)
  clear a0 a1 a2 a3 y0 y1 y2 y3 y4 y5 y6 y7 y8 z0 z1 z2 z3 z4 z5 z6 z7 z8 HLD
  have a0 := tcell HQ0.out 0 (.int .u32 id) rfl
  have a1 := tcell HQ0.out 1 (.int .i64 da) rfl
  have a2 := tcell HQ0.out 2 (.int .i64 sp) rfl
  have a3 := tcell HQ0.out 3 (.slice sa l.length sc) rfl
  by_cases n4 : date < lastD l
  · have HR : Hid (beginS l date = (draft0, 14)) := Lib.hid (by unfold beginS; rw [if_neg n1, if_neg (by omega), if_pos n4])
    generalize lastD l = ld at *
    obtain ⟨⟨y0, y1, y2, y3, y4, y5, y6, y7, y8⟩, z0, z1, z2, z3, z4, z5, z6, z7, z8⟩ := row9 HQ4.out
    go_wp2_with fail
    try simp only [Exit.inBlock, Exit.then]
    obtain ⟨t1, sg⟩ := set9 HQ4.out (.int .i64 0) (.int .i64 0) (.string ⟨#[]⟩) (.slice none 0 0) (.slice none 0 0) (.int .i64 0) (.string ⟨#[]⟩) (.slice none 0 0) (.slice none 0 0)
    refine bodyPost_ret (results_row_tmp (p := 4) (u := 5) (ty := 68) rfl _ _ (w.heap.size + 1) 68 _ (0, 0) _ rfl t1 Tryz.underlying68 rfl (by kernel_rfl)) rfl ?_
    rw [HR.out]
    exact ⟨_, rfl, draft0_any _, hbw1.grown sg hbw1.size (fun k hk => by injection hk; omega)⟩
  have HB : Hid (beginS l date = if (Top.begin (replay l).store ((l.length : Int) + 1)).2 ≠ 0 then (draft0, (Top.begin (replay l).store ((l.length : Int) + 1)).2) else (⟨(l.length : Int) + 1, date, prevB l, [], (Top.begin (replay l).store ((l.length : Int) + 1)).1, (replay l).tree, active (replay l).holds date⟩, 0)) :=
    Lib.hid (by unfold beginS; rw [if_neg n1, if_neg (by omega), if_neg n4])
  have HRP := Lib.hid (replay_at _ l w1 (HV.out w1 hbw1) (HG.out.below hbw1) HOK.out hcn hl)
  have HRK := Lib.hid (replay_ok (l := l) (fun s hs => (HOK.out s hs).each))
  have n4' : ¬ date < lastD l := n4
  generalize lastD l = ld at *
  go_wp2_with fail
  refine HRP.out.mono ?_
  rintro en w2 ⟨ea, ec, ca, cc, ta, tc, ha, hc, rfl, rE, rC, rT, rH, hb2⟩
  have hbw2 := hbw1.trans (hb2.mono hbw1.size)
  have hw2 := hb2.size
  have hw1 := hb1.size
  have HPV := Lib.hid (fun X (hX : Below w.heap.size w X) => previous_any _ l X (HV.out X hX) (HG.out.below hX) HOK.out)
  generalize replay l = D at *
  generalize prevB l = pv at *
  obtain ⟨V, hV, hbV, hzV, hblk⟩ := box9 w2 (.int .i64 0) (.int .i64 0) (.string ⟨#[]⟩) (.slice ea 0 ec) (.slice ca D.store.chunks.length cc) (.int .i64 D.store.ses) (.string ⟨D.store.stream.toArray⟩) (.slice ta D.tree.length tc) (.slice ha D.holds.length hc) 68
  have hbVw := hbw2.trans (hbV.mono hbw2.size)
  have hb1V : Below w1.heap.size w1 V := hb2.trans (hbV.mono hb2.size)
  have HV0 := Lib.hid ((hb1V.block _ (Nat.lt_of_lt_of_le hlW hw1)).trans HQ0.out)
  have HV4 := Lib.hid ((hb1V.block _ (Nat.lt_of_lt_of_le hsz hw1)).trans HQ4.out)
  have HB6 := Lib.hid hblk
  clear a0 a1 a2 a3 HQ0 HQ4 HRP hblk
  have a0 : V.drew.cell? ⟨w.heap.size, 0, none⟩ = some (.int .u32 id) := tcell HV0.out 0 (.int .u32 id) rfl
  have a1 : V.drew.cell? ⟨w.heap.size, 1, none⟩ = some (.int .i64 da) := tcell HV0.out 1 (.int .i64 da) rfl
  have a2 : V.drew.cell? ⟨w.heap.size, 2, none⟩ = some (.int .i64 sp) := tcell HV0.out 2 (.int .i64 sp) rfl
  have a3 : V.drew.cell? ⟨w.heap.size, 3, none⟩ = some (.slice sa l.length sc) := tcell HV0.out 3 (.slice sa l.length sc) rfl
  have hl0 : w.heap.size < V.drew.heap.size := (Array.getElem?_eq_some_iff.1 HV0.out).1
  have hl6 : w2.heap.size < V.drew.heap.size := hzV
  have hne : w.heap.size ≠ w2.heap.size := by omega
  have q1 : IntKind.i64.wrap ((l.length : Int) + 1) = (l.length : Int) + 1 := by rw [IntKind.wrap_i64]; omega
  go_upto_region 8 with (fail)
  try rw [hV]
  clear hV
  go_region_held3 (fun w' => w'.cell? ⟨w.heap.size, 0, none⟩ = some (.int .u32 id) ∧ w'.cell? ⟨w.heap.size, 1, none⟩ = some (.int .i64 da) ∧ w'.cell? ⟨w.heap.size, 2, none⟩ = some (.int .i64 sp) ∧ w'.cell? ⟨w.heap.size, 3, none⟩ = some (.slice sa l.length sc))
    (first | with_reducible exact ⟨a0, a1, a2, a3⟩ | with_reducible exact ⟨p0, p1, p2, p3⟩ | with_reducible exact ⟨r0, r1, r2, r3'⟩ | with_reducible exact ⟨s0, s1, s2, s3⟩ | with_reducible exact ⟨t0, t1, t2, t3⟩ | go_keep)
    (first | (go_at_call 56; refine (HPV.out V.drew hbVw.drew).mono ?_; rintro en v1 ⟨rfl, hv1⟩; have p0 := cell_on hv1 hl0 a0; have p1 := cell_on hv1 hl0 a1; have p2 := cell_on hv1 hl0 a2; have p3 := cell_on hv1 hl0 a3; have HB6' := Lib.hid ((hv1.block _ hl6).trans HB6.out); have y0 := tcell HB6'.out 0 (.int .i64 0) rfl; have y1 := tcell HB6'.out 1 (.int .i64 0) rfl; have y2 := tcell HB6'.out 2 (.string ⟨#[]⟩) rfl; have z0 := tfree HB6'.out 0; have z1 := tfree HB6'.out 1; have z2 := tfree HB6'.out 2 ; have r0 := (cell_set_other (w := v1) hne 0 0 (.int .i64 ((l.length : Int) + 1))).trans p0; have r1 := (cell_set_other (w := v1) hne 0 1 (.int .i64 ((l.length : Int) + 1))).trans p1; have r2 := (cell_set_other (w := v1) hne 0 2 (.int .i64 ((l.length : Int) + 1))).trans p2; have r3' := (cell_set_other (w := v1) hne 0 3 (.int .i64 ((l.length : Int) + 1))).trans p3 ; have s0 := (cell_set_other (w := v1.setCell ⟨w2.heap.size, 0, none⟩ (.int .i64 ((l.length : Int) + 1))) hne 1 0 (.int .i64 date)).trans r0; have s1 := (cell_set_other (w := v1.setCell ⟨w2.heap.size, 0, none⟩ (.int .i64 ((l.length : Int) + 1))) hne 1 1 (.int .i64 date)).trans r1; have s2 := (cell_set_other (w := v1.setCell ⟨w2.heap.size, 0, none⟩ (.int .i64 ((l.length : Int) + 1))) hne 1 2 (.int .i64 date)).trans r2; have s3 := (cell_set_other (w := v1.setCell ⟨w2.heap.size, 0, none⟩ (.int .i64 ((l.length : Int) + 1))) hne 1 3 (.int .i64 date)).trans r3' ; have t0 := (cell_set_other (w := (v1.setCell ⟨w2.heap.size, 0, none⟩ (.int .i64 ((l.length : Int) + 1))).setCell ⟨w2.heap.size, 1, none⟩ (.int .i64 date)) hne 2 0 (.string ⟨pv.toArray⟩)).trans s0; have t1 := (cell_set_other (w := (v1.setCell ⟨w2.heap.size, 0, none⟩ (.int .i64 ((l.length : Int) + 1))).setCell ⟨w2.heap.size, 1, none⟩ (.int .i64 date)) hne 2 1 (.string ⟨pv.toArray⟩)).trans s1; have t2 := (cell_set_other (w := (v1.setCell ⟨w2.heap.size, 0, none⟩ (.int .i64 ((l.length : Int) + 1))).setCell ⟨w2.heap.size, 1, none⟩ (.int .i64 date)) hne 2 2 (.string ⟨pv.toArray⟩)).trans s2; have t3 := (cell_set_other (w := (v1.setCell ⟨w2.heap.size, 0, none⟩ (.int .i64 ((l.length : Int) + 1))).setCell ⟨w2.heap.size, 1, none⟩ (.int .i64 date)) hne 2 3 (.string ⟨pv.toArray⟩)).trans s3))
  clear p0 p1 p2 p3 r0 r1 r2 r3' s0 s1 s2 s3 t0 t1 t2 t3 y0 y1 y2 z0 z1 z2 a0 a1 a2 a3
  have sg := set_grown (w := v1) (b := w2.heap.size) [(0, .int .i64 ((l.length : Int) + 1)), (1, .int .i64 date), (2, .string ⟨pv.toArray⟩)]
  have tY := sets HB6'.out [(0, .int .i64 ((l.length : Int) + 1)), (1, .int .i64 date), (2, .string ⟨pv.toArray⟩)]
  have hbv2 : Below w2.heap.size w2 v1 := hbV.drew.trans (hv1.mono hbV.drew.size)
  have hb2Y := hbv2.grown sg hbv2.size (fun k hk => by injection hk; omega)
  have hl4 : w.heap.size + 1 < V.drew.heap.size := (Array.getElem?_eq_some_iff.1 HV4.out).1
  have HY4 := Lib.hid ((Oth.of_grown sg).get ((hv1.block _ hl4).trans HV4.out) (by omega))
  have hbY := hbw2.trans (hb2Y.mono hbw2.size)
  have HB6Y : Hid (_ = some (Obj.cells #[.int .i64 ((l.length : Int) + 1), .int .i64 date, .string ⟨pv.toArray⟩, .slice ea 0 ec, .slice ca D.store.chunks.length cc, .int .i64 D.store.ses, .string ⟨D.store.stream.toArray⟩, .slice ta D.tree.length tc, .slice ha D.holds.length hc] 68 (0, 0))) := Lib.hid tY
  clear tY
  generalize hY : List.foldl _ v1 _ = Y at sg hb2Y HY4 hbY HB6Y
  have hY : ((v1.setCell ⟨w2.heap.size, 0, none⟩ (.int .i64 ((l.length : Int) + 1))).setCell ⟨w2.heap.size, 1, none⟩ (.int .i64 date)).setCell ⟨w2.heap.size, 2, none⟩ (.string ⟨pv.toArray⟩) = Y := hY
  rw [hY]
  clear hY HB6' sg hv1 hbv2 HB6 HV0 HV4
  have hch := HRK.out.store.chunks
  have hnh := HRK.out.holds
  have HBE := Lib.hid (begin_any _ D.store ((l.length : Int) + 1) Y ⟨ca, cc, rfl, rC.below hb2Y⟩ (by omega))
  have k0 := tcell HB6Y.out 0 (.int .i64 ((l.length : Int) + 1)) rfl
  have k4 := tcell HB6Y.out 4 (.slice ca D.store.chunks.length cc) rfl
  have k5 := tcell HB6Y.out 5 (.int .i64 D.store.ses) rfl
  have k6 := tcell HB6Y.out 6 (.string ⟨D.store.stream.toArray⟩) rfl
  generalize Top.begin D.store ((l.length : Int) + 1) = BG at *
  obtain ⟨bst, bco⟩ := BG
  go_wp2_with fail
  refine HBE.out.mono ?_
  rintro en w3 ⟨sv, rfl, ⟨na, nc, rfl, rS⟩, hb3⟩
  obtain ⟨Z, hZ, hbZ, hzZ, hblk, _⟩ := box3 w3 (.slice na bst.chunks.length nc) (.int .i64 bst.ses) (.string ⟨bst.stream.toArray⟩) 66
  have hbYZ : Below Y.heap.size Y Z := hb3.trans (hbZ.mono hb3.size)
  have hbZw := hbY.trans (hbYZ.mono hbY.size)
  have HZ7 := Lib.hid hblk
  have HZ6 := Lib.hid ((hbYZ.block _ (Array.getElem?_eq_some_iff.1 HB6Y.out).1).trans HB6Y.out)
  have HZ4 := Lib.hid ((hbYZ.block _ (Array.getElem?_eq_some_iff.1 HY4.out).1).trans HY4.out)
  have hb2Z := hb2Y.trans (hbYZ.mono hb2Y.size)
  have hw3 : w2.heap.size < w3.heap.size := Nat.lt_of_lt_of_le (Array.getElem?_eq_some_iff.1 HB6Y.out).1 hb3.size
  have hw12 : w.heap.size + 1 < w2.heap.size := by omega
  clear hblk HB6Y HY4 HBE k0 k4 k5 k6
  go_upto_region 10 with (fail)
  try rw [hZ]
  clear hZ
  by_cases hco : bco = 0
  case neg =>
    have hco' : (bco != 0) = true := bne_iff_ne.2 hco
    have HR : Hid (beginS l date = (draft0, bco)) := Lib.hid (by rw [HB.out, if_pos hco])
    obtain ⟨⟨y0, y1, y2, y3, y4, y5, y6, y7, y8⟩, z0, z1, z2, z3, z4, z5, z6, z7, z8⟩ := row9 HZ4.out
    go_wp2_with fail
    try simp only [Exit.inBlock, Exit.then]
    obtain ⟨t1, sg⟩ := set9 HZ4.out (.int .i64 0) (.int .i64 0) (.string ⟨#[]⟩) (.slice none 0 0) (.slice none 0 0) (.int .i64 0) (.string ⟨#[]⟩) (.slice none 0 0) (.slice none 0 0)
    refine bodyPost_ret (results_row_tmp (p := 4) (u := 5) (ty := 68) rfl _ _ (w.heap.size + 1) 68 _ (0, 0) _ rfl t1 Tryz.underlying68 rfl (by kernel_rfl)) rfl ?_
    rw [HR.out]
    exact ⟨_, rfl, draft0_any _, hbZw.grown sg hbZw.size (fun k hk => by injection hk; omega)⟩
  case pos =>
    subst hco
    have HR : Hid (beginS l date = (⟨(l.length : Int) + 1, date, pv, [], bst, D.tree, active D.holds date⟩, 0)) := Lib.hid (by rw [HB.out, if_neg (by simp)])
    have HAC := Lib.hid (active_any _ D.holds date Z.drew (rH.below hb2Z.drew) (by omega))
    generalize hAH : active D.holds date = AH at *
    clear hAH
    have b0 : Z.drew.cell? ⟨w3.heap.size, 0, none⟩ = some (.slice na bst.chunks.length nc) := tcell HZ7.out 0 (.slice na bst.chunks.length nc) rfl
    have b1 : Z.drew.cell? ⟨w3.heap.size, 1, none⟩ = some (.int .i64 bst.ses) := tcell HZ7.out 1 (.int .i64 bst.ses) rfl
    have b2 : Z.drew.cell? ⟨w3.heap.size, 2, none⟩ = some (.string ⟨bst.stream.toArray⟩) := tcell HZ7.out 2 (.string ⟨bst.stream.toArray⟩) rfl
    have k8 : Z.drew.cell? ⟨w2.heap.size, 8, none⟩ = some (.slice ha D.holds.length hc) := tcell HZ6.out 8 (.slice ha D.holds.length hc) rfl
    have hl7 : w3.heap.size < Z.drew.heap.size := hzZ
    have hl62 : w2.heap.size < Z.drew.heap.size := (Array.getElem?_eq_some_iff.1 HZ6.out).1
    have hne7 : w3.heap.size ≠ w2.heap.size := by omega
    go_upto_region 12 with (fail)
    go_region_with (first | (go_at_call 31; refine HAC.out.mono ?_; rintro en v2 ⟨av, rfl, rA, hv2⟩; obtain ⟨ah, ac, rfl, _, _⟩ := rA.form; have p0 := cell_on hv2 hl7 b0; have p1 := cell_on hv2 hl7 b1; have p2 := cell_on hv2 hl7 b2; have HV6 := Lib.hid ((hv2.block _ hl62).trans HZ6.out); have y4 := tcell HV6.out 4 (.slice ca D.store.chunks.length cc) rfl; have y5 := tcell HV6.out 5 (.int .i64 D.store.ses) rfl; have y6 := tcell HV6.out 6 (.string ⟨D.store.stream.toArray⟩) rfl; have y8 := tcell HV6.out 8 (.slice ha D.holds.length hc) rfl; have z4 := tfree HV6.out 4; have z5 := tfree HV6.out 5; have z6 := tfree HV6.out 6; have z8 := tfree HV6.out 8))
    all_goals
      clear p0 p1 p2 y4 y5 y6 y8 z4 z5 z6 z8 b0 b1 b2 k8
      have sg := set_grown (w := v2) (b := w2.heap.size) [(4, .slice na bst.chunks.length nc), (5, .int .i64 bst.ses), (6, .string ⟨bst.stream.toArray⟩), (8, .slice ah AH.length ac)]
      have tU := sets HV6.out [(4, .slice na bst.chunks.length nc), (5, .int .i64 bst.ses), (6, .string ⟨bst.stream.toArray⟩), (8, .slice ah AH.length ac)]
      have HU6 : Hid (_ = some (Obj.cells #[.int .i64 ((l.length : Int) + 1), .int .i64 date, .string ⟨pv.toArray⟩, .slice ea 0 ec, .slice na bst.chunks.length nc, .int .i64 bst.ses, .string ⟨bst.stream.toArray⟩, .slice ta D.tree.length tc, .slice ah AH.length ac] 68 (0, 0))) := Lib.hid tU
      have hl42 : w.heap.size + 1 < Z.drew.heap.size := (Array.getElem?_eq_some_iff.1 HZ4.out).1
      have HU4 := Lib.hid ((Oth.of_grown sg).get ((hv2.block _ hl42).trans HZ4.out) (by omega))
      have hZ2 : Below w2.heap.size w2 v2 := hb2Z.drew.trans (hv2.mono hb2Z.drew.size)
      have hU2 := hZ2.grown sg hZ2.size (fun k hk => by injection hk; omega)
      have hUw := hbw2.trans (hU2.mono hbw2.size)
      have h3v : Below w3.heap.size w3 v2 := hbZ.drew.trans (hv2.mono hbZ.drew.size)
      have rS2 := Flat.oth (c := chunkC) (k := 4) (rS.below h3v) HV6.out (Oth.of_grown sg) [1, 2, 2, 2] [2, 2, 1, 3, 3, 2, 1, 3, 3] (fun _ => rfl) rfl (by decide) free_dra.chunk
      have rA2 := Flat.oth (c := holdC) (k := 2) (OwnF.flat (fun _ => rfl) rA) HV6.out (Oth.of_grown sg) [1, 2] [2, 2, 1, 3, 3, 2, 1, 3, 3] (fun _ => rfl) rfl (by decide) free_dra.hold
      have hd := (⟨ea, ec, na, nc, ta, tc, ah, ac, rfl, rE.below hU2, rS2, rT.below hU2, rA2⟩ : DraV _ (.agg #[.int .i64 ((l.length : Int) + 1), .int .i64 date, .string ⟨pv.toArray⟩, .slice ea 0 ec, .slice na bst.chunks.length nc, .int .i64 bst.ses, .string ⟨bst.stream.toArray⟩, .slice ta D.tree.length tc, .slice ah AH.length ac]) ⟨(l.length : Int) + 1, date, pv, [], bst, D.tree, AH⟩)
      have HD := Lib.hid hd
      clear tU hd rS2 rA2
      generalize hU : List.foldl _ v2 _ = U at sg HU6 HU4 hU2 hUw HD
      have hU : (((v2.setCell ⟨w2.heap.size, 4, none⟩ (.slice na bst.chunks.length nc)).setCell ⟨w2.heap.size, 5, none⟩ (.int .i64 bst.ses)).setCell ⟨w2.heap.size, 6, none⟩ (.string ⟨bst.stream.toArray⟩)).setCell ⟨w2.heap.size, 8, none⟩ (.slice ah AH.length ac) = U := hU
      rw [hU]
      clear hU sg hv2
      obtain ⟨⟨x0, x1, x2, x3, x4, x5, x6, x7, x8⟩, _⟩ := row9 HU6.out
      obtain ⟨⟨y0, y1, y2, y3, y4, y5, y6, y7, y8⟩, z0, z1, z2, z3, z4, z5, z6, z7, z8⟩ := row9 HU4.out
      go_wp2_with fail
      try simp only [Exit.inBlock, Exit.then]
      obtain ⟨t1, sg⟩ := set9 HU4.out (.int .i64 ((l.length : Int) + 1)) (.int .i64 date) (.string ⟨pv.toArray⟩) (.slice ea 0 ec) (.slice na bst.chunks.length nc) (.int .i64 bst.ses) (.string ⟨bst.stream.toArray⟩) (.slice ta D.tree.length tc) (.slice ah AH.length ac)
      refine bodyPost_ret (results_row_tmp (p := 4) (u := 5) (ty := 68) rfl _ _ (w.heap.size + 1) 68 _ (0, 0) _ rfl t1 Tryz.underlying68 rfl (by kernel_rfl)) rfl ?_
      rw [HR.out]
      exact ⟨_, rfl, DraV.oth free_dra rfl HU4.out (Oth.of_grown sg) HD.out, hUw.grown sg hUw.size (fun k hk => by injection hk; omega)⟩
end Go.Proofs.YtbhmdcdhklgomaaGreatDoor

/-
  steletop.small.
-/
namespace Go.Proofs.YtbhmdcdhklgomaaGreatDoor
open Go.RowKit Top

def smallB (ll : List (List Change)) (most : Int) : Bool := if 5 < ll.length then false else decide ((costA ll : Int) ≤ most)
theorem costA_take {ll : List (List Change)} {k : Nat} {l : List Change} (h : ll[k]? = some l) : costA (ll.take (k + 1)) = costA (ll.take k) + costL l := by
  unfold costA
  rw [List.take_add_one, h, Option.toList_some, List.map_append, List.sum_append]
  simp
theorem costL_take {l : List Change} {k : Nat} {c : Change} (h : l[k]? = some c) : costL (l.take (k + 1)) = costL (l.take k) + costC c := by
  unfold costL
  rw [List.take_add_one, h, Option.toList_some, List.map_append, List.sum_append]
  simp
def costT (l : List Top.Attr) : Nat := (l.map attrCost).sum
theorem costT_take {l : List Top.Attr} {k : Nat} {c : Top.Attr} (h : l[k]? = some c) : costT (l.take (k + 1)) = costT (l.take k) + attrCost c := by
  unfold costT
  rw [List.take_add_one, h, Option.toList_some, List.map_append, List.sum_append]
  simp
theorem take_le' {α : Type} (f : α → Nat) : ∀ (l : List α) (k : Nat), ((l.take k).map f).sum ≤ (l.map f).sum
  | [], k => by simp
  | x :: l, 0 => by simp
  | x :: l, k + 1 => by
    have := take_le' f l k
    simp only [List.take_succ_cons, List.map_cons, List.sum_cons]
    omega

theorem boxC5 (w : World) (a b c d e : Value) (E : TypeId) : ∃ W, w.alloc (.cells #[a, b, c, d, e] E) = W ∧ Below w.heap.size w W ∧ w.heap.size < W.heap.size ∧ W.heap[w.heap.size]? = some (.cells #[a, b, c, d, e] E (0, 0)) := by
  have h := heap_alloc_new w (.cells #[a, b, c, d, e] E)
  exact ⟨_, rfl, (Below.refl _ w).alloc (Nat.le_refl _) _, by simp, h⟩
theorem boxA2 (w : World) (a b : Value) (E : TypeId) : ∃ W, w.alloc (.cells #[a, b] E) = W ∧ Below w.heap.size w W ∧ w.heap.size < W.heap.size ∧ W.heap[w.heap.size]? = some (.cells #[a, b] E (0, 0)) := by
  have h := heap_alloc_new w (.cells #[a, b] E)
  exact ⟨_, rfl, (Below.refl _ w).alloc (Nat.le_refl _) _, by simp, h⟩

set_option maxHeartbeats 4000000 in
set_option maxRecDepth 100000 in
theorem small_any (v : Value) (ll : List (List Change)) (most : Int) (w : World) (hv : Lists w v ll) (hc : costA ll ≤ 1099511627776) :
    Calls Tryz.prog 6 #[v, .int .i64 most] w fun e w' => e = .returned (.bool (smallB ll most)) ∧ Below w.heap.size w w' := by
  obtain ⟨ao, cap, rfl, hlc, hcm⟩ := hv.form
  have HV := Lib.hid hv
  have HC := Lib.hid hc
  have HR : Hid (smallB ll most = if 5 < ll.length then false else decide ((costA ll : Int) ≤ most)) := Lib.hid rfl
  generalize smallB ll most = res at *
  clear hv hc
  go_enter Tryz.func6, Tryz.ntmps6
  by_cases h5 : 5 < ll.length
  · have h5' : (5 : Int) < (ll.length : Int) := by omega
    have HR2 : Hid (res = false) := Lib.hid (by rw [HR.out, if_pos h5])
    go_wp2_with fail
    go_ret
    rw [HR2.out]
    exact ⟨rfl, Below.refl _ _⟩
  have h5' : ¬ (5 : Int) < (ll.length : Int) := by omega
  have HR2 : Hid (res = decide ((costA ll : Int) ≤ most)) := Lib.hid (by rw [HR.out, if_neg h5])
  go_wp2_with fail
  go_loopw [5, 17] (fun n i wr => ∃ k : Nat, k ≤ ll.length ∧ i = .int .i64 k ∧ n = .int .i64 (costA (ll.take k) : Nat) ∧ Hid (Below w.heap.size w wr)) (fun _ i _ => ll.length - (intOf i).toNat)
  case atStart => exact ⟨0, Nat.zero_le _, rfl, rfl, Lib.hid (Below.refl _ _)⟩
  case round =>
    obtain ⟨k, hk, rfl, rfl, hb⟩ := hrel
    by_cases hlt : k < ll.length
    · obtain ⟨l, hl⟩ : ∃ l, ll[k]? = some l := ⟨_, List.getElem?_eq_getElem hlt⟩
      obtain ⟨bk, o, va, ca, hoo, c0, hch⟩ := (HV.out.below hb.out).get hl
      subst hoo
      have HA := Lib.hid (costA_take hl)
      have HCH := Lib.hid hch
      have hca : costA (ll.take (k + 1)) ≤ 1099511627776 := Nat.le_trans (take_le' costL ll (k + 1)) HC.out
      rw [costA_take hl] at hca
      generalize costA (ll.take k) = N0 at *
      obtain ⟨va', ca', e1, hlc1, hcm1⟩ := hch.form
      injection e1 with e1 _ e3
      subst e1 e3
      obtain ⟨wB, hwB⟩ : ∃ wB, wB = wr := ⟨_, rfl⟩
      subst hwB
      clear hl hch
      go_wp2_with fail
      go_loopw [5, 23] (fun n i wr2 => ∃ m : Nat, m ≤ l.length ∧ i = .int .i64 m ∧ n = .int .i64 ((N0 + costL (l.take m) : Nat) : Int) ∧ Hid (Below wB.heap.size wB wr2)) (fun _ i _ => l.length - (intOf i).toNat)
      case atStart => exact ⟨0, Nat.zero_le _, rfl, rfl, Lib.hid (Below.refl _ _)⟩
      case round =>
        obtain ⟨m, hm, rfl, rfl, hb2⟩ := hrel
        by_cases hmt : m < l.length
        · obtain ⟨c, hcj⟩ : ∃ c, l[m]? = some c := ⟨_, List.getElem?_eq_getElem hmt⟩
          obtain ⟨bk2, o2, aa, ac, hoo, hat, c0, c1, c2, c3, c4⟩ := (HCH.out.below hb2.out).get hcj
          subst hoo
          have HL := Lib.hid (costL_take hcj)
          have hcl : N0 + costL (l.take (m + 1)) ≤ 1099511627776 := Nat.le_trans (Nat.add_le_add_left (take_le' costC l (m + 1)) N0) hca
          rw [costL_take hcj] at hcl
          generalize costL (l.take m) = N1 at *
          obtain ⟨_, _, e1, hlc2, hcm2⟩ := hat.form
          injection e1 with e1 _ e3
          subst e1 e3
          have HAT := Lib.hid hat
          have hcc : costC c = 20 + c.path.length + c.target.length + c.content.length + costT c.attrs := rfl
          have HCC := Lib.hid hcc
          rw [hcc] at hcl
          clear hat hcc hcj
          obtain ⟨W, hW, hbW, hzW, hblk⟩ := boxC5 wr (.int .i64 c.kind) (.string ⟨c.path.toArray⟩) (.slice aa c.attrs.length ac) (.string ⟨c.target.toArray⟩) (.string ⟨c.content.toArray⟩) 62
          have d1 := tcell hblk 1 (.string ⟨c.path.toArray⟩) rfl
          have d2 := tcell hblk 2 (.slice aa c.attrs.length ac) rfl
          have d3 := tcell hblk 3 (.string ⟨c.target.toArray⟩) rfl
          have d4 := tcell hblk 4 (.string ⟨c.content.toArray⟩) rfl
          have q1 : IntKind.i64.wrap (20 + (c.path.length : Int)) = 20 + (c.path.length : Int) := by rw [IntKind.wrap_i64]; omega
          have q2 : IntKind.i64.wrap (20 + (c.path.length : Int) + (c.target.length : Int)) = 20 + (c.path.length : Int) + (c.target.length : Int) := by rw [IntKind.wrap_i64]; omega
          have q3 : IntKind.i64.wrap (20 + (c.path.length : Int) + (c.target.length : Int) + (c.content.length : Int)) = 20 + (c.path.length : Int) + (c.target.length : Int) + (c.content.length : Int) := by rw [IntKind.wrap_i64]; omega
          obtain ⟨N2, hN2⟩ : ∃ N2, N0 + N1 + (20 + c.path.length + c.target.length + c.content.length) = N2 := ⟨_, rfl⟩
          have HAW := Lib.hid (HAT.out.below hbW)
          have hcl2 : N2 + costT c.attrs ≤ 1099511627776 := by omega
          have HN2 := Lib.hid hN2
          obtain ⟨wC, hwC⟩ : ∃ wC, wC = wr := ⟨_, rfl⟩
          subst hwC
          clear hN2 hblk
          go_upto_region 10 with (fail)
          try rw [hW]
          clear hW
          go_wp2_with fail
          go_loopw [5, 44] (fun n i wr3 => ∃ j : Nat, j ≤ c.attrs.length ∧ i = .int .i64 j ∧ n = .int .i64 ((N2 + costT (c.attrs.take j) : Nat) : Int) ∧ Hid (Below W.heap.size W wr3)) (fun _ i _ => c.attrs.length - (intOf i).toNat)
          case atStart =>
            refine ⟨0, Nat.zero_le _, rfl, ?_, Lib.hid (Below.refl _ _)⟩
            have := HN2.out
            show _ = Value.int .i64 ((N2 + 0 : Nat) : Int)
            congr 1
            omega
          case round =>
            obtain ⟨j, hj, rfl, rfl, hb3⟩ := hrel
            by_cases hjt : j < c.attrs.length
            · obtain ⟨x, hxj⟩ : ∃ x, c.attrs[j]? = some x := ⟨_, List.getElem?_eq_getElem hjt⟩
              obtain ⟨bk3, o3, hoo, hcs⟩ := (HAW.out.below hb3.out).get hxj
              subst hoo
              have e0 : wr.cell? ⟨bk3, o3 + j * 2, none⟩ = some (.string ⟨x.key.toArray⟩) := hcs 0 (.string ⟨x.key.toArray⟩) rfl
              have e1 : wr.cell? ⟨bk3, o3 + j * 2 + 1, none⟩ = some (.string ⟨x.val.toArray⟩) := hcs 1 (.string ⟨x.val.toArray⟩) rfl
              have HT := Lib.hid (costT_take hxj)
              have hct : N2 + costT (c.attrs.take (j + 1)) ≤ 1099511627776 := Nat.le_trans (Nat.add_le_add_left (take_le' attrCost c.attrs (j + 1)) N2) hcl2
              rw [costT_take hxj] at hct
              generalize costT (c.attrs.take j) = N3 at *
              unfold attrCost at hct
              obtain ⟨V, hV, hbV, hzV, hblk⟩ := boxA2 wr (.string ⟨x.key.toArray⟩) (.string ⟨x.val.toArray⟩) 81
              have g0 := tcell hblk 0 (.string ⟨x.key.toArray⟩) rfl
              have g1 := tcell hblk 1 (.string ⟨x.val.toArray⟩) rfl
              have p1 : IntKind.i64.wrap ((x.key.length : Int) + (x.val.length : Int)) = (x.key.length : Int) + (x.val.length : Int) := by rw [IntKind.wrap_i64]; omega
              clear hblk hcs hxj
              go_upto_region 14 with (fail)
              try rw [hV]
              clear hV
              go_wp2_with fail
              go_roundw
              case rel =>
                refine ⟨j + 1, hjt, by go_num, ?_, Lib.hid (hb3.out.trans (hbV.mono hb3.out.size))⟩
                rw [HT.out]
                unfold attrCost
                congr 1
                omega
              case measure => simp [intOf]; omega
            · obtain rfl : j = c.attrs.length := by omega
              rw [List.take_length]
              go_wp2_with fail
              go_roundw
              case rel =>
                refine ⟨m + 1, hmt, by go_num, ?_, Lib.hid (hb2.out.trans ((hbW.trans (hb3.out.mono hbW.size)).mono hb2.out.size))⟩
                rw [HL.out, HCC.out, ← HN2.out]
                have hc5 : costT (c.attrs.take c.attrs.length) = costT c.attrs := by rw [List.take_length]
                congr 1
                omega
              case measure => simp [intOf]; omega
        · obtain rfl : m = l.length := by omega
          rw [List.take_length]
          go_wp2_with fail
          go_roundw
          case rel =>
            refine ⟨k + 1, hlt, by go_num, ?_, Lib.hid (hb.out.trans (hb2.out.mono hb.out.size))⟩
            rw [HA.out]
          case measure => simp [intOf]; omega
    · obtain rfl : k = ll.length := by omega
      rw [List.take_length]
      go_wp2_with fail
      go_ret
      rw [HR2.out]
      exact ⟨rfl, hb.out⟩
end Go.Proofs.YtbhmdcdhklgomaaGreatDoor

/-
  A draft, an archive in a box of its own. No walk.
-/
namespace Go.Proofs.YtbhmdcdhklgomaaGreatDoor
open Go.RowKit Top

/-- A draft in a box. -/
def DraB (X : World) (b : Nat) (d : Draft) : Prop := ∃ ea ec ca cc ta tc ha hc,
  X.heap[b]? = some (.cells #[.int .i64 d.num, .int .i64 d.date, .string ⟨d.prev.toArray⟩, .slice ea d.entries.length ec, .slice ca d.store.chunks.length cc, .int .i64 d.store.ses, .string ⟨d.store.stream.toArray⟩, .slice ta d.tree.length tc, .slice ha d.holds.length hc] 68 (0, 0)) ∧
  DraV X (.agg #[.int .i64 d.num, .int .i64 d.date, .string ⟨d.prev.toArray⟩, .slice ea d.entries.length ec, .slice ca d.store.chunks.length cc, .int .i64 d.store.ses, .string ⟨d.store.stream.toArray⟩, .slice ta d.tree.length tc, .slice ha d.holds.length hc]) d
/-- An archive in a box. -/
def ArcB (X : World) (b : Nat) (l : List Ses) : Prop := ∃ id da sp sa sc,
  X.heap[b]? = some (.cells #[.int .u32 id, .int .i64 da, .int .i64 sp, .slice sa l.length sc] 30 (0, 0)) ∧ Sess X (.slice sa l.length sc) l
section
variable {X Y : World} {b c : Nat} {d : Draft} {l : List Ses}
theorem DraB.below (h : DraB X b d) (hb : Below X.heap.size X Y) : DraB Y b d := by
  obtain ⟨ea, ec, ca, cc, ta, tc, ha, hc, h1, h2⟩ := h
  exact ⟨ea, ec, ca, cc, ta, tc, ha, hc, (hb.block _ (Array.getElem?_eq_some_iff.1 h1).1).trans h1, h2.below hb⟩
theorem ArcB.below (h : ArcB X b l) (hb : Below X.heap.size X Y) : ArcB Y b l := by
  obtain ⟨id, da, sp, sa, sc, h1, h2⟩ := h
  exact ⟨id, da, sp, sa, sc, (hb.block _ (Array.getElem?_eq_some_iff.1 h1).1).trans h1, h2.below hb⟩
theorem ArcB.oth {kb : List Nat} {cs : Array Value} {T : TypeId} {fr : Nat × Nat} (hf : Free kb) (hkb : cs.toList.map kd = kb) (hb : X.heap[c]? = some (.cells cs T fr)) (ho : Oth c X Y) (hne : b ≠ c) (h : ArcB X b l) : ArcB Y b l := by
  obtain ⟨id, da, sp, sa, sc, h1, h2⟩ := h
  exact ⟨id, da, sp, sa, sc, ho.get h1 hne, h2.oth hf hkb hb ho⟩
theorem DraB.oth {kb : List Nat} {cs : Array Value} {T : TypeId} {fr : Nat × Nat} (hf : Free kb) (hkb : cs.toList.map kd = kb) (hb : X.heap[c]? = some (.cells cs T fr)) (ho : Oth c X Y) (hne : b ≠ c) (h : DraB X b d) : DraB Y b d := by
  obtain ⟨ea, ec, ca, cc, ta, tc, ha, hc, h1, h2⟩ := h
  exact ⟨ea, ec, ca, cc, ta, tc, ha, hc, ho.get h1 hne, h2.oth hf hkb hb ho⟩
end
end Go.Proofs.YtbhmdcdhklgomaaGreatDoor
