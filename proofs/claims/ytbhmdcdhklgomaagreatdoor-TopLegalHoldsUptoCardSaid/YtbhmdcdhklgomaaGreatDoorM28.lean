/-
  chunkstore.Put: a round at a chunk, a round at a hole.
-/
import Derived.Test.YtbhmdcdhklgomaaGreatDoorM27
namespace Go.Proofs.YtbhmdcdhklgomaaGreatDoor
open Go.RowKit Go.Shelf Top

/-- A store as a value whose chunks lie in a row of the call's own. -/
def StoO (w : World) (B : Nat) (v : Value) (s : Store) : Prop := ∃ ca cc, v = .agg #[.slice ca s.chunks.length cc, .int .i64 s.ses, .string ⟨s.stream.toArray⟩] ∧ OwnK w B (.slice ca s.chunks.length cc) s.chunks
theorem StoO.sto {w : World} {B : Nat} {v : Value} {s : Store} (h : StoO w B v s) : StoV w v s := by
  obtain ⟨ca, cc, h1, h2⟩ := h
  exact ⟨ca, cc, h1, h2.flat chunkC_len⟩
set_option maxHeartbeats 8000000 in
set_option maxRecDepth 100000 in
theorem putO_any (v : Value) (s : Store) (c : Bs) (N : Nat) (w : World) (hs : StoV w v s) (hok : StoOk N s) (hN : N + 200000 ≤ 16777216) (hcl : c.length ≤ 140737488355328) :
    Calls Tryz.prog 88 #[v, .string ⟨c.toArray⟩] w fun e w' => ∃ v' xv, e = .returned (.tuple #[v', xv, .int .i64 (Top.put Blk.sum s c).2.2]) ∧ StoO w' w.heap.size v' (Top.put Blk.sum s c).1 ∧ Flat extC 3 w' xv (Top.put Blk.sum s c).2.1 ∧ Below w.heap.size w w' := by
  obtain ⟨ca, cc, rfl, hfl⟩ := hs
  have hN1 := hok.chunks
  have HOK := Lib.hid hok
  have HCL := Lib.hid (fun X (hX : Below w.heap.size w X) => cloneChunks_any _ s.chunks X (hfl.below hX) (by omega))
  have HIX := Lib.hid (fun X (hX : Below w.heap.size w X) => index_any _ s X ⟨ca, cc, rfl, hfl.below hX⟩ (by omega) (fun c hc => (hok.each c hc).1))
  obtain ⟨W, hW, hbW, hzW, hblk, d0, d1, d2⟩ := box3 w (.slice ca s.chunks.length cc) (.int .i64 s.ses) (.string ⟨s.stream.toArray⟩) 66
  have hfz := hbW.alloc hbW.size (.cells #[.slice none 0 0, .int .i64 0, .string ⟨#[]⟩] 66)
  have hz := heap_alloc_new W (.cells #[.slice none 0 0, .int .i64 0, .string ⟨#[]⟩] 66)
  have hbz := (Below.refl W.heap.size W).alloc (Nat.le_refl _) (.cells #[.slice none 0 0, .int .i64 0, .string ⟨#[]⟩] 66)
  have d0 := (hbz.cell (p := ⟨w.heap.size, 0, none⟩) hzW).trans d0
  have d1 := (hbz.cell (p := ⟨w.heap.size, 1, none⟩) hzW).trans d1
  have d2 := (hbz.cell (p := ⟨w.heap.size, 2, none⟩) hzW).trans d2
  clear hok
  go_enter Tryz.func88, Tryz.ntmps88
  go_upto_region 1 with (fail)
  try rw [hW]
  clear hW
  generalize W.alloc (.cells #[.slice none 0 0, .int .i64 0, .string ⟨#[]⟩] 66) = W2 at *
  have hlw2 : w.heap.size < W2.heap.size := Nat.lt_of_lt_of_le hzW hbz.size
  have hA := hfz.drew
  have hB : Below w.heap.size w (W2.alloc (.cells #[.slice none 0 0, .int .i64 0, .string ⟨#[]⟩] 66)).drew := (hfz.alloc hfz.size _).drew
  have hzB : (W2.alloc (.cells #[.slice none 0 0, .int .i64 0, .string ⟨#[]⟩] 66)).drew.heap[W2.heap.size]? = some (.cells #[.slice none 0 0, .int .i64 0, .string ⟨#[]⟩] 66 (0, 0)) := heap_alloc_new W2 _
  have hb1 := (Below.refl W2.heap.size W2).alloc (Nat.le_refl _) (.cells #[.slice none 0 0, .int .i64 0, .string ⟨#[]⟩] 66)
  have e0 : (W2.alloc (.cells #[.slice none 0 0, .int .i64 0, .string ⟨#[]⟩] 66)).drew.cell? ⟨w.heap.size, 0, none⟩ = some (.slice ca s.chunks.length cc) := (hb1.cell (p := ⟨w.heap.size, 0, none⟩) hlw2).trans d0
  have e1 : (W2.alloc (.cells #[.slice none 0 0, .int .i64 0, .string ⟨#[]⟩] 66)).drew.cell? ⟨w.heap.size, 1, none⟩ = some (.int .i64 s.ses) := (hb1.cell (p := ⟨w.heap.size, 1, none⟩) hlw2).trans d1
  have e2 : (W2.alloc (.cells #[.slice none 0 0, .int .i64 0, .string ⟨#[]⟩] 66)).drew.cell? ⟨w.heap.size, 2, none⟩ = some (.string ⟨s.stream.toArray⟩) := (hb1.cell (p := ⟨w.heap.size, 2, none⟩) hlw2).trans d2
  have hlw3 : w.heap.size < (W2.alloc (.cells #[.slice none 0 0, .int .i64 0, .string ⟨#[]⟩] 66)).drew.heap.size := Nat.lt_of_lt_of_le hlw2 hb1.size
  have hlz : W2.heap.size < (W2.alloc (.cells #[.slice none 0 0, .int .i64 0, .string ⟨#[]⟩] 66)).drew.heap.size := (Array.getElem?_eq_some_iff.1 hzB).1
  have hne : w.heap.size ≠ W2.heap.size := by omega
  clear hb1
  go_cut [7] (fun s6 wx => ∃ b, s6 = .pointer (some ⟨b, 0, none⟩) ∧ Hid (StoB W2 b wx s))
  case first =>
    go_region_held3 (fun w' => w'.cell? ⟨w.heap.size, 0, none⟩ = some (.slice ca s.chunks.length cc) ∧ w'.cell? ⟨w.heap.size, 1, none⟩ = some (.int .i64 s.ses) ∧ w'.cell? ⟨w.heap.size, 2, none⟩ = some (.string ⟨s.stream.toArray⟩))
      (first | exact ⟨d0, d1, d2⟩ | exact ⟨p0, p1, p2⟩ | exact ⟨e0, e1, e2⟩ | exact ⟨q0, q1, q2⟩ | go_keep)
      ((first | (go_at_call 90; refine (HCL.out _ hA).mono ?_; rintro e v1 ⟨cv, rfl, hcv, hv1⟩; obtain ⟨na, nc, rfl, _, _⟩ := hcv.form; have p0 := (hv1.cell (p := ⟨w.heap.size, 0, none⟩) hlw2).trans d0; have p1 := (hv1.cell (p := ⟨w.heap.size, 1, none⟩) hlw2).trans d1; have p2 := (hv1.cell (p := ⟨w.heap.size, 2, none⟩) hlw2).trans d2; have hlv : w.heap.size < v1.heap.size := Nat.lt_of_lt_of_le hlw2 hv1.size) | (go_at_call 90; refine (HCL.out _ hB).mono ?_; rintro e v1 ⟨cv, rfl, hcv, hv1⟩; obtain ⟨na, nc, rfl, _, _⟩ := hcv.form; have p0 := (hv1.cell (p := ⟨w.heap.size, 0, none⟩) hlw3).trans e0; have p1 := (hv1.cell (p := ⟨w.heap.size, 1, none⟩) hlw3).trans e1; have p2 := (hv1.cell (p := ⟨w.heap.size, 2, none⟩) hlw3).trans e2; have hzv := (hv1.block W2.heap.size hlz).trans hzB; have y0 := tcell hzv 0 _ rfl; have y1 := tcell hzv 1 _ rfl; have y2 := tcell hzv 2 _ rfl; have z0 := tfree hzv 0; have z1 := tfree hzv 1; have z2 := tfree hzv 2; have q0 := (far3 (w := v1) hne 0 1 2 (.slice na s.chunks.length nc) (.int .i64 s.ses) (.string ⟨s.stream.toArray⟩) 0).trans p0; have q1 := (far3 (w := v1) hne 0 1 2 (.slice na s.chunks.length nc) (.int .i64 s.ses) (.string ⟨s.stream.toArray⟩) 1).trans p1; have q2 := (far3 (w := v1) hne 0 1 2 (.slice na s.chunks.length nc) (.int .i64 s.ses) (.string ⟨s.stream.toArray⟩) 2).trans p2)))
    focus
      go_wp2_with fail
      go_meet
      have hv1 : Below W2.heap.size W2 v1 := ((Below.refl _ W2).drew).trans hv1
      exact ⟨v1.heap.size, rfl, na, nc, heap_alloc_new v1 _, World.ownsRow.alloc hcv _, hv1.alloc hv1.size _, hv1.size⟩
    go_wp2_with fail
    go_meet
    obtain ⟨t1, t2⟩ := set3 hzv (.slice na s.chunks.length nc) (.int .i64 s.ses) (.string ⟨s.stream.toArray⟩)
    have hs1 : W2.heap.size ≤ (W2.alloc (.cells #[.slice none 0 0, .int .i64 0, .string ⟨#[]⟩] 66)).drew.heap.size := Nat.le_of_lt hlz
    have hv2 : Below W2.heap.size W2 v1 := (((Below.refl _ W2).alloc (Nat.le_refl _) _).drew).trans (hv1.mono hs1)
    exact ⟨W2.heap.size, rfl, na, nc, t1, (hcv.far t2 hlz).mono' hs1, hv2.grown t2 hv2.size (fun k hk => by injection hk with hk; omega), Nat.le_refl _⟩
  case rest =>
    obtain ⟨b, rfl, hsb⟩ := hcut
    have D1 := Lib.hid d1
    have HZ := Lib.hid hz
    clear hA hB hzB e0 e1 e2 hlw3 hlz hne HCL hfl
    obtain ⟨na, nc, hblkb, hown, hb2, hle⟩ := hsb.out
    have hlW : W.heap.size < W2.heap.size := (Array.getElem?_eq_some_iff.1 hz).1
    have hzc := (hb2.block W.heap.size hlW).trans hz
    have d0 := (hb2.cell (p := ⟨w.heap.size, 0, none⟩) hlw2).trans d0
    have d1 := (hb2.cell (p := ⟨w.heap.size, 1, none⟩) hlw2).trans d1
    have d2 := (hb2.cell (p := ⟨w.heap.size, 2, none⟩) hlw2).trans d2
    have hbc := hfz.trans (hb2.mono hfz.size)
    have hwW := hbW.size
    have hbz0 : w.heap.size ≤ W2.heap.size := by omega
    have hnb : b ≠ W.heap.size := by omega
    by_cases n1 : s.ses < 1 ∨ 255 < s.ses
    · have HR : Hid (Top.put Blk.sum s c = (s, [], 1)) := by
        show _ = _
        exact if_pos n1
      have k0 := tcell hblkb 0 _ rfl
      have k1 := tcell hblkb 1 _ rfl
      have k2 := tcell hblkb 2 _ rfl
      have y0 := tcell hzc 0 _ rfl
      have y1 := tcell hzc 1 _ rfl
      have y2 := tcell hzc 2 _ rfl
      have z0 := tfree hzc 0
      have z1 := tfree hzc 1
      have z2 := tfree hzc 2
      clear hsb hz hb2 hfz hbz hblk
      rcases Decidable.em (s.ses < 1) with n2 | n2
      all_goals
        have n3 : s.ses < 1 ∨ 255 < s.ses := n1
        try have n4 : 255 < s.ses := by omega
        clear n1 n3
        go_wp2_with fail
        try simp only [Exit.inBlock, Exit.then]
        obtain ⟨t1, t2⟩ := set3 hzc (.slice na s.chunks.length nc) (.int .i64 s.ses) (.string ⟨s.stream.toArray⟩)
        have hwb := hbc.grown t2 hbc.size (fun k hk => by injection hk; omega)
        have hfl := (hown.far t2 hlW).mono' hbz0
        refine bodyPost_ret (v := .tuple #[.agg #[.slice na s.chunks.length nc, .int .i64 s.ses, .string ⟨s.stream.toArray⟩], .slice none 0 0, .int .i64 1]) ?_ ?_ ?_
        · refine results_row_tmp2 (p := 4) (u := 5) (v := 6) (ty := 66) (by kernel_rfl) _ _ W.heap.size 66 _ (0, 0) _ ?_ t1 Tryz.underlying66 (by kernel_rfl) (by kernel_rfl)
          kernel_rfl
        · kernel_rfl
        · rw [HR.out]
          exact ⟨_, _, rfl, ⟨na, nc, rfl, hfl⟩, ⟨none, 0, rfl, Nat.le_refl _, by omega, fun j vs hj => by simp at hj⟩, hwb⟩
    by_cases n3 : 65536 < c.length
    · have HR : Hid (Top.put Blk.sum s c = (s, [], 6)) := by
        show _ = _
        unfold Top.put
        rw [if_neg n1, if_pos n3]
      have k0 := tcell hblkb 0 _ rfl
      have k1 := tcell hblkb 1 _ rfl
      have k2 := tcell hblkb 2 _ rfl
      have y0 := tcell hzc 0 _ rfl
      have y1 := tcell hzc 1 _ rfl
      have y2 := tcell hzc 2 _ rfl
      have z0 := tfree hzc 0
      have z1 := tfree hzc 1
      have z2 := tfree hzc 2
      have n4 : ¬ s.ses < 1 := by omega
      have n5 : ¬ 255 < s.ses := by omega
      have n6 : (65536 : Int) < (c.length : Nat) := by omega
      clear hsb hz hb2 hfz hbz hblk n1 n3
      go_wp2_with fail
      try simp only [Exit.inBlock, Exit.then]
      obtain ⟨t1, t2⟩ := set3 hzc (.slice na s.chunks.length nc) (.int .i64 s.ses) (.string ⟨s.stream.toArray⟩)
      have hwb := hbc.grown t2 hbc.size (fun k hk => by injection hk; omega)
      have hfl := (hown.far t2 hlW).mono' hbz0
      refine bodyPost_ret (v := .tuple #[.agg #[.slice na s.chunks.length nc, .int .i64 s.ses, .string ⟨s.stream.toArray⟩], .slice none 0 0, .int .i64 6]) ?_ ?_ ?_
      · refine results_row_tmp2 (p := 4) (u := 5) (v := 6) (ty := 66) (by kernel_rfl) _ _ W.heap.size 66 _ (0, 0) _ ?_ t1 Tryz.underlying66 (by kernel_rfl) (by kernel_rfl)
        kernel_rfl
      · kernel_rfl
      · rw [HR.out]
        exact ⟨_, _, rfl, ⟨na, nc, rfl, hfl⟩, ⟨none, 0, rfl, Nat.le_refl _, by omega, fun j vs hj => by simp at hj⟩, hwb⟩
    have HIX := Lib.hid (HIX.out wc hbc)
    have HPT : Hid (Top.put Blk.sum s c = (⟨(putAll Blk.sum s c).chunks, s.ses, (putAll Blk.sum s c).stream⟩, (putAll Blk.sum s c).out, 0)) := by
      show _ = _
      unfold Top.put
      rw [if_neg n1, if_neg n3]
    have HCO := Lib.hid (segs_cost c (by omega))
    have HSO := Lib.hid (segs_ok c (by omega))
    have HSG := Lib.hid (fun X => segs_any c X (by omega))
    have n4 : ¬ s.ses < 1 := by omega
    have n5 : ¬ 255 < s.ses := by omega
    have n6 : ¬ (65536 : Int) < (c.length : Nat) := by omega
    have hsz2 : W2.heap.size ≤ wc.heap.size := hb2.size
    have hlwc : w.heap.size < wc.heap.size := Nat.lt_of_lt_of_le hlw2 hb2.size
    have HZC := Lib.hid hzc
    have HBK := Lib.hid hblkb
    have HOW := Lib.hid hown
    have HB2 := Lib.hid hb2
    have HBC := Lib.hid hbc
    have hPA : putAll Blk.sum s c = (segs c).foldl (putSeg Blk.sum s.ses) ⟨Top.index s.chunks, s.chunks, s.stream, []⟩ := rfl
    have hok0 := HOK.out.start
    generalize hsg : segs c = SG at *
    generalize hS0 : (⟨Top.index s.chunks, s.chunks, s.stream, []⟩ : PutS) = S0 at *
    have HPA := Lib.hid hPA
    have HOK0 := Lib.hid hok0
    have HS0 := Lib.hid hS0
    clear hsb hz hb2 hbz hblk n1 n3 hPA hok0 hsg hzc hblkb hown hbc hS0 hcl
    go_wp2_with fail
    refine HIX.out.mono ?_
    rintro e w3 ⟨kb, rfl, hkb, hmk, hb3⟩
    have HM3 := Lib.hid hmk
    have HB3 := Lib.hid hb3
    clear hmk hb3 HIX
    go_wp2_with fail
    refine (collector_any w3).mono ?_
    rintro e w4 ⟨rfl, hw4⟩
    have hb4 : Below w3.heap.size w3 w4 := by
      rw [hw4]
      exact (Below.refl _ w3).alloc (Nat.le_refl _) _
    have hbx4 : Boxed w4 w3.heap.size 41 (.slice none 0 0) := by
      rw [hw4]
      exact heap_alloc_new w3 _
    have HB4 := Lib.hid hb4
    have HX4 := Lib.hid hbx4
    clear hw4 hb4 hbx4
    go_wp2_with fail
    refine (HSG.out w4).mono ?_
    rintro e w5 ⟨sv, rfl, hsv, hb5⟩
    obtain ⟨sa, sc, rfl, _, _⟩ := hsv.form
    have hsz3 : wc.heap.size ≤ w3.heap.size := HB3.out.size
    have hsz4 : w3.heap.size ≤ w4.heap.size := HB4.out.size
    have hI0 : PutI W2 b kb w3.heap.size N s.ses S0 w5 := by
      have k3 : Below wc.heap.size wc w4 := HB3.out.trans (HB4.out.mono HB3.out.size)
      have k5 : Below wc.heap.size wc w5 := k3.trans (hb5.mono k3.size)
      have hkk : SameT [] wc w5 := SameT.of_below k5
      have hk35 : SameT [] w3 w5 := SameT.of_below (HB4.out.trans (hb5.mono HB4.out.size))
      have hk45 : SameT [] w4 w5 := SameT.of_below hb5
      rw [← HS0.out]
      refine ⟨na, nc, .slice none 0 0, s.chunks.length, hkk.keep.2 _ _ _ _ HBK.out (by simp), OwnF.keepC HOW.out hkk.keep (by simp), HM3.out.sameT hk35, Boxed.keepC HX4.out hk45.keep (by simp), OwnF.nil _ _, HB2.out.trans (k5.mono hsz2), hN1, HOK.out.start⟩
    have hkb2 : W2.heap.size ≤ kb := by omega
    have hcb2 : W2.heap.size ≤ w3.heap.size := by omega
    clear HSG
    go_wp2_with fail
    go_loopw [48] (fun i wr => ∃ k : Nat, k ≤ SG.length ∧ i = .int .i64 k ∧ Hid (PutI W2 b kb w3.heap.size (N + ((SG.take k).map cost).sum) s.ses ((SG.take k).foldl (putSeg Blk.sum s.ses) S0) wr) ∧ Hid (OwnS wr w4.heap.size (.slice sa SG.length sc) SG)) (fun i _ => SG.length - (intOf i).toNat)
    case atStart => exact ⟨0, Nat.zero_le _, rfl, hI0, hsv⟩
    case round =>
      obtain ⟨k, hk, rfl, hI, hS⟩ := hrel
      by_cases hlt : k < SG.length
      · obtain ⟨g, hg⟩ : ∃ g, SG[k]? = some g := ⟨_, List.getElem?_eq_getElem hlt⟩
        obtain ⟨bk, o, hoo, hcell⟩ := (hS.out.flat segC_len).get hg
        subst hoo
        have c0 := hcell 0 _ rfl
        have c1 := hcell 1 _ rfl
        rw [Nat.add_zero] at c0
        have hgo := HSO.out g (List.mem_of_getElem? hg)
        have HFD := Lib.hid (take_fold (putSeg Blk.sum s.ses) S0 hg)
        have hcs : ((SG.take (k + 1)).map cost).sum = ((SG.take k).map cost).sum + cost g := by
          rw [List.map_take, List.map_take]
          exact take_sum (by rw [List.getElem?_map, hg]; rfl)
        have hle1 : ((SG.take (k + 1)).map cost).sum ≤ 200000 := by
          rw [List.map_take]
          exact Nat.le_trans (take_le _ _) HCO.out
        obtain ⟨V, hV, hbV, hzV, b0, b1⟩ := sbox wr g
        have hSV : OwnS V w4.heap.size _ SG := hS.out.kept hbV
        have hIV := hI.out.at hbV
        have HIV := Lib.hid hIV
        have HSV := Lib.hid hSV
        have HCS := Lib.hid hcs
        obtain ⟨M, hM⟩ : ∃ M, N + ((SG.take k).map cost).sum = M := ⟨_, rfl⟩
        have hM2 : N + ((SG.take (k + 1)).map cost).sum = M + cost g := by omega
        have hM3 : M + cost g ≤ 16777216 := by omega
        rw [hM] at HIV
        have HM2 := Lib.hid hM2
        clear hcell hg hIV hSV hI hS hcs HCS hM hM2 hle1
        generalize (SG.take k).foldl (putSeg Blk.sum s.ses) S0 = S at *
        by_cases hd : g.data = []
        · have hd' : g.data.isEmpty = true := by rw [hd]; rfl
          have hcost : cost g = 1 := if_pos hd
          have hps : putSeg Blk.sum s.ses S g = ⟨S.known, S.chunks, S.stream, Top.add S.out ⟨0, 0, g.len⟩⟩ := if_pos hd
          have hgl := hgo.2
          rw [hps] at HFD
          rw [hcost] at HM2 hM3
          obtain ⟨na2, nc2, ov, n, i1, i2, i3, i4, i5, i6, i7, i8⟩ := HIV.out
          have hxk : ExtK M ⟨0, 0, g.len⟩ := ⟨by show (0 : Int) ≤ 0; omega, by show (0 : Int) ≤ _; omega, hgl.1, hgl.2⟩
          have HI := Lib.hid (And.intro i1 (And.intro i2 i3))
          have HC1 := Lib.hid (collect1_any w3.heap.size W2.heap.size ov S.out ⟨0, 0, g.len⟩ V i4 i5 (by have := i8.outs; omega) i6.size hcb2 (fun y hy => by
            obtain ⟨y1, y2, y3, y4⟩ := i8.out y hy
            exact ⟨y1, by omega, y3, by omega⟩) ⟨hgl.1, by show g.len ≤ _; omega⟩)
          have HP := Lib.hid (i8.add hxk)
          have HST := Lib.hid (And.intro i4 (And.intro i5 (And.intro i6 i7)))
          clear i1 i2 i3 i4 i5 i6 i7 i8 hxk hps hcost HIV hd
          go_upto_region 11 with (fail)
          try rw [hV]
          clear hV
          go_wp2_with fail
          refine HC1.out.mono ?_
          rintro e w6 ⟨v6, rfl, g1, g2, g3, g4⟩
          obtain ⟨i1, i2, i3⟩ := HI.out
          obtain ⟨i4, i5, i6, i7⟩ := HST.out
          obtain ⟨r1, r2⟩ := coll_step rfl i1 i2 i3 i4 i5 i6 (Nat.le_succ_of_le i7) HP.out g1 g2 g3 g4
          have hr1 : PutI W2 b kb w3.heap.size (N + ((SG.take (k + 1)).map cost).sum) s.ses ((SG.take (k + 1)).foldl (putSeg Blk.sum s.ses) S0) w6 := by
            rw [HFD.out, HM2.out]
            exact r1
          have hr2 : OwnS w6 w4.heap.size (.slice (some ⟨bk, o, none⟩) SG.length sc) SG := OwnF.keepC HSV.out r2 (by decide)
          have HR1 := Lib.hid hr1
          have HR2 := Lib.hid hr2
          clear i1 i2 i3 i4 i5 i6 i7 r1 r2 hr1 hr2 g1 g2 g3 g4 HI HST HP HC1
          go_wp2_with fail
          go_roundw
          case rel => exact ⟨k + 1, by omega, by go_num, HR1, HR2⟩
          case measure => simp [intOf]; omega
        · have hd' : g.data.isEmpty = false := by
            cases hh : g.data with
            | nil => exact absurd hh hd
            | cons y t => rfl
          have hcost : cost g = (Top.chunks g.data).length := if_neg hd
          have hps : putSeg Blk.sum s.ses S g = (Top.chunks g.data).foldl (putChunk Blk.sum s.ses) S := if_neg hd
          have HDL : Hid (∀ x ∈ Top.chunks g.data, x.length ≤ 65536) := Lib.hid (fun x hx => Nat.le_trans (chunksGo_mem _ _ x hx) hgo.1)
          have HCH := Lib.hid (chunks_any g.data V hgo.1)
          rw [hps] at HFD
          rw [hcost] at HM2 hM3
          clear hps hcost hd
          generalize Top.chunks g.data = DS at *
          go_upto_region 11 with (fail)
          try rw [hV]
          clear hV
          go_wp2_with fail
          refine HCH.out.mono ?_
          rintro e w6 ⟨dv, rfl, hdv, hb6⟩
          obtain ⟨da, dc, rfl, _, _⟩ := hdv.form
          have hI6 := HIV.out.at hb6
          have hS6 : OwnS w6 w4.heap.size _ SG := HSV.out.kept hb6
          have HI6 := Lib.hid hI6
          have HS6 := Lib.hid hS6
          have HD6 := Lib.hid hdv
          clear hI6 hS6 hdv hb6 HCH HIV HSV
          go_wp2_with fail
          go_loopw [64] (fun i wr => ∃ m : Nat, m ≤ DS.length ∧ i = .int .i64 m ∧ Hid (PutI W2 b kb w3.heap.size (M + m) s.ses ((DS.take m).foldl (putChunk Blk.sum s.ses) S) wr) ∧ Hid (OwnS wr w4.heap.size (.slice (some ⟨bk, o, none⟩) SG.length sc) SG) ∧ Hid (OwnStr wr V.heap.size (.slice da DS.length dc) DS)) (fun i _ => DS.length - (intOf i).toNat)
          case atStart => exact ⟨0, Nat.zero_le _, rfl, HI6, HS6, HD6⟩
          case round =>
            obtain ⟨m, hm, rfl, hI, hS, hD⟩ := hrel
            by_cases hml : m < DS.length
            · obtain ⟨x, hx⟩ : ∃ x, DS[m]? = some x := ⟨_, List.getElem?_eq_getElem hml⟩
              obtain ⟨bk2, o2, hoo2, hcell2⟩ := (hD.out.flat strC_len).get hx
              subst hoo2
              have c0 := hcell2 0 _ rfl
              rw [Nat.add_zero, Nat.mul_one] at c0
              have hxl := HDL.out x (List.mem_of_getElem? hx)
              have HFD2 := Lib.hid (take_fold (putChunk Blk.sum s.ses) S hx)
              have HSU := Lib.hid (sum_new x wr (by omega))
              have hMm : M + m + 1 ≤ 16777216 := by omega
              clear hcell2 hx
              generalize (DS.take m).foldl (putChunk Blk.sum s.ses) S = S2 at *
              go_wp2_with fail
              refine HSU.out.mono ?_
              rintro e w7 ⟨rfl, hb7⟩
              have hI7 := hI.out.at hb7
              have hS7 : OwnS w7 w4.heap.size _ SG := hS.out.kept hb7
              have hD7 : OwnStr w7 V.heap.size _ DS := hD.out.kept hb7
              have hdl := sum_len x
              have hI7' := hI7
              obtain ⟨_, _, _, _, _, _, i3, _⟩ := hI7'
              have hlk := i3.look (Blk.sum x) (by omega)
              clear i3 HSU hI hS hD
              rcases hlo : Top.look S2.known (Blk.sum x) with _ | y
              · rw [hlo] at hlk
                replace hlk : (Instr.lookup 190 (.map (some kb)) (.string ⟨(Blk.sum x).toArray⟩) true).run Tryz.prog w7 = .ok (.tuple #[.agg #[.int .i64 0, .int .i64 0, .int .i64 0], .bool false]) w7 := hlk
                have hps : putChunk Blk.sum s.ses S2 x = ⟨S2.known ++ [(Blk.sum x, ⟨s.ses, S2.stream.length, x.length⟩)], S2.chunks ++ [⟨Blk.sum x, ⟨s.ses, S2.stream.length, x.length⟩⟩], S2.stream ++ x, Top.add S2.out ⟨s.ses, S2.stream.length, x.length⟩⟩ := by
                  unfold putChunk
                  rw [hlo]
                rw [hps] at HFD2
                obtain ⟨W8, hW8, hb8, hz8, hk8, b80, b81, b82⟩ := xbox2 w7 ⟨0, 0, 0⟩
                simp only at hW8 hk8 b80 b81 b82
                have f80 := tfree hk8 0
                have f81 := tfree hk8 1
                have f82 := tfree hk8 2
                have hI8 := hI7.at hb8
                obtain ⟨_, _, _, _, i1, _, _, _, _, i6, _, _⟩ := hI8
                have d1 : W8.cell? ⟨w.heap.size, 1, none⟩ = some (.int .i64 s.ses) := (i6.cell (p := ⟨w.heap.size, 1, none⟩) hlw2).trans D1.out
                have k2 := tcell i1 2 (.string ⟨S2.stream.toArray⟩) rfl
                obtain ⟨s1, s2⟩ := set3 hk8 (.int .i64 s.ses) (.int .i64 S2.stream.length) (.int .i64 x.length)
                obtain ⟨W9, hW9⟩ : ∃ W9, ((W8.setCell ⟨w7.heap.size, 0, none⟩ (.int .i64 s.ses)).setCell ⟨w7.heap.size, 1, none⟩ (.int .i64 S2.stream.length)).setCell ⟨w7.heap.size, 2, none⟩ (.int .i64 x.length) = W9 := ⟨_, rfl⟩
                rw [hW9] at s1 s2
                have hb9 : Below w7.heap.size w7 W9 := hb8.grown s2 hb8.size (fun k e => by injection e with e; omega)
                have HI9 := Lib.hid (hI7.at hb9)
                have HS9 : Hid (OwnS W9 w4.heap.size (.slice (some ⟨bk, o, none⟩) SG.length sc) SG) := Lib.hid (hS7.kept hb9)
                have HD9 : Hid (OwnStr W9 V.heap.size (.slice (some ⟨bk2, o2, none⟩) DS.length dc) DS) := Lib.hid (hD7.kept hb9)
                have S1 := Lib.hid s1
                have HLO := Lib.hid hlo
                generalize hdg : Blk.sum x = dg at *
                have HW8 := Lib.hid hW8
                have HW9 := Lib.hid hW9
                clear hI7 hS7 hD7 hb8 hk8 i1 i6 s1 s2 hps hlo hb9 hW8 hW9
                go_upto_region 18 with (fail)
                try rw [HW8.out]
                clear HW8
                go_upto_region 20 with (fail)
                try rw [HW9.out]
                clear HW9 hlk b80 b81 b82 f80 f81 f82 d1 k2
                have hlw9 : w7.heap.size < W9.heap.size := (Array.getElem?_eq_some_iff.1 S1.out).1
                obtain ⟨na3, nc3, ov, n, i1, i2, i3, i4, i5, i6, i7, i8⟩ := HI9.out
                obtain ⟨w10, hup, hm10, hg10⟩ := i3.put dg ⟨s.ses, S2.stream.length, x.length⟩ (by omega) (by omega) HLO.out
                replace hup : (Instr.mapUpdate 190 (.map (some kb)) (.string ⟨dg.toArray⟩) (.agg #[.int .i64 s.ses, .int .i64 S2.stream.length, .int .i64 x.length])).run Tryz.prog W9 = .ok () w10 := hup
                obtain ⟨j1, j2, j4, j5, j6, j7⟩ := put_map i1 i2 i3 i4 i5 i6 hkb2 hg10
                have t0 := tcell S1.out 0 (.int .i64 s.ses) rfl
                have t1 := tcell S1.out 1 (.int .i64 S2.stream.length) rfl
                have t2 := tcell S1.out 2 (.int .i64 x.length) rfl
                have hs10 := j7.2 _ _ _ _ S1.out (by simp)
                have t3 := tcell hs10 0 (.int .i64 s.ses) rfl
                have t4 := tcell hs10 1 (.int .i64 S2.stream.length) rfl
                have t5 := tcell hs10 2 (.int .i64 x.length) rfl
                have k0 := tcell j1 0 (.slice na3 S2.chunks.length nc3) rfl
                have hadd := string_add ⟨S2.stream.toArray⟩ ⟨x.toArray⟩ (by
                  have := i8.stream
                  show S2.stream.length + x.length ≤ _
                  omega)
                have hst := i8.stream
                have hch := i8.chunks
                have J1 := Lib.hid j1
                have J2 := Lib.hid j2
                have J3 := Lib.hid hm10
                have J4 := Lib.hid j4
                have J5 := Lib.hid j5
                have J6 := Lib.hid j6
                have J7 := Lib.hid j7
                have I8 := Lib.hid i8
                have I7 := Lib.hid i7
                clear i1 i2 i3 i4 i5 i6 i7 i8 hg10 j1 j2 hm10 j4 j5 j6 j7 HI9 hs10
                go_wp2_with (at_builtin; refine wpList_appF 160 64 chunkC 4 40 _ info_chunk Tryz.underlying64 rfl (by decide) (by decide) chunkC_len chunkC_one rfl _ _ rfl W2.heap.size _ _ rfl J2.out ⟨dg, ⟨s.ses, S2.stream.length, x.length⟩⟩ rfl (by omega) J6.out.size ?_; intro v11 w11 ho11 _ hg11; obtain ⟨g1, cap1, rfl⟩ := ho11.succ; obtain ⟨q1, q2, q3, q4, q5, q6, q7, q8, q9⟩ := put_row (st2 := S2.stream ++ x) J1.out J2.out J3.out J4.out J5.out J6.out J7.out hle ho11 hg11; rw [← ba_app S2.stream x] at q3 q4 q5 q6 q7 q8 q9; have y1 := tcell q1 0 (.slice na3 S2.chunks.length nc3) rfl; have y2 := tfree q1 0; have y3 := tcell q2 2 (.string ⟨S2.stream.toArray⟩) rfl; have y4 := tfree q2 2; have hs12 := q9.2 _ _ _ _ S1.out (by decide); have t6 := tcell hs12 0 (.int .i64 s.ses) rfl; have t7 := tcell hs12 1 (.int .i64 S2.stream.length) rfl; have t8 := tcell hs12 2 (.int .i64 x.length) rfl)
                rw [ba_app S2.stream x] at q3 q4 q5 q6 q7 q8 q9 ⊢
                generalize (w11.setCell ⟨b, 0, none⟩ (.slice (some ⟨g1, 0, none⟩) (S2.chunks.length + 1) cap1)).setCell ⟨b, 2, none⟩ (.string ⟨(S2.stream ++ x).toArray⟩) = w12 at *
                have hi8 := I8.out
                have hxk : ExtK (M + m) ⟨s.ses, S2.stream.length, x.length⟩ := ⟨by show (0 : Int) ≤ (S2.stream.length : Int); omega, by show (S2.stream.length : Int) ≤ _; omega, by show (0 : Int) ≤ (x.length : Int); omega, by show (x.length : Int) ≤ _; omega⟩
                refine (collect1_any w3.heap.size W2.heap.size ov S2.out ⟨s.ses, S2.stream.length, x.length⟩ w12 q6 q7 (by have := hi8.outs; omega) q8.size hcb2 (fun y hy => by
                  obtain ⟨y1, y2, y3, y4⟩ := hi8.out y hy
                  exact ⟨y1, by omega, y3, by omega⟩) ⟨hxk.2.2.1, by have := hxk.2.2.2; omega⟩).mono ?_
                rintro e w13 ⟨v13, rfl, g1, g2, g3, g4⟩
                obtain ⟨r1, r2⟩ := coll_step (by simp) q3 q4 q5 q6 q7 q8 (Nat.succ_le_succ I7.out) (hi8.new (ses := s.ses) (dat := x) (by omega) (by omega) HLO.out) g1 g2 g3 g4
                have r3 := (q9.mono (Us := putTs) (fun T hT => by
                  simp only [List.mem_cons, List.not_mem_nil, or_false] at hT ⊢
                  rcases hT with rfl | rfl <;> simp)).trans r2
                have hr1 : PutI W2 b kb w3.heap.size (M + (m + 1)) s.ses ((DS.take (m + 1)).foldl (putChunk Blk.sum s.ses) S) w13 := by
                  rw [HFD2.out]
                  exact r1
                have hr2 : OwnS w13 w4.heap.size (.slice (some ⟨bk, o, none⟩) SG.length sc) SG := OwnF.keepC HS9.out r3 (by decide)
                have hr3 : OwnStr w13 V.heap.size (.slice (some ⟨bk2, o2, none⟩) DS.length dc) DS := OwnF.keepC HD9.out r3 (by decide)
                have HR1 := Lib.hid hr1
                have HR2 := Lib.hid hr2
                have HR3 := Lib.hid hr3
                clear q1 q2 q3 q4 q5 q6 q7 q8 q9 r1 r2 r3 hr1 hr2 hr3 g1 g2 g3 g4 hi8 hxk
                go_wp2_with fail
                go_roundw
                case rel => exact ⟨m + 1, by omega, by go_num, HR1, HR2, HR3⟩
                case measure => simp [intOf]; omega
              · rw [hlo] at hlk
                replace hlk : (Instr.lookup 190 (.map (some kb)) (.string ⟨(Blk.sum x).toArray⟩) true).run Tryz.prog w7 = .ok (.tuple #[.agg #[.int .i64 y.ses, .int .i64 y.off, .int .i64 y.len], .bool true]) w7 := hlk
                have hps : putChunk Blk.sum s.ses S2 x = ⟨S2.known, S2.chunks, S2.stream, Top.add S2.out y⟩ := by
                  unfold putChunk
                  rw [hlo]
                rw [hps] at HFD2
                obtain ⟨W8, hW8, hb8, hz8, hk8, b80, b81, b82⟩ := xbox2 w7 y
                have hI8 := hI7.at hb8
                have HS8 : Hid (OwnS W8 w4.heap.size (.slice (some ⟨bk, o, none⟩) SG.length sc) SG) := Lib.hid (hS7.kept hb8)
                have HD8 : Hid (OwnStr W8 V.heap.size (.slice (some ⟨bk2, o2, none⟩) DS.length dc) DS) := Lib.hid (hD7.kept hb8)
                obtain ⟨na3, nc3, ov, n, i1, i2, i3, i4, i5, i6, i7, i8⟩ := hI8
                have hyk := i8.known _ _ hlo
                have HC1 := Lib.hid (collect1_any w3.heap.size W2.heap.size ov S2.out y W8 i4 i5 (by have := i8.outs; omega) i6.size hcb2 (fun y hy => by
                  obtain ⟨y1, y2, y3, y4⟩ := i8.out y hy
                  exact ⟨y1, by omega, y3, by omega⟩) ⟨hyk.2.2.1, by have := hyk.2.2.2; omega⟩)
                have HP := Lib.hid (i8.add hyk)
                have HI := Lib.hid (And.intro i1 (And.intro i2 i3))
                have HST := Lib.hid (And.intro i4 (And.intro i5 (And.intro i6 i7)))
                generalize hdg : Blk.sum x = dg at *
                clear i1 i2 i3 i4 i5 i6 i7 i8 hyk hps hI7 hS7 hD7 hb8 hk8
                go_upto_region 18 with (fail)
                try rw [hW8]
                clear hW8
                go_wp2_with fail
                refine HC1.out.mono ?_
                rintro e w9 ⟨v9, rfl, g1, g2, g3, g4⟩
                obtain ⟨i1, i2, i3⟩ := HI.out
                obtain ⟨i4, i5, i6, i7⟩ := HST.out
                obtain ⟨r1, r2⟩ := coll_step rfl i1 i2 i3 i4 i5 i6 (Nat.le_succ_of_le i7) HP.out g1 g2 g3 g4
                have hr1 : PutI W2 b kb w3.heap.size (M + (m + 1)) s.ses ((DS.take (m + 1)).foldl (putChunk Blk.sum s.ses) S) w9 := by
                  rw [HFD2.out]
                  exact r1
                have hr2 : OwnS w9 w4.heap.size (.slice (some ⟨bk, o, none⟩) SG.length sc) SG := OwnF.keepC HS8.out r2 (by decide)
                have hr3 : OwnStr w9 V.heap.size (.slice (some ⟨bk2, o2, none⟩) DS.length dc) DS := OwnF.keepC HD8.out r2 (by decide)
                have HR1 := Lib.hid hr1
                have HR2 := Lib.hid hr2
                have HR3 := Lib.hid hr3
                clear i1 i2 i3 i4 i5 i6 i7 r1 r2 hr1 hr2 hr3 g1 g2 g3 g4 HI HST HP HC1
                go_wp2_with fail
                go_roundw
                case rel => exact ⟨m + 1, by omega, by go_num, HR1, HR2, HR3⟩
                case measure => simp [intOf]; omega
            · obtain rfl : m = DS.length := by omega
              have hr1 : PutI W2 b kb w3.heap.size (N + ((SG.take (k + 1)).map cost).sum) s.ses ((SG.take (k + 1)).foldl (putSeg Blk.sum s.ses) S0) wr := by
                rw [HFD.out, HM2.out]
                have := hI.out
                rwa [List.take_length] at this
              have HR1 := Lib.hid hr1
              clear hr1 hI
              go_wp2_with fail
              go_roundw
              case rel => exact ⟨k + 1, by omega, by go_num, HR1, hS⟩
              case measure => simp [intOf]; omega
      · obtain rfl : k = SG.length := by omega
        have hI' := hI.out
        rw [List.take_length, ← HPA.out] at hI'
        obtain ⟨na2, nc2, ov, n, i1, i2, i3, i4, i5, i6, i7, i8⟩ := hI'
        generalize putAll Blk.sum s c = PA at *
        obtain ⟨oa, oc, rfl, _, _⟩ := i5.form
        have hzw := (i6.block W.heap.size hlW).trans HZ.out
        obtain ⟨t1, t2⟩ := set3 hzw (.slice na2 PA.chunks.length nc2) (.int .i64 s.ses) (.string ⟨PA.stream.toArray⟩)
        have k0 := tcell i1 0 (.slice na2 PA.chunks.length nc2) rfl
        have k1 := tcell i1 1 (.int .i64 s.ses) rfl
        have k2 := tcell i1 2 (.string ⟨PA.stream.toArray⟩) rfl
        have y0 := tcell hzw 0 (.slice none 0 0) rfl
        have y1 := tcell hzw 1 (.int .i64 0) rfl
        have y2 := tcell hzw 2 (.string ⟨#[]⟩) rfl
        have z0 := tfree hzw 0
        have z1 := tfree hzw 1
        have z2 := tfree hzw 2
        have i4' := Boxed.keepC i4 (SameT.of_grown (Ts := [66]) t2 hzw (by simp)).keep (by decide)
        have hwb := (hfz.trans (i6.mono hfz.size)).grown t2 (Nat.le_trans hfz.size i6.size) (fun k hk => by injection hk; omega)
        have hfl := (i2.far t2 hlW).mono' hbz0
        have hfx := (i5.far t2 hlW).flat extC_len
        have I4 := Lib.hid i4
        have I4' := Lib.hid i4'
        have HT1 := Lib.hid t1
        have HWB := Lib.hid hwb
        have HFL := Lib.hid hfl
        have HFX := Lib.hid hfx
        clear i1 i2 i3 i4 i5 i6 i7 i8 i4' t1 t2 hwb hfl hfx hI HZ
        go_wp2_with fail
        go_region_with ((go_at_call 150; refine (collected_any _ w3.heap.size (.slice oa PA.out.length oc) (by first | exact I4.out | exact I4'.out) ⟨_, _, _, rfl⟩).mono ?_; rintro e w6 ⟨rfl, rfl⟩))
        all_goals
          go_wp2_with fail
          refine bodyPost_ret (v := .tuple #[.agg #[.slice na2 PA.chunks.length nc2, .int .i64 s.ses, .string ⟨PA.stream.toArray⟩], .slice oa PA.out.length oc, .int .i64 0]) ?_ ?_ ?_
          · refine results_row_tmp2 (p := 4) (u := 5) (v := 6) (ty := 66) (by kernel_rfl) _ _ W.heap.size 66 _ (0, 0) _ ?_ HT1.out Tryz.underlying66 (by kernel_rfl) (by kernel_rfl)
            kernel_rfl
          · kernel_rfl
          · rw [HPT.out]
            exact ⟨_, _, rfl, ⟨na2, nc2, rfl, HFL.out⟩, HFX.out, by first | exact HWB.out | exact HWB.out.drew | exact HWB.out.drew.drew⟩
theorem put_any (v : Value) (s : Store) (c : Bs) (N : Nat) (w : World) (hs : StoV w v s) (hok : StoOk N s) (hN : N + 200000 ≤ 16777216) (hcl : c.length ≤ 140737488355328) :
    Calls Tryz.prog 88 #[v, .string ⟨c.toArray⟩] w fun e w' => ∃ v' xv, e = .returned (.tuple #[v', xv, .int .i64 (Top.put Blk.sum s c).2.2]) ∧ StoV w' v' (Top.put Blk.sum s c).1 ∧ Flat extC 3 w' xv (Top.put Blk.sum s c).2.1 ∧ Below w.heap.size w w' := by
  refine (putO_any v s c N w hs hok hN hcl).mono ?_
  rintro e w' ⟨v', xv, rfl, h1, h2, h3⟩
  exact ⟨v', xv, rfl, h1.sto, h2, h3⟩
theorem StoOk.mono {N M : Nat} {s : Store} (h : StoOk N s) (hM : N ≤ M) : StoOk M s :=
  ⟨Nat.le_trans h.chunks hM, Nat.le_trans h.stream (Nat.mul_le_mul_right _ hM), fun c hc => ⟨(h.each c hc).1, (h.each c hc).2.mono hM⟩⟩
theorem put_ok {N : Nat} {s : Store} (h : StoOk N s) (c : Bs) : StoOk (N + 200000) (Top.put Blk.sum s c).1 := by
  unfold Top.put
  split
  · exact h.mono (by omega)
  · split
    · exact h.mono (by omega)
    · rename_i hc
      have h1 : PutOk (N + ((segs c).map cost).sum) (putAll Blk.sum s c) := putSegs_ok (ses := s.ses) (segs c) h.start (segs_ok c (by omega))
      have h2 := h1.mono (M := N + 200000) (by have := segs_cost c (by omega); omega)
      exact ⟨h2.chunks, h2.stream, h2.each⟩
theorem begin_ok {N : Nat} {s : Store} (h : StoOk N s) (n : Int) : StoOk N (Top.begin s n).1 := by
  unfold Top.begin
  split
  · exact h
  · split
    · exact h
    · exact ⟨h.chunks, Nat.zero_le _, h.each⟩
end Go.Proofs.YtbhmdcdhklgomaaGreatDoor
