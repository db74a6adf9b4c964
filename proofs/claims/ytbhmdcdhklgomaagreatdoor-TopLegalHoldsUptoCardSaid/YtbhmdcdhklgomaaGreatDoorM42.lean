/-
  session.replay.
-/
import Derived.Test.YtbhmdcdhklgomaaGreatDoorM37
import Derived.Test.YtbhmdcdhklgomaaGreatDoorM31
import Derived.Test.YtbhmdcdhklgomaaGreatDoorM41
namespace Go.Proofs.YtbhmdcdhklgomaaGreatDoor
open Go.RowKit Top

def repDra (d : Rep) : Draft := ⟨0, 0, [], [], d.store, d.tree, d.holds⟩
set_option maxHeartbeats 1600000 in
set_option maxRecDepth 100000 in
theorem replay_any (v : Value) (l : List Ses) (w : World) (hv : ArcV w v l) (hg : Ground w) (hok : ∀ s ∈ l, ∀ e ∈ s.entries, entErr e = 0) (hst : ∀ s ∈ l, s.stream.length ≤ 140737488355328) (hcn : count l ≤ 80) (hl : l.length ≤ 255) :
    Calls Tryz.prog 55 #[v] w fun en w' => ∃ v', en = .returned v' ∧ DraV w' v' (repDra (replay l)) ∧ Below w.heap.size w w' := by
  obtain ⟨id, da, sp, sa, sc, rfl, hs⟩ := hv
  obtain ⟨W, hW, hB0, hR0⟩ := base_rep w (.int .u32 id) (.int .i64 da) (.int .i64 sp) (.slice sa l.length sc)
  have hbW := rep_at hR0
  have d3 := tcell hB0 3 (.slice sa l.length sc) rfl
  have HS := Lib.hid hs
  have HG := Lib.hid hg
  have HOK := Lib.hid hok
  have HST := Lib.hid hst
  have HCN := Lib.hid hcn
  have HR0 := Lib.hid hR0
  clear hs hg hok hst hR0 hB0
  go_enter Tryz.func55, Tryz.ntmps55
  go_upto_region 2 with (fail)
  try rw [hW]
  clear hW
  go_wp2_with fail
  go_loopw [4, 18] (fun v4 i wr => ∃ k : Nat, k ≤ l.length ∧ i = .int .i64 k ∧ Hid (OwnStr wr W.heap.size v4 ((l.take k).map (·.stream))) ∧ Hid (RepI w (w.heap.size + 1) (w.heap.size + 1 + 1) (repK l k) wr) ∧ W.heap.size ≤ wr.heap.size) (fun _ i _ => l.length - (intOf i).toNat)
  case atStart => exact ⟨0, Nat.zero_le _, rfl, OwnF.nil _ _, HR0, Nat.le_refl _⟩
  case round =>
    obtain ⟨k, hk, rfl, hO, hR, hsz⟩ := hrel
    have hbr := rep_at hR.out
    by_cases hlt : k < l.length
    · obtain ⟨s, hsk⟩ : ∃ s, l[k]? = some s := ⟨_, List.getElem?_eq_getElem hlt⟩
      obtain ⟨bk, o, ea, ec, hoo, hen, p0, p1, p2, p3, p4, p5⟩ := (HS.out).get hsk
      subst hoo
      have c0 := (hbr.cell (World.block_lt_of_cell? _ _ p0)).trans p0
      have c1 := (hbr.cell (World.block_lt_of_cell? _ _ p1)).trans p1
      have c2 := (hbr.cell (World.block_lt_of_cell? _ _ p2)).trans p2
      have c3 := (hbr.cell (World.block_lt_of_cell? _ _ p3)).trans p3
      have c4 := (hbr.cell (World.block_lt_of_cell? _ _ p4)).trans p4
      have c5 := (hbr.cell (World.block_lt_of_cell? _ _ p5)).trans p5
      have hmap : (l.take (k + 1)).map (·.stream) = (l.take k).map (·.stream) ++ [s.stream] := by
        rw [List.take_add_one, hsk, Option.toList_some, List.map_append]
        rfl
      have hrs := repK_succ hsk
      rw [← hmap] at hrs
      have HRS := Lib.hid hrs
      have HMP := Lib.hid hmap
      have hln : ((l.take k).map (·.stream)).length = k := by
        rw [List.length_map, List.length_take]
        omega
      obtain ⟨V, hV, hbV, hzV, hblk, b0, b1, b2, b3, b4, b5⟩ := box6 wr (.int .i64 s.num) (.int .i64 s.date) (.string ⟨s.prev.toArray⟩) (.slice ea s.entries.length ec) (.string ⟨s.stream.toArray⟩) (.string ⟨s.sign.toArray⟩) 39
      have hOV : OwnStr V W.heap.size _ ((l.take k).map (·.stream)) := hO.out.kept hbV
      have HRV := Lib.hid (rep_below hR.out hbV)
      have hszV := Nat.le_trans hsz hbV.size
      generalize (l.take k).map (·.stream) = ss at *
      obtain ⟨oa, oc, hv, _, _⟩ := hOV.form
      subst hv
      have HOV := Lib.hid hOV
      have HBK := Lib.hid hblk
      have HEN := Lib.hid hen
      have HSK := Lib.hid hsk
      clear hmap hrs hzV hsk hOV hO hR hblk hen p0 p1 p2 p3 p4 p5
      go_upto_region 6 with (fail)
      try rw [hV]
      clear hV c0 c1 c2 c3 c4 c5
      go_upto_region 7 with (at_builtin; refine wpList_appF 9 130 strC 1 16 _ info_strT Tryz.underlying130 rfl (by decide) (by decide) strC_len strC_one rfl _ _ rfl W.heap.size _ _ rfl HOV.out s.stream rfl (by omega) hszV ?_; intro v1 w1 ho1 hb1 hg1)
      have hk1 : KeepC [9] V w1 := (SameT.of_row HOV.out hg1 (by simp)).keep
      have hb1w := (rep_at HRV.out).trans (hb1.mono hbW.size)
      have HR1 := Lib.hid (rep_keep HRV.out hk1 hb1w (by decide) (by decide) (by decide) (by decide))
      have HB1 : Hid (w1.heap[wr.heap.size]? = some (.cells #[.int .i64 s.num, .int .i64 s.date, .string ⟨s.prev.toArray⟩, .slice ea s.entries.length ec, .string ⟨s.stream.toArray⟩, .string ⟨s.sign.toArray⟩] 39 (0, 0))) := Lib.hid (hk1.2 _ _ _ _ HBK.out (by decide))
      have hsz1 := Nat.le_trans hszV (Nat.le_trans (Nat.le_refl _) hg1.size)
      obtain ⟨g1, cap1, rfl⟩ := ho1.succ
      have HO1 := Lib.hid ho1
      have hRP := replay_ok (l := l.take k) (fun z hz => HOK.out z (List.mem_of_mem_take hz))
      have hRP : RepOk (count (l.take k)) (repK l k) := hRP
      have hcl : count (l.take (k + 1)) ≤ 80 := Nat.le_trans (count_take l (k + 1)) HCN.out
      have hcnt : count (l.take (k + 1)) = count (l.take k) + s.entries.length := by
        unfold count
        rw [List.map_take, List.map_take]
        exact take_sum (by rw [List.getElem?_map, HSK.out]; rfl)
      obtain ⟨ca, cc, ta, tc, ha, hc, r1, r2, r3, r4, r5, r6, r7, r8, r9⟩ := HR1.out
      have hch := hRP.store.chunks
      have HBE := Lib.hid (beginO_any _ (repK l k).store ((k : Int) + 1) w1 ⟨ca, cc, rfl, r3.flat chunkC_len⟩ (by omega))
      have k4 := tcell r1 4 (.slice ca (repK l k).store.chunks.length cc) rfl
      have k5 := tcell r1 5 (.int .i64 (repK l k).store.ses) rfl
      have k6 := tcell r1 6 (.string ⟨(repK l k).store.stream.toArray⟩) rfl
      have q1 : IntKind.i64.wrap ((k : Int) + 1) = (k : Int) + 1 := by rw [IntKind.wrap_i64]; omega
      have HRP := Lib.hid hRP
      have HCC := Lib.hid (And.intro hcl hcnt)
      clear HRV HOV HBK hk1 ho1 hb1 hg1 hb1w r1 r2 r3 r4 r5 r6 hRP hch hcl hcnt b0 b1 b2 b3 b4 b5 hbV hszV
      generalize repK l k = D at *
      generalize wr.heap.size = SB at *
      go_wp2_with fail
      refine HBE.out.mono ?_
      rintro en w2 ⟨v2, rfl, ⟨pa, pc, rfl, hpk⟩, hb2⟩
      have HR2 := rep_below HR1.out hb2
      have hw12 : w.heap.size ≤ w1.heap.size := (rep_at HR1.out).size
      obtain ⟨HR3, kk3⟩ := rep_store HR2 (hpk.mono' hw12)
      obtain ⟨_, _, _, _, _, _, r1, _⟩ := HR2
      have y4 := tcell r1 4 _ rfl
      have y5 := tcell r1 5 _ rfl
      have y6 := tcell r1 6 _ rfl
      have z4 := tfree r1 4
      have z5 := tfree r1 5
      have z6 := tfree r1 6
      have HR3 := Lib.hid HR3
      have kk := (KeepC.of_below (Ts := [68]) hb2).trans kk3
      have HB3 := Lib.hid (kk.2 _ _ _ _ HB1.out (by decide))
      have HO3 := Lib.hid (OwnF.keepC HO1.out kk (by decide))
      have hsz3 := Nat.le_trans hsz1 kk.1
      clear r1 kk kk3 HR1 HB1 HO1 HBE hpk
      go_upto_region 8 with (fail)
      generalize (((w2.setCell ⟨w.heap.size + 1 + 1, 4, none⟩ _).setCell ⟨w.heap.size + 1 + 1, 5, none⟩ _).setCell ⟨w.heap.size + 1 + 1, 6, none⟩ _) = w3 at *
      have y3 := tcell HB3.out 3 (.slice ea s.entries.length ec) rfl
      have hent := count_each (List.mem_of_getElem? HSK.out)
      have hcn := HCN.out
      have HFD : Hid (repS (ss ++ [s.stream]) D s = s.entries.foldl (repE (ss ++ [s.stream]) s.date) ⟨(Top.begin D.store ((k : Int) + 1)).1, D.tree, D.holds⟩) := by
        show _ = _
        unfold repS
        rw [show (((ss ++ [s.stream]).length : Nat) : Int) = (k : Int) + 1 by rw [List.length_append, hln]; rfl]
      go_wp2_with fail
      go_loopw [40] (fun i wr => ∃ m : Nat, m ≤ s.entries.length ∧ i = .int .i64 m ∧ Hid (RepI w (w.heap.size + 1) (w.heap.size + 1 + 1) ((s.entries.take m).foldl (repE (ss ++ [s.stream]) s.date) ⟨(Top.begin D.store ((k : Int) + 1)).1, D.tree, D.holds⟩) wr) ∧ Hid (OwnStr wr W.heap.size (.slice (some ⟨g1, 0, none⟩) (ss.length + 1) cap1) (ss ++ [s.stream])) ∧ Hid (wr.heap[SB]? = some (.cells #[.int .i64 s.num, .int .i64 s.date, .string ⟨s.prev.toArray⟩, .slice ea s.entries.length ec, .string ⟨s.stream.toArray⟩, .string ⟨s.sign.toArray⟩] 39 (0, 0))) ∧ W.heap.size ≤ wr.heap.size) (fun i _ => s.entries.length - (intOf i).toNat)
      case atStart => exact ⟨0, Nat.zero_le _, rfl, HR3, HO3, HB3, hsz3⟩
      case round =>
        obtain ⟨m, hm, rfl, hRm, hOm, hBm, hszm⟩ := hrel
        by_cases hml : m < s.entries.length
        · obtain ⟨e, hem⟩ : ∃ e, s.entries[m]? = some e := ⟨_, List.getElem?_eq_getElem hml⟩
          have hbr := rep_at hRm.out
          obtain ⟨bk2, o2, aa, ac, ex, exc, hoo, hfa, hfx, p0, p1, p2, p3, p4, p5, p6⟩ := (HEN.out).get hem
          subst hoo
          have c0 := (hbr.cell (World.block_lt_of_cell? _ _ p0)).trans p0
          have c1 := (hbr.cell (World.block_lt_of_cell? _ _ p1)).trans p1
          have c2 := (hbr.cell (World.block_lt_of_cell? _ _ p2)).trans p2
          have c3 := (hbr.cell (World.block_lt_of_cell? _ _ p3)).trans p3
          have c4 := (hbr.cell (World.block_lt_of_cell? _ _ p4)).trans p4
          have c5 := (hbr.cell (World.block_lt_of_cell? _ _ p5)).trans p5
          have c6 := (hbr.cell (World.block_lt_of_cell? _ _ p6)).trans p6
          have hee : entErr e = 0 := HOK.out s (List.mem_of_getElem? HSK.out) e (List.mem_of_getElem? hem)
          have hrm : RepOk (count (l.take k) + (s.entries.take m).length) ((s.entries.take m).foldl (repE (ss ++ [s.stream]) s.date) ⟨(Top.begin D.store ((k : Int) + 1)).1, D.tree, D.holds⟩) := repEs_ok _ _ _ ⟨begin_ok HRP.out.store _, HRP.out.tree, HRP.out.paths, HRP.out.holds, HRP.out.fits⟩ (fun x hx => HOK.out s (List.mem_of_getElem? HSK.out) x (List.mem_of_mem_take hx))
          have hDn : (s.entries.take (m + 1)).foldl (repE (ss ++ [s.stream]) s.date) ⟨(Top.begin D.store ((k : Int) + 1)).1, D.tree, D.holds⟩ = repE (ss ++ [s.stream]) s.date ((s.entries.take m).foldl (repE (ss ++ [s.stream]) s.date) ⟨(Top.begin D.store ((k : Int) + 1)).1, D.tree, D.holds⟩) e := by
            rw [List.take_add_one, hem, Option.toList_some, List.foldl_append]
            rfl
          have HDN := Lib.hid hDn
          have hcc := HCC.out
          rw [List.length_take, Nat.min_eq_left (Nat.le_of_lt hml)] at hrm
          obtain ⟨N, hN⟩ : ∃ N, count (l.take k) + m = N := ⟨_, rfl⟩
          have hN80 : N < 80 := by omega
          rw [hN] at hrm
          have hsl : ∀ x ∈ ss ++ [s.stream], x.length ≤ 140737488355328 := by
            rw [← HMP.out]
            intro x hx
            obtain ⟨y, hy, rfl⟩ := List.mem_map.1 hx
            exact HST.out y (List.mem_of_mem_take hy)
          clear hDn hN hcc HFD HRS
          generalize (s.entries.take m).foldl (repE (ss ++ [s.stream]) s.date) ⟨(Top.begin D.store ((k : Int) + 1)).1, D.tree, D.holds⟩ = DM at *
          obtain ⟨X, hX, hbX, hzX, e0, e1, e2, e3, e4, e5, e6⟩ := ebox wr e (.slice aa e.attrs.length ac) (.slice ex e.exts.length exc)
          obtain ⟨DS, DT, DH⟩ := DM
          have HRX := Lib.hid (rep_below hRm.out hbX)
          have HOX := Lib.hid (hOm.out.kept hbX)
          have HBX := Lib.hid ((hbX.block _ (Array.getElem?_eq_some_iff.1 hBm.out).1).trans hBm.out)
          have hszX := Nat.le_trans hszm hbX.size
          have HEX : Hid (X.heap[wr.heap.size]? = some (.cells #[.int .i64 e.kind, .string ⟨e.path.toArray⟩, .slice aa e.attrs.length ac, .string ⟨e.target.toArray⟩, .int .i64 e.size, .string ⟨e.digest.toArray⟩, .slice ex e.exts.length exc] 43 (0, 0))) := Lib.hid (by rw [← hX]; exact heap_alloc_new _ _)
          have hstrs := ownStr_strs HOX.out
          rw [hln] at hstrs
          have HGT := Lib.hid (get_any35 (some ⟨g1, 0, none⟩) (k + 1) cap1 (ss ++ [s.stream]) (.slice ex e.exts.length exc) e.exts X hstrs (hfx.below (rep_at HRX.out)) (exts_ok hee) hsl (by omega))
          have HFA := Lib.hid hfa
          have HFX := Lib.hid hfx
          have HEE := Lib.hid hee
          have HEM := Lib.hid hem
          have HRM := Lib.hid hrm
          clear hstrs p0 p1 p2 p3 p4 p5 p6 hRm hOm hBm hbr hfa hfx hee hem hrm hsl hzX hbX e1 e2 e3 e4 e5
          go_upto_region 11 with (fail)
          try rw [hX]
          clear hX
          have hgl := getB_len (ss ++ [s.stream]) e.exts
          generalize hGE : getB (ss ++ [s.stream]) e.exts = G at *
          have HGE := Lib.hid hGE
          have hPL : e.path.length ≤ 16777216 := by have := (valid HEE.out).path; omega
          have hTL : e.target.length ≤ 16777216 := by have := (valid HEE.out).target; omega
          clear hGE
          by_cases hk1 : e.kind = 1
          case' pos =>
            have hkb : (e.kind == 1) = true := by simp [hk1]
            have HK1 := Lib.hid hk1
            clear hk1
            go_wp2_with fail
            refine HGT.out.mono ?_
            rintro en x1 ⟨rfl, hbx⟩
            have HRY := Lib.hid (rep_below HRX.out hbx)
            have kx : KeepC [] X x1 := KeepC.of_below hbx
            obtain ⟨ca2, cc2, ta2, tc2, ha2, hc2, r1, _, r3, _, _, _, _⟩ := HRY.out
            have HPT := Lib.hid (putO_any _ DS G.1 (N * 200000) x1 ⟨ca2, cc2, rfl, r3.flat chunkC_len⟩ HRM.out.store (by omega) (by omega))
            have k4 := tcell r1 4 (.slice ca2 DS.chunks.length cc2) rfl
            have k5 := tcell r1 5 (.int .i64 DS.ses) rfl
            have k6 := tcell r1 6 (.string ⟨DS.stream.toArray⟩) rfl
            clear r1 r3 HGT HRX
            generalize hPE : Top.put Blk.sum DS G.1 = PT at *
            have HPE := Lib.hid hPE
            clear hPE
            go_wp2_with fail
            refine HPT.out.mono ?_
            rintro en x2 ⟨v2, xv, rfl, ⟨pa2, pc2, rfl, hpk⟩, _, hb2⟩
            have HR2 := rep_below HRY.out hb2
            have hw12 : w.heap.size ≤ x1.heap.size := (rep_at HRY.out).size
            obtain ⟨HR3, kk3⟩ := rep_store HR2 (hpk.mono' hw12)
            obtain ⟨_, _, _, _, _, _, r1, _⟩ := HR2
            have y4 := tcell r1 4 _ rfl
            have y5 := tcell r1 5 _ rfl
            have y6 := tcell r1 6 _ rfl
            have z4 := tfree r1 4
            have z5 := tfree r1 5
            have z6 := tfree r1 6
            have HR3 := Lib.hid HR3
            have kk := ((kx.mono (Us := [68]) (by simp)).trans (KeepC.of_below (Ts := [68]) hb2)).trans kk3
            clear r1 kk3 HRY HPT hpk
            go_upto_region 14 with (fail)
            generalize (((x2.setCell ⟨w.heap.size + 1 + 1, 4, none⟩ _).setCell ⟨w.heap.size + 1 + 1, 5, none⟩ _).setCell ⟨w.heap.size + 1 + 1, 6, none⟩ _) = X3 at *
            generalize hS1 : PT.1 = S1 at *
            have HS1 : Hid ((if e.kind = 1 then (Top.put Blk.sum DS G.1).1 else DS) = S1) := Lib.hid (by rw [if_pos HK1.out, HPE.out, hS1])
            clear hS1 HPE HK1
          case' neg =>
            have hkb : (e.kind == 1) = false := by simp [hk1]
            have HS1 : Hid ((if e.kind = 1 then (Top.put Blk.sum DS G.1).1 else DS) = DS) := Lib.hid (if_neg hk1)
            clear hk1
            have HR3 := HRX
            go_upto_region 14 with (fail)
            generalize hX3 : X = X3 at HR3 ⊢
            have kk : KeepC [68] X X3 := by rw [← hX3]; exact KeepC.refl _ _
            clear hX3
          all_goals
            have HO3 := Lib.hid (OwnF.keepC HOX.out kk (by decide))
            have HB3 := Lib.hid (kk.2 _ _ _ _ HBX.out (by decide))
            have HE3 := Lib.hid (kk.2 _ _ _ _ HEX.out (by decide))
            have hsz3 := Nat.le_trans hszX kk.1
            have hwX := rep_at HR3.out
            obtain ⟨ca3, cc3, ta3, tc3, ha3, hc3, r1, _, _, r4, _, _, _, _, _⟩ := HR3.out
            have f0 := tcell HE3.out 0 _ rfl
            have f1 := tcell HE3.out 1 _ rfl
            have f2 := tcell HE3.out 2 _ rfl
            have f3 := tcell HE3.out 3 _ rfl
            have f4 := tcell HE3.out 4 _ rfl
            have f5 := tcell HE3.out 5 _ rfl
            have f6 := tcell HE3.out 6 _ rfl
            have t7 := tcell r1 7 (.slice ta3 DT.length tc3) rfl
            have hev : EntV w (.agg #[.int .i64 e.kind, .string ⟨e.path.toArray⟩, .slice aa e.attrs.length ac, .string ⟨e.target.toArray⟩, .int .i64 e.size, .string ⟨e.digest.toArray⟩, .slice ex e.exts.length exc]) e := ⟨aa, ac, ex, exc, rfl, HFA.out, HFX.out⟩
            have HEV := Lib.hid hev
            have HAP := Lib.hid (tapplyP_any w _ _ DT e X3 hwX r4.entsP (Nat.le_trans HRM.out.tree (by decide)) HRM.out.paths hPL hev (fun Y hY => check_any _ e Y (hev.below (hwX.trans (hY.mono hwX.size))) (HG.out.below (hwX.trans (hY.mono hwX.size))) hPL hTL))
            clear r1 r4 hwX hev kk
            unfold TPostP at HAP
            generalize hTA : applyT DT e = TA at *
            have HTA := Lib.hid hTA
            clear hTA
            obtain ⟨tcode, tnew⟩ := TA
            go_wp2_with fail
            refine HAP.out.mono ?_
            rintro en x4 ⟨v4, rfl, hot, hb4⟩
            obtain ⟨ta4, tc4, rfl⟩ := hot.form
            have HR4 := Lib.hid (rep_below HR3.out hb4)
            have hot := hot.mono' (rep_at HR3.out).size
            have k4 := KeepC.of_below (Ts := [68]) hb4
            by_cases ht0 : tcode = 0
            case' pos =>
              subst ht0
              have HT1 : Hid ((if (applyT DT e).1 = 0 then (applyT DT e).2 else DT) = tnew) := Lib.hid (by rw [HTA.out]; exact if_pos rfl)
              obtain ⟨HR5, kk5⟩ := rep_tree HR4.out hot
              have HR5 := Lib.hid HR5
              obtain ⟨_, _, _, _, _, _, r1, _⟩ := HR4.out
              have y7 := tcell r1 7 _ rfl
              have z7 := tfree r1 7
              have kk := k4.trans kk5
              clear r1 hot kk5 k4
              go_upto_region 17 with (fail)
              generalize hX5 : x4.setCell ⟨w.heap.size + 1 + 1, 7, none⟩ _ = X5 at HR5 kk ⊢
              clear hX5
            case' neg =>
              have htb : (tcode == 0) = false := by simp [ht0]
              have HT1 : Hid ((if (applyT DT e).1 = 0 then (applyT DT e).2 else DT) = DT) := Lib.hid (by rw [HTA.out]; exact if_neg ht0)
              have HR5 := HR4
              have kk := k4
              clear ht0 hot
              go_upto_region 17 with (fail)
              generalize hX5 : x4 = X5 at HR5 kk ⊢
              clear hX5
            all_goals
              have HO5 := Lib.hid (OwnF.keepC HO3.out kk (by decide))
              have HB5 := Lib.hid (kk.2 _ _ _ _ HB3.out (by decide))
              have HE5 := Lib.hid (kk.2 _ _ _ _ HE3.out (by decide))
              have hsz5 := Nat.le_trans hsz3 kk.1
              have hwX := rep_at HR5.out
              clear f0 f1 f2 f3 f4 f5 f6 kk HO3 HB3 HE3 hsz3
              have f0 := tcell HE5.out 0 _ rfl
              have f1 := tcell HE5.out 1 _ rfl
              have f2 := tcell HE5.out 2 _ rfl
              have f3 := tcell HE5.out 3 _ rfl
              have f4 := tcell HE5.out 4 _ rfl
              have f5 := tcell HE5.out 5 _ rfl
              have f6 := tcell HE5.out 6 _ rfl
              have g1 := tcell HB5.out 1 (.int .i64 s.date) rfl
              obtain ⟨ca5, cc5, ta5, tc5, ha5, hc5, r1, _, _, _, r5, _⟩ := HR5.out
              have t8 := tcell r1 8 (.slice ha5 DH.length hc5) rfl
              have HHP := Lib.hid (happlyO_any _ _ DH e s.date X5 (r5.flat (fun _ => rfl)) (Nat.le_trans HRM.out.holds (by omega)) (HEV.out.below hwX) (HG.out.below hwX) HRM.out.fits hPL hTL)
              clear r1 r5 hwX
              unfold HPostO at HHP
              generalize hHA : applyH DH e s.date = HA at *
              have HHA := Lib.hid hHA
              clear hHA
              obtain ⟨hcode, hnew⟩ := HA
              go_wp2_with fail
              refine HHP.out.mono ?_
              rintro en x6 ⟨v6, rfl, hoh, hb6⟩
              obtain ⟨ha6, hc6, rfl, _, _⟩ := hoh.form
              have HR6 := Lib.hid (rep_below HR5.out hb6)
              have hoh := OwnF.mono' hoh (rep_at HR5.out).size
              have k6 := KeepC.of_below (Ts := [68]) hb6
              by_cases hh0 : hcode = 0
              case' pos =>
                subst hh0
                have HH1 : Hid ((if (applyH DH e s.date).1 = 0 then (applyH DH e s.date).2 else DH) = hnew) := Lib.hid (by rw [HHA.out]; exact if_pos rfl)
                obtain ⟨HR7, kk7⟩ := rep_holds HR6.out hoh
                have HR7 := Lib.hid HR7
                obtain ⟨_, _, _, _, _, _, r1, _⟩ := HR6.out
                have y8 := tcell r1 8 _ rfl
                have z8 := tfree r1 8
                have kk := k6.trans kk7
                clear r1 hoh kk7 k6 HHA
                go_wp2_with fail
                generalize x6.setCell ⟨w.heap.size + 1 + 1, 8, none⟩ _ = X7 at *
              case' neg =>
                have htb : (hcode == 0) = false := by simp [hh0]
                have HH1 : Hid ((if (applyH DH e s.date).1 = 0 then (applyH DH e s.date).2 else DH) = DH) := Lib.hid (by rw [HHA.out]; exact if_neg hh0)
                have HR7 := HR6
                have kk := k6
                clear hh0 hoh HHA
                go_wp2_with fail
                generalize x6 = X7 at *
              all_goals
                go_roundw
                case rel =>
                  refine ⟨m + 1, hml, by go_num, ?_, Lib.hid (OwnF.keepC HO5.out kk (by decide)), Lib.hid (kk.2 _ _ _ _ HB5.out (by decide)), Nat.le_trans hsz5 kk.1⟩
                  have hr := HR7.out
                  refine Lib.hid ?_
                  rw [HDN.out]
                  unfold repE
                  show RepI _ _ _ ⟨if e.kind = 1 then (Top.put Blk.sum DS (getB (ss ++ [s.stream]) e.exts).1).1 else DS, if (applyT DT e).1 = 0 then (applyT DT e).2 else DT, if (applyH DH e s.date).1 = 0 then (applyH DH e s.date).2 else DH⟩ _
                  rw [HGE.out, HS1.out, HT1.out, HH1.out]
                  exact hr
                case measure => simp [intOf]; omega
        · obtain rfl : m = s.entries.length := by omega
          have hr := hRm.out
          rw [List.take_length, ← HFD.out, ← HMP.out, ← HRS.out] at hr
          have HRR := Lib.hid hr
          have HOO : Hid (OwnStr wr W.heap.size (.slice (some ⟨g1, 0, none⟩) (k + 1) cap1) ((l.take (k + 1)).map (·.stream))) := by
            show OwnStr _ _ _ _
            rw [HMP.out]
            have q := hOm.out
            rw [hln] at q
            exact q
          clear hr hRm hOm
          go_wp2_with fail
          go_roundw
          case rel => exact ⟨k + 1, by omega, by go_num, HOO, HRR, hszm⟩
          case measure => simp [intOf]; omega
    · obtain rfl : k = l.length := by omega
      have hr := hR.out
      rw [show repK l l.length = replay l by unfold repK replay; rw [List.take_length]] at hr
      generalize hDD : replay l = D at hr
      have HDD := Lib.hid hDD
      clear hDD
      obtain ⟨ca, cc, ta, tc, ha, hc, r1, r2, r3, r4, r5, r6, r7, r8, r9⟩ := hr
      obtain ⟨⟨x0, x1, x2, x3, x4, x5, x6, x7, x8⟩, _⟩ := row9 r1
      obtain ⟨⟨y0, y1, y2, y3, y4, y5, y6, y7, y8⟩, z0, z1, z2, z3, z4, z5, z6, z7, z8⟩ := row9 r2
      obtain ⟨t1, sg⟩ := set9 r2 (.int .i64 0) (.int .i64 0) (.string ⟨#[]⟩) (.slice none 0 0) (.slice ca D.store.chunks.length cc) (.int .i64 D.store.ses) (.string ⟨D.store.stream.toArray⟩) (.slice ta D.tree.length tc) (.slice ha D.holds.length hc)
      have T1 := Lib.hid t1
      have kk := (Oth.of_grown sg).keepC (Ts := [68]) r2 (by simp)
      have hfin := r6.grown sg r6.size (fun k e => by injection e with e; omega)
      have hd := (⟨none, 0, ca, cc, ta, tc, ha, hc, rfl, Ents.nil _, (OwnF.keepC r3 kk (by decide)).flat chunkC_len, (r4.keepC kk (by decide)).read hfin, (OwnF.keepC r5 kk (by decide)).flat (fun _ => rfl)⟩ : DraV _ (.agg #[.int .i64 0, .int .i64 0, .string ⟨#[]⟩, .slice none 0 0, .slice ca D.store.chunks.length cc, .int .i64 D.store.ses, .string ⟨D.store.stream.toArray⟩, .slice ta D.tree.length tc, .slice ha D.holds.length hc]) (repDra D))
      have HD := Lib.hid (And.intro hd hfin)
      clear t1 sg kk hfin hd r1 r2 r3 r4 r5 r6 hR hO
      go_wp2_with fail
      try simp only [Exit.inBlock, Exit.then]
      refine bodyPost_ret (v := .agg #[.int .i64 0, .int .i64 0, .string ⟨#[]⟩, .slice none 0 0, .slice ca D.store.chunks.length cc, .int .i64 D.store.ses, .string ⟨D.store.stream.toArray⟩, .slice ta D.tree.length tc, .slice ha D.holds.length hc]) ?_ ?_ ?_
      · refine results_cell_row (p := 2) (ty := 68) (by kernel_rfl) _ _ (w.heap.size + 1) 68 _ (0, 0) _ ?_ T1.out Tryz.underlying68 (by kernel_rfl) (by kernel_rfl)
        kernel_rfl
      · kernel_rfl
      · rw [HDD.out]
        exact ⟨_, rfl, HD.out.1, HD.out.2⟩
end Go.Proofs.YtbhmdcdhklgomaaGreatDoor
