/-
  The law TopLegalHolds.
-/
import Derived.Test.YtbhmdcdhklgomaaGreatDoorM46
namespace Go.Proofs.YtbhmdcdhklgomaaGreatDoor
open Go.RowKit Top

theorem treeK_any (sa : Option Addr) (sc : Nat) (l : List Ses) (n : Int) (k : Nat) (w : World) (hn : n = (k : Int)) (hk : k ≤ l.length) (hs : Sess w (.slice sa l.length sc) l) (hg : Ground w) (hok : HistOk l) :
    Calls Tryz.prog 9 #[.slice sa l.length sc, .int .i64 n] w fun en w' => ∃ a c, en = .returned (.tuple #[.slice a (afterS (l.take k)).tree.length c, .int .i64 0]) ∧ Ents w' (.slice a (afterS (l.take k)).tree.length c) (afterS (l.take k)).tree ∧ Below w.heap.size w w' := by
  subst hn
  have h := tree_any sa sc l (k : Int) w hs hg hok
  rw [show treeE l (k : Int) = ((afterS (l.take k)).tree, 0) by unfold treeE; rw [if_neg (by omega), Int.toNat_natCast]] at h
  refine h.mono ?_
  rintro en w' ⟨v, rfl, h1, h2⟩
  obtain ⟨a, c, rfl, _, _⟩ := h1.form
  exact ⟨a, c, rfl, h1, h2⟩
theorem holdsK_any (sa : Option Addr) (sc : Nat) (l : List Ses) (k : Nat) (w : World) (hk : k ≤ l.length) (hs : Sess w (.slice sa l.length sc) l) (hg : Ground w) (hok : HistOk l) :
    Calls Tryz.prog 10 #[.slice sa l.length sc, .int .i64 (k : Int)] w fun en w' => ∃ a c, en = .returned (.slice a (afterS (l.take k)).holds.length c) ∧ Holds w' (.slice a (afterS (l.take k)).holds.length c) (afterS (l.take k)).holds ∧ Below w.heap.size w w' := by
  have h := holds_any sa sc l (k : Int) w hs hg hok
  rw [show holdsE l (k : Int) = (afterS (l.take k)).holds by unfold holdsE; rw [if_neg (by omega), Int.toNat_natCast]] at h
  refine h.mono ?_
  rintro en w' ⟨v, rfl, h1, h2⟩
  obtain ⟨a, c, rfl, _, _⟩ := Flat.form (c := holdC) h1
  exact ⟨a, c, rfl, h1, h2⟩
theorem box7 (w : World) (v0 v1 v2 v3 v4 v5 v6 : Value) (E : TypeId) : ∃ W, w.alloc (.cells #[v0, v1, v2, v3, v4, v5, v6] E) = W ∧ Below w.heap.size w W ∧ w.heap.size < W.heap.size ∧ W.heap[w.heap.size]? = some (.cells #[v0, v1, v2, v3, v4, v5, v6] E (0, 0)) := by
  have h := heap_alloc_new w (.cells #[v0, v1, v2, v3, v4, v5, v6] E)
  exact ⟨_, rfl, (Below.refl _ w).alloc (Nat.le_refl _) _, by simp, h⟩
theorem get_at (tv : Value) (t : List Ent) (P : List UInt8) (x : Ent) (w : World) (ht : Ents w tv t) (hx : Top.get t P = some x) :
    Calls Tryz.prog 12 #[tv, .string ⟨P.toArray⟩] w fun en w' => ∃ ya yac ye yec, en = .returned (.tuple #[.agg #[.int .i64 x.kind, .string ⟨x.path.toArray⟩, .slice ya x.attrs.length yac, .string ⟨x.target.toArray⟩, .int .i64 x.size, .string ⟨x.digest.toArray⟩, .slice ye x.exts.length yec], .bool true]) ∧ EntV w' (.agg #[.int .i64 x.kind, .string ⟨x.path.toArray⟩, .slice ya x.attrs.length yac, .string ⟨x.target.toArray⟩, .int .i64 x.size, .string ⟨x.digest.toArray⟩, .slice ye x.exts.length yec]) x ∧ Below w.heap.size w w' := by
  refine (get_any tv t P w ht).mono ?_
  rintro en w' ⟨v, rfl, hv, hb⟩
  rw [show getE t P = x by unfold getE; rw [hx]; rfl] at hv
  rw [hx]
  have hv' := hv
  obtain ⟨ya, yac, ye, yec, rfl, _, _⟩ := hv'
  exact ⟨ya, yac, ye, yec, rfl, hv, hb⟩
def rel6 (l : List Ent) : Bool := l.any fun e => e.kind == 6
theorem rel6_take {l : List Ent} {m : Nat} {e : Ent} (h : l[m]? = some e) : rel6 (l.take (m + 1)) = (rel6 (l.take m) || e.kind == 6) := by
  unfold rel6
  rw [List.take_add_one, h, Option.toList_some, List.any_append]
  simp

set_option maxHeartbeats 8000000 in
set_option maxRecDepth 100000 in
theorem law_holds (v : Value) (ll : List (List Change)) (w : World) (hv : Lists w v ll) (hc : costA ll ≤ 1099511627776) (hat : ∀ l ∈ ll, ∀ c ∈ l, c.attrs.length ≤ 16777216) (hg : Ground w) :
    Calls Tryz.prog 3 #[v] w fun e w' => e = .returned (.bool true) ∧ Below w.heap.size w w' := by
  have HSM := Lib.hid (small_any v ll 1500 w hv hc)
  have HG := Lib.hid hg
  have HV := Lib.hid hv
  have HAT := Lib.hid hat
  have HSB : Hid (smallB ll 1500 = if 5 < ll.length then false else decide ((costA ll : Int) ≤ 1500)) := Lib.hid rfl
  generalize smallB ll 1500 = sb at *
  clear hv hc hat hg
  go_enter Tryz.func3, Tryz.ntmps3
  go_wp2_with fail
  refine HSM.out.mono ?_
  rintro en w1 ⟨rfl, hb1⟩
  clear HSM
  cases sb
  case false =>
    go_wp2_with fail
    refine (writes_any w1 (HG.out.below hb1)).mono ?_
    rintro en w2 ⟨rfl, hb2⟩
    go_wp2_with fail
    go_ret
    exact ⟨rfl, hb1.trans (hb2.mono hb1.size)⟩
  case true =>
    have hl5 : ll.length ≤ 5 := by
      rcases Decidable.em (5 < ll.length) with h | h
      · have := HSB.out
        rw [if_pos h] at this
        cases this
      · omega
    have hc15 : costA ll ≤ 1500 := by
      have h := HSB.out
      rw [if_neg (by omega)] at h
      have := of_decide_eq_true h.symm
      omega
    have htot : total ll ≤ 75 := by
      have := costA_len ll
      unfold total
      omega
    have hok := writtenK_ok ll ll.length (by omega)
    rw [show writtenK ll ll.length = writtenL ll by unfold writtenK writtenL; rw [List.take_length], List.take_length] at hok
    have HHI := Lib.hid (hok.hist (by omega))
    have HLN := Lib.hid hok.len
    have HWR := Lib.hid (written_any 1 1 0 v ll w1 (HV.out.below hb1) (HG.out.below hb1) hc15 hl5 HAT.out)
    clear hok hl5 hc15 htot HSB HAT HV
    generalize writtenL ll = L at *
    go_wp2_with fail
    refine HWR.out.mono ?_
    rintro en w2 ⟨av, rfl, ⟨id, da, sp, sa, sc, rfl, hs⟩, hb2⟩
    obtain ⟨W, hW, hbW, hzW, hblk, _⟩ := box4 w2 (.int .u32 id) (.int .i64 da) (.int .i64 sp) (.slice sa L.length sc) 30
    replace hzW : w2.heap.size < W.heap.size := by omega
    have hb2w := hb1.trans (hb2.mono hb1.size)
    have hbWw := hb2w.trans (hbW.mono hb2w.size)
    have hsc : L.length ≤ sc ∧ sc ≤ 9223372036854775807 := by
      obtain ⟨_, _, e, h1, h2⟩ := hs.form
      injection e with _ _ e3
      omega
    have HS := Lib.hid (fun X (hX : Below W.heap.size W X) => (hs.below hbW).below hX)
    have HBLK := Lib.hid hblk
    have KW := Lib.hid hW
    clear hW hs hblk HWR
    go_upto_region 4 with (fail)
    try rw [KW.out]
    clear KW
    go_wp2_with fail
    go_loopw [4] (fun n wr => ∃ k : Nat, k ≤ L.length ∧ n = .int .i64 k ∧ Hid (Below W.heap.size W wr)) (fun n _ => L.length - (intOf n).toNat)
    case atStart => exact ⟨0, Nat.zero_le _, rfl, Lib.hid (Below.refl _ _)⟩
    case round =>
      obtain ⟨k, hk, rfl, hb⟩ := hrel
      have d3 := tcell ((hb.out.block _ hzW).trans HBLK.out) 3 (.slice sa L.length sc) rfl
      by_cases hlt : k < L.length
      · obtain ⟨s, hsk⟩ : ∃ s, L[k]? = some s := ⟨_, List.getElem?_eq_getElem hlt⟩
        have hbw := hbWw.trans (hb.out.mono hbWw.size)
        have q1 : IntKind.i64.wrap ((k : Int) + 1) = (k : Int) + 1 := by
          have := HLN.out
          rw [IntKind.wrap_i64]
          omega
        have HT1 := Lib.hid (treeK_any sa sc L (k : Int) k wr rfl (by omega) (HS.out wr hb.out) (HG.out.below hbw) HHI.out)
        have HT2 := Lib.hid (fun X (hX : Below W.heap.size W X) => treeK_any sa sc L ((k : Int) + 1) (k + 1) X (by omega) hlt (HS.out X hX) (HG.out.below (hbWw.trans (hX.mono hbWw.size))) HHI.out)
        have HHO := Lib.hid (fun X (hX : Below W.heap.size W X) => holdsK_any sa sc L k X (by omega) (HS.out X hX) (HG.out.below (hbWw.trans (hX.mono hbWw.size))) HHI.out)
        have HVAL := Lib.hid (afterS_valid (L.take k))
        have HSOK := Lib.hid (afterS_ok (HHI.out.take k))
        have HLAW := Lib.hid (fun (hr : s.entries.any (fun e => e.kind == 6) = false) (x : Ent) hx hh => holds_at hsk hr (x := x) hx hh)
        generalize afterS (L.take k) = S0 at *
        generalize afterS (L.take (k + 1)) = S1 at *
        obtain ⟨wA, hwA⟩ : ∃ wA, wA = wr := ⟨_, rfl⟩
        subst hwA
        go_wp2_with fail
        refine HT1.out.mono ?_
        rintro en x1 ⟨ta, tc, rfl, ht, hb1'⟩
        have hc1 := hb.out.trans (hb1'.mono hb.out.size)
        have d3 := cell_on hb1' (World.block_lt_of_cell? _ _ d3) d3
        clear HT1
        go_wp2_with fail
        refine (HT2.out x1 hc1).mono ?_
        rintro en x2 ⟨ua, uc, rfl, hu, hb2'⟩
        have hc2 := hc1.trans (hb2'.mono hc1.size)
        have d3 := cell_on hb2' (World.block_lt_of_cell? _ _ d3) d3
        clear HT2
        go_wp2_with fail
        refine (HHO.out x2 hc2).mono ?_
        rintro en x3 ⟨ha, hca, rfl, hho, hb3'⟩
        have hc3 := hc2.trans (hb3'.mono hc2.size)
        have d3 := cell_on hb3' (World.block_lt_of_cell? _ _ d3) d3
        clear HHO
        obtain ⟨bk, o, ea, ec, hoo, hen, _, k1, _, k3, _, _⟩ := (HS.out x3 hc3).get hsk
        subst hoo
        have HT := Lib.hid (fun X (hX : Below x3.heap.size x3 X) => (ht.below (hb2'.trans (hb3'.mono hb2'.size))).below hX)
        have HU := Lib.hid (fun X (hX : Below x3.heap.size x3 X) => (hu.below hb3').below hX)
        have HHO := Lib.hid (fun X (hX : Below x3.heap.size x3 X) => Flat.below (c := holdC) hho hX)
        have HEN := Lib.hid (fun X (hX : Below x3.heap.size x3 X) => hen.below hX)
        obtain ⟨_, _, e1, ht1, ht2⟩ := ht.form
        injection e1 with e1 _ e3
        subst e1 e3
        obtain ⟨_, _, e1, he1, he2⟩ := hen.form
        injection e1 with e1 _ e3
        subst e1 e3
        clear ht hu hho hen hsk
        have hc3w := hbWw.trans (hc3.mono hbWw.size)
        go_wp2_with fail
        go_loopw [10, 63] (fun r i wx => ∃ m : Nat, m ≤ s.entries.length ∧ i = .int .i64 m ∧ r = .bool (rel6 (s.entries.take m)) ∧ Hid (Below x3.heap.size x3 wx)) (fun _ i _ => s.entries.length - (intOf i).toNat)
        case atStart => exact ⟨0, Nat.zero_le _, rfl, rfl, Lib.hid (Below.refl _ _)⟩
        case round =>
          obtain ⟨m, hm, rfl, rfl, hbx⟩ := hrel
          by_cases hmt : m < s.entries.length
          · obtain ⟨e, hem⟩ : ∃ e, s.entries[m]? = some e := ⟨_, List.getElem?_eq_getElem hmt⟩
            obtain ⟨bk2, o2, aa, ac, ex, exc, hoo, _, _, c0, c1, c2, c3, c4, c5, c6⟩ := (HEN.out wr hbx.out).get hem
            subst hoo
            obtain ⟨V, hV, hbV, hzV, hblk⟩ := box7 wr (.int .i64 e.kind) (.string ⟨e.path.toArray⟩) (.slice aa e.attrs.length ac) (.string ⟨e.target.toArray⟩) (.int .i64 e.size) (.string ⟨e.digest.toArray⟩) (.slice ex e.exts.length exc) 43
            have d0 := tcell hblk 0 (.int .i64 e.kind) rfl
            have KV := Lib.hid hV
            have HRT := Lib.hid (rel6_take hem)
            have hbxV := hbx.out.trans (hbV.mono hbx.out.size)
            generalize rel6 (s.entries.take m) = rl at *
            clear hV hem hblk
            go_upto_region 16 with (fail)
            try rw [KV.out]
            clear KV c0 c1 c2 c3 c4 c5 c6
            cases rl
            case true =>
              go_wp2_with fail
              go_roundw
              case rel => exact ⟨m + 1, hmt, by go_num, by rw [HRT.out]; rfl, Lib.hid hbxV⟩
              case measure => simp [intOf]; omega
            case false =>
              go_wp2_with fail
              go_roundw
              case rel => exact ⟨m + 1, hmt, by go_num, by rw [HRT.out]; rfl, Lib.hid hbxV⟩
              case measure => simp [intOf]; omega
          · obtain rfl : m = s.entries.length := by omega
            rw [List.take_length]
            have hc4 := hc3.trans (hbx.out.mono hc3.size)
            have d3 := cell_on hbx.out (World.block_lt_of_cell? _ _ d3) d3
            have k1 := cell_on hbx.out (World.block_lt_of_cell? _ _ k1) k1
            have HHX := Lib.hid hbx.out
            obtain ⟨x4, hx4⟩ : ∃ x4, x4 = wr := ⟨_, rfl⟩
            subst hx4
            have D3 := Lib.hid d3
            have K1 := Lib.hid k1
            clear k3
            generalize hrl : rel6 s.entries = rl at *
            have HRL := Lib.hid hrl
            clear hrl d3 k1
            go_wp2_with fail
            go_loopw [76] (fun i wx => ∃ m : Nat, m ≤ S0.tree.length ∧ i = .int .i64 m ∧ Hid (Below x4.heap.size x4 wx)) (fun i _ => S0.tree.length - (intOf i).toNat)
            case atStart => exact ⟨0, Nat.zero_le _, rfl, Lib.hid (Below.refl _ _)⟩
            case round =>
              obtain ⟨m, hm, rfl, hby⟩ := hrel
              have hb3y := HHX.out.trans (hby.out.mono HHX.out.size)
              have hWy := hc4.trans (hby.out.mono hc4.size)
              by_cases hmt : m < S0.tree.length
              · obtain ⟨x, hxm⟩ : ∃ x, S0.tree[m]? = some x := ⟨_, List.getElem?_eq_getElem hmt⟩
                obtain ⟨bk2, o2, aa, ac, ex, exc, hoo, hfa, hfx, c0, c1, c2, c3, c4, c5, c6⟩ := (HT.out wr hb3y).get hxm
                subst hoo
                obtain ⟨V, hV, hbV, hzV, hblk⟩ := box7 wr (.int .i64 x.kind) (.string ⟨x.path.toArray⟩) (.slice aa x.attrs.length ac) (.string ⟨x.target.toArray⟩) (.int .i64 x.size) (.string ⟨x.digest.toArray⟩) (.slice ex x.exts.length exc) 43
                have KV := Lib.hid hV
                have HVB := Lib.hid hblk
                have hbyV := hby.out.trans (hbV.mono hby.out.size)
                have hb3V := hb3y.trans (hbV.mono hb3y.size)
                have hmem := List.mem_of_getElem? hxm
                have hvx := HVAL.out x hmem
                have hpl : x.path.length ≤ 16777216 := by have := (valid hvx).path; omega
                have HVX := Lib.hid hvx
                have HMEM := Lib.hid hmem
                have HXV := Lib.hid (⟨aa, ac, ex, exc, rfl, Flat.below (c := attrC) hfa hbV, Flat.below (c := extC) hfx hbV⟩ : EntV V (.agg #[.int .i64 x.kind, .string ⟨x.path.toArray⟩, .slice aa x.attrs.length ac, .string ⟨x.target.toArray⟩, .int .i64 x.size, .string ⟨x.digest.toArray⟩, .slice ex x.exts.length exc]) x)
                have a1 : V.drew.cell? ⟨wr.heap.size, 1, none⟩ = some (.string ⟨x.path.toArray⟩) := tcell hblk 1 (.string ⟨x.path.toArray⟩) rfl
                have hl4 : x4.heap.size ≤ V.heap.size := hbyV.size
                have d3 : V.drew.cell? ⟨w2.heap.size, 3, none⟩ = some (.slice (some ⟨bk, o, none⟩) L.length sc) := (cell_on hbyV (World.block_lt_of_cell? _ _ D3.out) D3.out : V.cell? ⟨w2.heap.size, 3, none⟩ = _)
                have k1 : V.drew.cell? ⟨bk, o + k * 6 + 1, none⟩ = some (.int .i64 s.date) := (cell_on hbyV (World.block_lt_of_cell? _ _ K1.out) K1.out : V.cell? ⟨bk, o + k * 6 + 1, none⟩ = _)
                obtain ⟨wC, hwC⟩ : ∃ wC, wC = wr := ⟨_, rfl⟩
                subst hwC
                clear hV hblk hxm hmem hvx hfa hfx
                go_upto_region 21 with (fail)
                try rw [KV.out]
                clear KV c0 c1 c2 c3 c4 c5 c6
                cases rl
                case true =>
                  go_quiet (fail)
                  have hX := below_drewN (Below.refl V.heap.size V) nq
                  generalize V.drewN nq = X at hX ⊢
                  have hfin := hbyV.trans (hX.mono hbyV.size)
                  go_wp2_with fail
                  go_roundw
                  case rel => exact ⟨m + 1, hmt, by go_num, Lib.hid hfin⟩
                  case measure => simp [intOf]; omega
                case false =>
                  have hnh := HSOK.out.holds
                  have hcn := (HHI.out.take k).count
                  have HHD := Lib.hid (held_any _ S0.holds x.path s.date V.drew (HHO.out _ hb3V.drew) (by omega) HSOK.out.fits hpl)
                  have HGET : Hid (held S0.holds x.path s.date = true → Top.get S1.tree x.path = some x) := Lib.hid (fun hh => HLAW.out HRL.out x HMEM.out hh)
                  generalize held S0.holds x.path s.date = hd at *
                  have hlV := World.block_lt_of_cell? _ _ a1
                  have hl3 := World.block_lt_of_cell? _ _ d3
                  have hlk := World.block_lt_of_cell? _ _ k1
                  cases hd
                  case false =>
                    go_region_held3 (fun w' => w'.cell? ⟨wC.heap.size, 1, none⟩ = some (.string ⟨x.path.toArray⟩) ∧ w'.cell? ⟨w2.heap.size, 3, none⟩ = some (.slice (some ⟨bk, o, none⟩) L.length sc) ∧ w'.cell? ⟨bk, o + k * 6 + 1, none⟩ = some (.int .i64 s.date))
                      (first | with_reducible exact ⟨a1, d3, k1⟩ | with_reducible exact ⟨p1, p3, p5⟩ | go_keep)
                      (first | (go_at_call 11; refine HHD.out.mono ?_; rintro en y1 ⟨rfl, hy1⟩; have p1 := cell_on hy1 hlV a1; have p3 := cell_on hy1 hl3 d3; have p5 := cell_on hy1 hlk k1))
                    have hfin := hbyV.drew.trans (hy1.mono hbyV.drew.size)
                    go_wp2_with fail
                    go_roundw
                    case rel => exact ⟨m + 1, hmt, by go_num, Lib.hid hfin⟩
                    case measure => simp [intOf]; omega
                  case true =>
                    go_region_held3 (fun w' => w'.cell? ⟨wC.heap.size, 1, none⟩ = some (.string ⟨x.path.toArray⟩) ∧ w'.cell? ⟨w2.heap.size, 3, none⟩ = some (.slice (some ⟨bk, o, none⟩) L.length sc) ∧ w'.cell? ⟨bk, o + k * 6 + 1, none⟩ = some (.int .i64 s.date))
                      (first | with_reducible exact ⟨a1, d3, k1⟩ | with_reducible exact ⟨p1, p3, p5⟩ | go_keep)
                      (first | (go_at_call 11; refine HHD.out.mono ?_; rintro en y1 ⟨rfl, hy1⟩; have p1 := cell_on hy1 hlV a1; have p3 := cell_on hy1 hl3 d3; have p5 := cell_on hy1 hlk k1))
                    have hy1V := ((Below.refl V.heap.size V).drew).trans (hy1.mono (Nat.le_refl _))
                    have hb3y1 := hb3V.trans (hy1V.mono hb3V.size)
                    have HGA := Lib.hid (get_at _ S1.tree x.path x y1 (HU.out y1 hb3y1) (HGET.out (by first | rfl | trivial)))
                    clear a1 d3 k1 p3 p5 HHD HGET
                    go_wp2_with fail
                    refine HGA.out.mono ?_
                    rintro en y2 ⟨ya, yac, ye, yec, rfl, hyv, hy2⟩
                    obtain ⟨V2, hV2, hbV2, hzV2, hyb⟩ := box7 y2 (.int .i64 x.kind) (.string ⟨x.path.toArray⟩) (.slice ya x.attrs.length yac) (.string ⟨x.target.toArray⟩) (.int .i64 x.size) (.string ⟨x.digest.toArray⟩) (.slice ye x.exts.length yec) 43
                    have KV2 := Lib.hid hV2
                    have hy12 : Below y1.heap.size y1 V2 := hy2.trans (hbV2.mono hy2.size)
                    have hy2V : Below V.heap.size V V2 := hy1V.trans (hy12.mono hy1V.size)
                    have HYB := Lib.hid hyb
                    have HXB := Lib.hid ((hy2V.block _ hzV).trans HVB.out)
                    have HEQ := Lib.hid (equal36_any _ _ x V2 (EntV.below HXV.out hy2V) (EntV.below hyv hbV2) HVX.out)
                    have hfinV := hbyV.trans (hy2V.mono hbyV.size)
                    clear hV2 hyb hyv p1 HGA
                    go_upto_region 23 with (fail)
                    try rw [KV2.out]
                    clear KV2
                    obtain ⟨c0, c1, c2, c3, c4, c5, c6, _⟩ := row7 HXB.out
                    obtain ⟨e0, e1, e2, e3, e4, e5, e6, _⟩ := row7 HYB.out
                    go_wp2_with fail
                    refine HEQ.out.mono ?_
                    rintro en y3 ⟨rfl, hy3⟩
                    have hfin := hfinV.trans (hy3.mono hfinV.size)
                    go_wp2_with fail
                    go_roundw
                    case rel => exact ⟨m + 1, hmt, by go_num, Lib.hid hfin⟩
                    case measure => simp [intOf]; omega
              · obtain rfl : m = S0.tree.length := by omega
                have hWyw := hbWw.trans (hWy.mono hbWw.size)
                go_wp2_with fail
                go_roundw
                case rel => exact ⟨k + 1, hlt, by go_num, Lib.hid hWy⟩
                case measure => simp [intOf]; omega
      · obtain rfl : k = L.length := by omega
        have hbw := hbWw.trans (hb.out.mono hbWw.size)
        go_wp2_with fail
        refine (writes_any _ (HG.out.below hbw)).mono ?_
        rintro en w9 ⟨rfl, hb9⟩
        go_wp2_with fail
        go_ret
        exact ⟨rfl, hbw.trans (hb9.mono hbw.size)⟩
end Go.Proofs.YtbhmdcdhklgomaaGreatDoor
