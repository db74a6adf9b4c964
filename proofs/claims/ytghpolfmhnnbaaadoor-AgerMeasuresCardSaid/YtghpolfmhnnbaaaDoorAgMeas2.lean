/-
  The walk of AgerMeasures.
-/
import Derived.Test.YtghpolfmhnnbaaaDoorAgMeas
import Derived.BigQuiet
namespace Go.Proofs.YtghpolfmhnnbaaaDoor
open Go.RowKit

theorem blk_set2 {w : World} {b i : Nat} {cs : Array Value} {E : TypeId} {m : Nat × Nat} (h : w.heap[b]? = some (.cells cs E m)) (v : Value) : (w.setCell ⟨b, i, none⟩ v).heap[b]? = some (.cells (cs.setIfInBounds i v) E m) := by
  simp [World.setCell, Array.getElem?_modify, h]
theorem blk_free {w : World} {b : Nat} {cs : Array Value} {E : TypeId} (h : w.heap[b]? = some (.cells cs E (0, 0))) (i : Nat) : w.frozen? ⟨b, i, none⟩ = false := by
  simp [World.frozen?, h]
theorem cell_other {w : World} {b i : Nat} {p : Addr} {x v : Value} (c : w.cell? p = some x) (h : p.block ≠ b) : (w.setCell ⟨b, i, none⟩ v).cell? p = some x := by
  have hg : w.grownBy (w.setCell ⟨b, i, none⟩ v) (some b) := ⟨rfl, rfl, rfl, by simp [World.setCell], fun k hk hne => Below.heap_setCell w ⟨b, i, none⟩ _ k (fun e => hne (by rw [e]))⟩
  exact hg.cell c (fun e => h (by injection e))
theorem byte_in (x : List UInt8) (j : Nat) (h : j < x.length) : ∃ c, x[j]? = some c ∧ ∀ g : j < (⟨x.toArray⟩ : ByteArray).size, (⟨x.toArray⟩ : ByteArray)[j] = c := by
  obtain ⟨c, hc⟩ : ∃ c, x[j]? = some c := ⟨_, List.getElem?_eq_getElem h⟩
  refine ⟨c, hc, fun g => ?_⟩
  have h1 := get_of_lt ⟨x.toArray⟩ j g
  have h3 : (⟨x.toArray⟩ : ByteArray).data.toList = x := rfl
  rw [h3, hc] at h1
  exact (Option.some.inj h1).symm
/-- An action at a cell: where the changed piece lies. -/
theorem app_at {k : Int} (hk : k = 1 ∨ k = 2) {ao : Option Addr} {cap j q a : Nat} {rs : List Reel} {r : Reel} {y : List UInt8} {X : World} (happ : applyR rs ⟨k, j, q, a, 0⟩ = rs.set j ⟨r.num, r.ps.set q y⟩) (hj : j < rs.length) (hq : q < r.ps.length) (hr : Reels X ao rs.length rs) (hf : Fine rs) :
    Calls Tryd.prog 7 #[.slice ao rs.length cap, .agg #[.int .i64 k, .int .i64 j, .int .i64 q, .int .i64 a, .int .i64 0]] X fun e w' => ∃ g c gp cp, e = .returned (.slice (some ⟨g, 0, none⟩) rs.length c) ∧ w'.cell? ⟨g, j * 2 + 1, none⟩ = some (.slice (some ⟨gp, 0, none⟩) r.ps.length cp) ∧ w'.cell? ⟨gp, q, none⟩ = some (.string ⟨y.toArray⟩) ∧ X.heap.size ≤ g ∧ X.heap.size ≤ gp ∧ Below X.heap.size X w' := by
  refine (apply_any ao rs.length cap rs k j q a 0 X hr hf (by decide) (fun h => by rcases hk with rfl | rfl <;> exact absurd h (by decide))).mono ?_
  rintro e w' ⟨v, rfl, ho, hb⟩
  rw [happ] at ho
  obtain ⟨ao', c, rfl, _, _, hao⟩ := ho.form
  obtain ⟨g, rfl, hBg, _⟩ := hao (by rw [List.length_set]; omega)
  rw [List.length_set] at ho ⊢
  have hj2 : (rs.set j ⟨r.num, r.ps.set q y⟩)[j]? = some ⟨r.num, r.ps.set q y⟩ := by rw [List.getElem?_set, if_pos rfl, if_pos hj]
  obtain ⟨ap, cp, _, g1, _, _, hown, _, _⟩ := ho.at_ hj2
  have hlen : (r.ps.set q y).length = r.ps.length := List.length_set
  obtain ⟨ap1, cp1, e1, hap⟩ := hown.form
  injection e1 with e1 e2 e3
  subst e1 e3
  obtain ⟨gp, rfl⟩ := hap (by rw [strsL_length, hlen]; omega)
  have hq2 : (r.ps.set q y)[q]? = some y := by rw [List.getElem?_set, if_pos rfl, if_pos hq]
  have hc := hown.cell q _ (strsL_get _ q y hq2)
  have hB := (World.ownsRow.lt hown gp rfl).1
  refine ⟨g, c, gp, cp, rfl, ?_, hc, hBg, hB, hb⟩
  rw [g1]
  show some (Value.slice _ (r.ps.set q y).length _) = _
  rw [hlen]

theorem u8_wf {a : Int} (h : (Lit.int .u8 a).wf = true) : 0 ≤ a ∧ a ≤ 255 := by
  have : (decide (0 ≤ a) && decide (a ≤ 255)) = true := h
  simpa using this

set_option maxHeartbeats 8000000 in
set_option maxRecDepth 100000 in
theorem meas_main (j q a : Nat) (ao : Option Addr) (cap : Nat) (rs : List Reel) (r : Reel) (x : List UInt8) (z : UInt8) (w : World) (hr : MeasArg w ao cap rs) (hs : smallR rs = true) (hj : rs[j]? = some r) (hx : r.ps[q]? = some x) (hz : x[a]? = some z) (hok : Cells.ok x = true)
    (b : Bool) (M : Int) (hbM : (b = true ∧ M = 1) ∨ (b = false ∧ M = 0)) (hzb : b = (z != 63)) :
    Calls Tryd.prog 3 #[.slice ao rs.length cap, .int .u8 j, .int .u8 q, .int .u8 a] w fun e w' => e = .returned (.bool true) ∧ Below w.heap.size w w' := by
  have HG := meas_great (cap := cap) hr.1 hr.2.2.2 (by have := hr.2.1; have := hr.2.2.1; omega) 0 (if_pos hs)
  obtain ⟨hl6, hps, hf⟩ := meas_small hs
  obtain ⟨hp6, hx6⟩ := hps r (List.mem_of_getElem? hj)
  have hxl := hx6 x (List.mem_of_getElem? hx)
  have hjl := (List.getElem?_eq_some_iff.1 hj).1
  have hql := (List.getElem?_eq_some_iff.1 hx).1
  have hal := (List.getElem?_eq_some_iff.1 hz).1
  have q1 : IntKind.i64.wrap (j : Int) = (j : Int) := IntWalk.i64_in _ (by omega)
  have q2 : IntKind.i64.wrap (q : Int) = (q : Int) := IntWalk.i64_in _ (by omega)
  have q3 : IntKind.i64.wrap (a : Int) = (a : Int) := IntWalk.i64_in _ (by omega)
  have h1 : ¬ ((rs.length : Int) ≤ (j : Int)) := by omega
  have h2 : (0 : Int) ≤ (j : Int) := by omega
  have h3 : (j : Int) < (rs.length : Int) := by omega
  have h4 : ¬ ((r.ps.length : Int) ≤ (q : Int)) := by omega
  have h5 : (0 : Int) ≤ (q : Int) := by omega
  have h6 : (q : Int) < (r.ps.length : Int) := by omega
  have HR := Lib.hid hr.1
  obtain ⟨b1, o1, rfl, _, ap, cp, hc2, _, hst⟩ := hr.1.2 j r hj
  obtain ⟨bp, op, rfl, hcx⟩ := hst.2 q x hx
  have hl1 := World.block_lt_of_cell? _ _ hc2
  have hlp := World.block_lt_of_cell? _ _ hcx
  have hsz : (⟨x.toArray⟩ : ByteArray).size = x.length := rfl
  have h7 : ¬ ((((⟨x.toArray⟩ : ByteArray).size : Nat) : Int) ≤ (a : Int)) := by omega
  have h8 : a < (⟨x.toArray⟩ : ByteArray).size := by omega
  have h9 : (0 : Int) ≤ (a : Int) := by omega
  have h10 : (a : Int) < (((⟨x.toArray⟩ : ByteArray).size : Nat) : Int) := by omega
  have HK := Lib.hid (fun w => check_any ⟨x.toArray⟩ w (by omega))
  have hke : Cells.err (⟨x.toArray⟩ : ByteArray).data.toList = 0 := Cells.err_ok hok
  rw [hke] at HK
  have hM : ((if z = 63 then 0 else 1 : Nat) : Int) = M := by
    rcases hbM with ⟨rfl, rfl⟩ | ⟨rfl, rfl⟩
    · have : z ≠ 63 := by simpa using hzb
      rw [if_neg this]; rfl
    · have : z = 63 := by simpa using hzb
      rw [if_pos this]; rfl
  obtain ⟨m1, m2, m3, m4, m5, m6⟩ := meas_plain hz hok _ rfl
  rw [hM] at m6
  have hxb : (((⟨x.toArray⟩ : ByteArray)[a].toNat : Int) != 63) = b := by
    obtain ⟨c, hc1, hc3⟩ := byte_in x a hal
    rw [hz] at hc1
    injection hc1 with hc1
    rw [hc3 h8, ← hc1, bne63, hzb]
  have ma1 := meas_1 0 hj hx hal
  have ma2 := meas_2 0 hj hx hz
  have hule : Cells.unread x ≤ 200 := Nat.le_trans (Cells.unread_le x) hxl
  obtain ⟨n, hn⟩ : ∃ n, Cells.unread x = n := ⟨_, rfl⟩
  have l1 : (x.set a 63).length = x.length := List.length_set
  have l2 : (x.set a (inv1 z)).length = x.length := List.length_set
  have HA1 := Lib.hid (fun X (hX : Below w.heap.size w X) => app_at (cap := cap) (.inl rfl) ma1 hjl hql (HR.out.below hX) hf)
  have HA2 := Lib.hid (fun X (hX : Below w.heap.size w X) => app_at (cap := cap) (.inr rfl) ma2 hjl hql (HR.out.below hX) hf)
  have HU := Lib.hid (fun w => unread_any ⟨x.toArray⟩ w)
  have HUF := Lib.hid (fun w => unread_any ⟨(x.set a 63).toArray⟩ w)
  have HUT := Lib.hid (fun w => unread_any ⟨(x.set a (inv1 z)).toArray⟩ w)
  have HDF := Lib.hid (fun w => dist_any ⟨x.toArray⟩ ⟨(x.set a 63).toArray⟩ w (by omega) (by show (x.set a 63).length ≤ _; omega))
  have HDT := Lib.hid (fun w => dist_any ⟨x.toArray⟩ ⟨(x.set a (inv1 z)).toArray⟩ w (by omega) (by show (x.set a (inv1 z)).length ≤ _; omega))
  have e1 : ((Cells.unread (⟨x.toArray⟩ : ByteArray).data.toList : Nat) : Int) = (n : Int) := by show ((Cells.unread x : Nat) : Int) = _; rw [hn]
  have e2 : ((Cells.unread (⟨(x.set a 63).toArray⟩ : ByteArray).data.toList : Nat) : Int) = (n : Int) + M := by show ((Cells.unread (x.set a 63) : Nat) : Int) = _; rw [m1, hn, ← hM]; rfl
  have e3 : ((Cells.unread (⟨(x.set a (inv1 z)).toArray⟩ : ByteArray).data.toList : Nat) : Int) = (n : Int) := by show ((Cells.unread (x.set a (inv1 z)) : Nat) : Int) = _; rw [m2, hn]
  have e4 : Cells.distE (⟨x.toArray⟩ : ByteArray).data.toList (⟨(x.set a 63).toArray⟩ : ByteArray).data.toList = 0 := m3
  have e5 : Cells.distV (⟨x.toArray⟩ : ByteArray).data.toList (⟨(x.set a 63).toArray⟩ : ByteArray).data.toList = 0 := m4
  have e6 : Cells.distE (⟨x.toArray⟩ : ByteArray).data.toList (⟨(x.set a (inv1 z)).toArray⟩ : ByteArray).data.toList = 0 := m5
  have e7 : Cells.distV (⟨x.toArray⟩ : ByteArray).data.toList (⟨(x.set a (inv1 z)).toArray⟩ : ByteArray).data.toList = M := m6
  rw [e1] at HU
  rw [e2] at HUF
  rw [e3] at HUT
  rw [e4, e5] at HDF
  rw [e6, e7] at HDT
  have hn2 : n ≤ 200 := by omega
  clear m1 m2 m3 m4 m5 m6 e1 e2 e3 e4 e5 e6 e7 ma1 ma2 hn hM hzb hke hule l1 l2
  generalize (⟨(x.set a 63).toArray⟩ : ByteArray) = FX at *
  generalize (⟨(x.set a (inv1 z)).toArray⟩ : ByteArray) = TY at *
  generalize (⟨x.toArray⟩ : ByteArray) = U at *
  have hne1 : ((rs.length : Int) != (rs.length : Int)) = false := by rw [bne_eq_false_iff_eq]
  have hne2 : ((r.ps.length : Int) != (r.ps.length : Int)) = false := by rw [bne_eq_false_iff_eq]
  clear hr hs hst hj hx hsz hok hx6 hf hps hz
  go_enter Tryd.func3, Tryd.ntmps3
  go_wp2_with fail
  refine HG.out.mono ?_
  rintro e w1 ⟨rfl, rfl⟩
  go_wp2_with fail
  refine (HK.out _).mono ?_
  rintro e w2 ⟨rfl, hb2⟩
  go_upto_region 7 with (fail)
  obtain ⟨W3, hW3, hbW3, hzW3, d0, d1, d2, d3, d4⟩ := dbox w2 1 j q a 0
  rw [hW3]
  have hblk : W3.heap[w2.heap.size]? = some (.cells #[.int .i64 1, .int .i64 j, .int .i64 q, .int .i64 a, .int .i64 0] 31 (0, 0)) := by rw [← hW3]; exact heap_alloc_new w2 _
  have hb3 := hb2.trans (hbW3.mono hb2.size)
  go_wp2_with fail
  refine (HA1.out W3 hb3).mono ?_
  rintro e w4 ⟨g3, c3, gp3, cp3, rfl, f1, f2, hg3, hgp3, hb4⟩
  have hM2 : w2.heap.size < W3.heap.size := by omega
  have hblk4 := (hb4.block w2.heap.size hM2).trans hblk
  have k0 : w4.cell? ⟨w2.heap.size, 0, none⟩ = some (.int .i64 1) := blk_cell hblk4 0 _ rfl
  have kf := blk_free hblk4 0
  obtain ⟨W5, hW5⟩ : ∃ W5, w4.setCell ⟨w2.heap.size, 0, none⟩ (.int .i64 2) = W5 := ⟨_, rfl⟩
  have hblk5 : W5.heap[w2.heap.size]? = some (.cells #[.int .i64 2, .int .i64 j, .int .i64 q, .int .i64 a, .int .i64 0] 31 (0, 0)) := by rw [← hW5]; exact blk_set2 hblk4 _
  have t0 : W5.cell? ⟨w2.heap.size, 0, none⟩ = some (.int .i64 2) := blk_cell hblk5 0 _ rfl
  have t1 : W5.cell? ⟨w2.heap.size, 1, none⟩ = some (.int .i64 j) := blk_cell hblk5 1 _ rfl
  have t2 : W5.cell? ⟨w2.heap.size, 2, none⟩ = some (.int .i64 q) := blk_cell hblk5 2 _ rfl
  have t3 : W5.cell? ⟨w2.heap.size, 3, none⟩ = some (.int .i64 a) := blk_cell hblk5 3 _ rfl
  have t4 : W5.cell? ⟨w2.heap.size, 4, none⟩ = some (.int .i64 0) := blk_cell hblk5 4 _ rfl
  have f1 : W5.cell? ⟨g3, j * 2 + 1, none⟩ = some (.slice (some ⟨gp3, 0, none⟩) r.ps.length cp3) := by rw [← hW5]; exact cell_other f1 (by show g3 ≠ _; omega)
  have f2 : W5.cell? ⟨gp3, q, none⟩ = some (.string FX) := by rw [← hW5]; exact cell_other f2 (by show gp3 ≠ _; omega)
  have hb5 : Below w1.heap.size w1 W5 := by rw [← hW5]; exact (hb3.trans (hb4.mono hb3.size)).setCell (p := ⟨w2.heap.size, 0, none⟩) hb2.size _
  have hl3 := World.block_lt_of_cell? _ _ f1
  have hl3p := World.block_lt_of_cell? _ _ f2
  clear hblk hblk4 hblk5 d0 d1 d2 d3 d4 hbW3 hzW3 hM2 hg3 hgp3
  go_wp2_with fail
  refine (HA2.out W5 hb5).mono ?_
  rintro e w6 ⟨g4, c4, gp4, cp4, rfl, u1, u2, hg4, hgp4, hb6⟩
  have f1 := (hb6.cell (p := ⟨g3, j * 2 + 1, none⟩) hl3).trans f1
  have f2 := (hb6.cell (p := ⟨gp3, q, none⟩) hl3p).trans f2
  have hb06 := hb5.trans (hb6.mono hb5.size)
  have i1 := (hb06.cell (p := ⟨b1, o1 + j * 2 + 1, none⟩) hl1).trans hc2
  have i2 := (hb06.cell (p := ⟨bp, op + q, none⟩) hlp).trans hcx
  clear t0 t1 t2 t3 t4 hb5 hb6 hb4 k0 kf hW5 hW3 hc2 hcx hg4 hgp4 hb3 hb2
  go_upto_region 10 with (fail)
  go_quiet (fail)
  have wr1 : IntKind.i64.wrap ((n : Int) + 1) = (n : Int) + 1 := IntWalk.i64_in _ (by omega)
  have wr0 : IntKind.i64.wrap (n : Int) = (n : Int) := IntWalk.i64_in _ (by omega)
  go_upto_region 13 with (fail)
  rcases hbM with ⟨rfl, rfl⟩ | ⟨rfl, rfl⟩
  · go_upto_region 15 with (fail)
    go_quiet (fail)
    go_wp2_with fail
    refine (HDT.out _).mono ?_
    rintro e w7 ⟨rfl, hb7⟩
    go_wp2_with fail
    refine (HDF.out _).mono ?_
    rintro e w8 ⟨rfl, hb8⟩
    go_wp2_with fail
    refine (HUF.out _).mono ?_
    rintro e w9 ⟨rfl, rfl⟩
    go_wp2_with fail
    refine (HU.out _).mono ?_
    rintro e w9 ⟨rfl, rfl⟩
    go_wp2_with fail
    refine (HUT.out _).mono ?_
    rintro e w9 ⟨rfl, rfl⟩
    go_wp2_with fail
    refine (HU.out _).mono ?_
    rintro e w9 ⟨rfl, rfl⟩
    go_wp2_with fail
    refine (awake59_any _).mono ?_
    rintro e w10 ⟨rfl, hb10⟩
    go_wp2_with fail
    go_ret
    have hA := (below_drewN hb06 _).trans (hb7.mono hb06.size)
    exact ⟨rfl, hA.trans ((hb8.trans (hb10.mono hb8.size)).mono hA.size)⟩
  · simp only [Int.add_zero] at HUF
    go_upto_region 15 with (fail)
    go_quiet (fail)
    go_wp2_with fail
    refine (HDT.out _).mono ?_
    rintro e w7 ⟨rfl, hb7⟩
    go_wp2_with fail
    refine (HDF.out _).mono ?_
    rintro e w8 ⟨rfl, hb8⟩
    go_wp2_with fail
    refine (HUF.out _).mono ?_
    rintro e w9 ⟨rfl, rfl⟩
    go_wp2_with fail
    refine (HU.out _).mono ?_
    rintro e w9 ⟨rfl, rfl⟩
    go_wp2_with fail
    refine (HUT.out _).mono ?_
    rintro e w9 ⟨rfl, rfl⟩
    go_wp2_with fail
    refine (HU.out _).mono ?_
    rintro e w9 ⟨rfl, rfl⟩
    go_wp2_with fail
    refine (awake59_any _).mono ?_
    rintro e w10 ⟨rfl, hb10⟩
    go_wp2_with fail
    go_ret
    have hA := (below_drewN hb06 _).trans (hb7.mono hb06.size)
    exact ⟨rfl, hA.trans ((hb8.trans (hb10.mono hb8.size)).mono hA.size)⟩
theorem law_meas (a1 a2 a3 : Int) (w1 : (Lit.int .u8 a1).wf = true) (w2 : (Lit.int .u8 a2).wf = true) (w3 : (Lit.int .u8 a3).wf = true) (v0 : Value) (rs : List Reel) (w : World) (hv : ReelsArg w v0 rs) :
    Calls Tryd.prog 3 #[v0, .int .u8 a1, .int .u8 a2, .int .u8 a3] w fun e w' => e = .returned (.bool true) ∧ Below w.heap.size w w' := by
  obtain ⟨ao, cap, rfl, hl, hc, hr, hb⟩ := hv
  have b1 := u8_wf w1
  have b2 := u8_wf w2
  have b3 := u8_wf w3
  obtain ⟨j, rfl⟩ : ∃ j : Nat, a1 = j := ⟨a1.toNat, by omega⟩
  obtain ⟨q, rfl⟩ : ∃ j : Nat, a2 = j := ⟨a2.toNat, by omega⟩
  obtain ⟨a, rfl⟩ : ∃ j : Nat, a3 = j := ⟨a3.toNat, by omega⟩
  have hm : MeasArg w ao cap rs := ⟨hr, hl, hc, hb⟩
  by_cases hs : smallR rs = true
  · by_cases hjl : j < rs.length
    · obtain ⟨r, hj⟩ : ∃ r, rs[j]? = some r := ⟨_, List.getElem?_eq_getElem hjl⟩
      by_cases hql : q < r.ps.length
      · obtain ⟨x, hx⟩ : ∃ x, r.ps[q]? = some x := ⟨_, List.getElem?_eq_getElem hql⟩
        by_cases hal : a < x.length
        · obtain ⟨z, hz⟩ : ∃ z, x[a]? = some z := ⟨_, List.getElem?_eq_getElem hal⟩
          cases hok : Cells.ok x
          · exact meas_skip5 j q a ao cap rs r x w hm hs hj hx hal hok
          · by_cases h63 : z = 63
            · exact meas_main j q a ao cap rs r x z w hm hs hj hx hz hok false 0 (.inr ⟨rfl, rfl⟩) (by rw [h63]; rfl)
            · exact meas_main j q a ao cap rs r x z w hm hs hj hx hz hok true 1 (.inl ⟨rfl, rfl⟩) (by simpa using h63)
        · exact meas_skip4 j q a ao cap rs r x w hm hs hj hx (by omega) (by omega)
      · exact meas_skip3 j q a ao cap rs r w hm hs hj (by omega) (by omega)
    · exact meas_skip2 j q a ao cap rs w hm hs (by omega) (by omega)
  · exact meas_skip1 j q a ao cap rs w hm hs
end Go.Proofs.YtghpolfmhnnbaaaDoor
