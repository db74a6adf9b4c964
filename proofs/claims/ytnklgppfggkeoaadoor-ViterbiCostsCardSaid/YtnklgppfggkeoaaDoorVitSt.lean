/-
  The walk of viterbi.stages.
-/
import Derived.Test.YtnklgppfggkeoaaDoorVitTab
import Derived.Deep.RegionWith
namespace Go.Proofs.YtnklgppfggkeoaaDoor
open Go.RowKit

theorem infoStage : (Tryd.prog.info? 55).map (fun i => (i.zero, i.size, i.bytes)) = some (some (.agg #[.int .i64 0, .int .i64 0, .int .i64 0, .int .i64 0, .int .i64 0, .int .i64 0, .int .i64 0, .int .i64 0]), 8, 64) := by kernel_rfl
theorem make_stages (n : Nat) (hn : n ≤ 50001) (w : World) (C : Int) (hC : C = n) :
    ∃ W, (Instr.makeSlice 49 (.int .i64 C) (.int .i64 C)).run Tryd.prog w = .ok (.slice (some ⟨w.heap.size, 0, none⟩) n n) W ∧ W.heap[w.heap.size]? = some (.cells (List.replicate (8 * n) (Value.int .i64 0)).toArray 55 (0, 0)) ∧ Below w.heap.size w W ∧ W.heap.size = w.heap.size + 1 := by
  subst hC
  refine ⟨w.alloc (.cells (List.replicate (8 * n) (Value.int .i64 0)).toArray 55), ?_, heap_alloc_new w _, (Below.refl _ w).alloc (Nat.le_refl _) _, by simp⟩
  obtain ⟨i, hi, hz, hs, hb⟩ := info_parts infoStage
  have hr := run_make (P := Tryd.prog) w 49 55 i _ Tryd.underlying49 hi hz .i64 .i64 n n (by omega) (by omega) (by rw [hb]; omega) (by omega)
  simp only [Int.toNat_natCast, hs] at hr
  rw [show n * 8 = 8 * n by omega] at hr
  rw [hr]
  congr 3
  exact made8 _
theorem two_cells (s : ByteArray) (k : Nat) (hk : 2 * k + 1 < s.size) : (s.extract (2 * k) (2 * k + 2)).data.toList = [s[2 * k], s[2 * k + 1]] := by
  rw [Lib.extract_data, show 2 * k + 2 - 2 * k = 2 by omega, List.drop_eq_getElem_cons (by rw [toList_length]; omega), List.drop_eq_getElem_cons (by rw [toList_length]; omega)]
  rfl

set_option maxHeartbeats 4000000 in
set_option maxRecDepth 100000 in
theorem stages_any (s : ByteArray) (n : Nat) (hs : s.size = 2 * n) (hn : n ≤ 2000) (w : World) :
    Calls Tryd.prog 25 #[.string s] w fun e w' => e = .returned (.slice (some ⟨w.heap.size, 0, none⟩) (n + 1) (n + 1)) ∧ Tab w' w.heap.size 55 s.data.toList ∧ Below w.heap.size w w' := by
  have c52 : Tryd.prog.cellsOf 52 = 2 := by kernel_rfl
  have c55 : Tryd.prog.cellsOf 55 = 8 := by kernel_rfl
  have hl : s.data.toList.length = 2 * n := by rw [toList_length, hs]
  obtain ⟨W, hmk, hblk, hbel, hsz⟩ := make_stages (n + 1) (by omega) w ((n : Int) + 1) (by omega)
  have hdiv : (s.size : Int) / 2 = (n : Int) := by omega
  have HS := Lib.hid hs
  have HL := Lib.hid hl
  have hget : ∀ i, i < 8 * (n + 1) → (List.replicate (8 * (n + 1)) (Value.int .i64 0)).toArray[i]? = some (.int .i64 0) := fun i hi => by
    rw [List.getElem?_toArray, List.getElem?_replicate, if_pos hi]
  have z0 := block_cell hblk (n * 8) _ (hget _ (by omega))
  have y0 := block_free hblk (n * 8)
  have z1 := block_cell hblk (n * 8 + 1) _ (hget _ (by omega))
  have y1 := block_free hblk (n * 8 + 1)
  have z2 := block_cell hblk (n * 8 + 2) _ (hget _ (by omega))
  have y2 := block_free hblk (n * 8 + 2)
  have z3 := block_cell hblk (n * 8 + 3) _ (hget _ (by omega))
  have y3 := block_free hblk (n * 8 + 3)
  have z4 := block_cell hblk (n * 8 + 4) _ (hget _ (by omega))
  have y4 := block_free hblk (n * 8 + 4)
  have z5 := block_cell hblk (n * 8 + 5) _ (hget _ (by omega))
  have y5 := block_free hblk (n * 8 + 5)
  have z6 := block_cell hblk (n * 8 + 6) _ (hget _ (by omega))
  have y6 := block_free hblk (n * 8 + 6)
  have z7 := block_cell hblk (n * 8 + 7) _ (hget _ (by omega))
  have y7 := block_free hblk (n * 8 + 7)
  have hfirst := block_sets (stgC Vit.last).toList (n * 8) _ W hblk (by rw [List.length_replicate]; show n * 8 + 8 ≤ _; omega)
  rw [show (stgC Vit.last).toList.length = 8 from rfl, tab_first _ n hl] at hfirst
  have HFIRST := Lib.hid hfirst
  have HZ := Lib.hid hsz
  have hgt : w.heap.size < W.heap.size := by omega
  clear hs hl hget hblk hfirst hsz
  go_enter Tryd.func25, Tryd.ntmps25
  go_wp2_with fail
  go_loopg [5] n (fun g iv wr => ∃ k : Nat, g = k ∧ k ≤ n ∧ iv = .int .i64 ((k : Int) - 1) ∧ wr.heap[w.heap.size]? = some (.cells (tabK s.data.toList k).toArray 55 (0, 0)) ∧ Below w.heap.size w wr)
  case atStart =>
    refine ⟨n, rfl, Nat.le_refl _, rfl, HFIRST.out, ?_⟩
    exact (((((((hbel.setCell (by simp) _).setCell (by simp) _).setCell (by simp) _).setCell (by simp) _).setCell (by simp) _).setCell (by simp) _).setCell (by simp) _).setCell (by simp) _
  case round =>
    obtain ⟨k, hg, hk, rfl, hB, hb⟩ := hrel
    have HG := Lib.hid hg
    clear hg hmk hbel z0 z1 z2 z3 z4 z5 z6 z7 y0 y1 y2 y3 y4 y5 y6 y7
    by_cases hlt : 1 ≤ k
    · obtain ⟨j, rfl⟩ : ∃ j, k = j + 1 := ⟨k - 1, by omega⟩
      rw [show ((j + 1 : Nat) : Int) - 1 = (j : Int) by omega]
      have hj1 : 2 * j + 1 < s.size := by have := HS.out; omega
      have hj0 : 2 * j < s.size := by omega
      have hX := two_cells s j hj1
      have hbef := fun w => before_any (s.extract (2 * j) (2 * j + 2)) s[2 * j] s[2 * j + 1] hX (Vit.dp (s.data.toList.drop (2 * (j + 1)))) (small_dp (n - (j + 1)) _ (by rw [List.length_drop, HL.out]; omega) (by omega)) w
      have hstore := tabK_store s.data.toList j _ _ (get_of_lt s _ hj0) (get_of_lt s _ hj1)
      have hlenK := tabK_length s.data.toList n (j + 1) HL.out hk
      have hblt : w.heap.size < wr.heap.size := (Array.getElem?_eq_some_iff.1 hB).1
      obtain ⟨R, hR⟩ : ∃ R, Vit.before s[2 * j] s[2 * j + 1] (Vit.dp (s.data.toList.drop (2 * (j + 1)))) = R := ⟨_, rfl⟩
      obtain ⟨T, hT⟩ : ∃ T, Vit.dp (s.data.toList.drop (2 * (j + 1))) = T := ⟨_, rfl⟩
      rw [hR] at hbef hstore
      rw [hT] at hbef
      obtain ⟨⟨c0, p0⟩, ⟨c1, p1⟩, ⟨c2, p2⟩, ⟨c3, p3⟩⟩ := T
      obtain ⟨⟨r0, s0⟩, ⟨r1, s1⟩, ⟨r2, s2⟩, ⟨r3, s3⟩⟩ := R
      simp only [stgV] at hbef
      have x0 : wr.cell? ⟨w.heap.size, (j + 1) * 8, none⟩ = some (.int .i64 c0) := block_cell hB _ _ (by rw [List.getElem?_toArray]; exact (tabK_get _ _ 0 (by omega)).trans (by rw [hT]; rfl))
      have x1 : wr.cell? ⟨w.heap.size, (j + 1) * 8 + 1, none⟩ = some (.int .i64 p0) := block_cell hB _ _ (by rw [List.getElem?_toArray]; exact (tabK_get _ _ 1 (by omega)).trans (by rw [hT]; rfl))
      have x2 : wr.cell? ⟨w.heap.size, (j + 1) * 8 + 2, none⟩ = some (.int .i64 c1) := block_cell hB _ _ (by rw [List.getElem?_toArray]; exact (tabK_get _ _ 2 (by omega)).trans (by rw [hT]; rfl))
      have x3 : wr.cell? ⟨w.heap.size, (j + 1) * 8 + 3, none⟩ = some (.int .i64 p1) := block_cell hB _ _ (by rw [List.getElem?_toArray]; exact (tabK_get _ _ 3 (by omega)).trans (by rw [hT]; rfl))
      have x4 : wr.cell? ⟨w.heap.size, (j + 1) * 8 + 4, none⟩ = some (.int .i64 c2) := block_cell hB _ _ (by rw [List.getElem?_toArray]; exact (tabK_get _ _ 4 (by omega)).trans (by rw [hT]; rfl))
      have x5 : wr.cell? ⟨w.heap.size, (j + 1) * 8 + 5, none⟩ = some (.int .i64 p2) := block_cell hB _ _ (by rw [List.getElem?_toArray]; exact (tabK_get _ _ 5 (by omega)).trans (by rw [hT]; rfl))
      have x6 : wr.cell? ⟨w.heap.size, (j + 1) * 8 + 6, none⟩ = some (.int .i64 c3) := block_cell hB _ _ (by rw [List.getElem?_toArray]; exact (tabK_get _ _ 6 (by omega)).trans (by rw [hT]; rfl))
      have x7 : wr.cell? ⟨w.heap.size, (j + 1) * 8 + 7, none⟩ = some (.int .i64 p3) := block_cell hB _ _ (by rw [List.getElem?_toArray]; exact (tabK_get _ _ 7 (by omega)).trans (by rw [hT]; rfl))
      have HBEF := Lib.hid hbef
      have HSTORE := Lib.hid hstore
      have HLENK := Lib.hid hlenK
      have q1 : IntKind.i64.wrap (2 * (j : Int)) = 2 * (j : Int) := IntWalk.i64_in _ (by omega)
      have q2 : IntKind.i64.wrap (2 * (j : Int) + 2) = 2 * (j : Int) + 2 := IntWalk.i64_in _ (by omega)
      have q3 : IntKind.i64.wrap ((j : Int) + 1) = (j : Int) + 1 := IntWalk.i64_in _ (by omega)
      have q4 : (0 : Int) ≤ 2 * (j : Int) := by omega
      have q5 : 2 * (j : Int) ≤ 2 * (j : Int) + 2 := by omega
      have q6 : 2 * (j : Int) + 2 ≤ (s.size : Int) := by omega
      have q7 : (2 * (j : Int)).toNat = 2 * j := by omega
      have q8 : (2 * (j : Int) + 2).toNat = 2 * j + 2 := by omega
      have q9 : (0 : Int) ≤ (j : Int) + 1 := by omega
      have q10 : (j : Int) + 1 < (n : Int) + 1 := by omega
      have q11 : ((j : Int) + 1).toNat = j + 1 := by omega
      have q12 : (0 : Int) ≤ (j : Int) := by omega
      have q13 : (j : Int) < (n : Int) + 1 := by omega
      clear hbef hstore hR hT hX hlenK
      go_wp2_with fail
      go_region_with (go_at_call 38; refine (HBEF.out _).mono ?_; rintro e w1 ⟨rfl, hb1⟩; have hB1 := hb_below hb1 (by simpa using hblt) (show wr.drew.heap[w.heap.size]? = _ from hB); have z0 := block_cell hB1 (j * 8) _ (by rw [List.getElem?_toArray]; exact tabK_zero _ _ 0 (by omega)); have y0 := block_free hB1 (j * 8); have z1 := block_cell hB1 (j * 8 + 1) _ (by rw [List.getElem?_toArray]; exact tabK_zero _ _ 1 (by omega)); have y1 := block_free hB1 (j * 8 + 1); have z2 := block_cell hB1 (j * 8 + 2) _ (by rw [List.getElem?_toArray]; exact tabK_zero _ _ 2 (by omega)); have y2 := block_free hB1 (j * 8 + 2); have z3 := block_cell hB1 (j * 8 + 3) _ (by rw [List.getElem?_toArray]; exact tabK_zero _ _ 3 (by omega)); have y3 := block_free hB1 (j * 8 + 3); have z4 := block_cell hB1 (j * 8 + 4) _ (by rw [List.getElem?_toArray]; exact tabK_zero _ _ 4 (by omega)); have y4 := block_free hB1 (j * 8 + 4); have z5 := block_cell hB1 (j * 8 + 5) _ (by rw [List.getElem?_toArray]; exact tabK_zero _ _ 5 (by omega)); have y5 := block_free hB1 (j * 8 + 5); have z6 := block_cell hB1 (j * 8 + 6) _ (by rw [List.getElem?_toArray]; exact tabK_zero _ _ 6 (by omega)); have y6 := block_free hB1 (j * 8 + 6); have z7 := block_cell hB1 (j * 8 + 7) _ (by rw [List.getElem?_toArray]; exact tabK_zero _ _ 7 (by omega)); have y7 := block_free hB1 (j * 8 + 7); have hb2 := (hb.trans ((bdrew (Below.refl _ wr) 1).mono (by omega))).trans (hb1.mono (by simp; omega)); have hsets := block_sets [.int .i64 r0, .int .i64 s0, .int .i64 r1, .int .i64 s1, .int .i64 r2, .int .i64 s2, .int .i64 r3, .int .i64 s3] (j * 8) _ w1 hB1 (by rw [HLENK.out]; show j * 8 + 8 ≤ _; omega); have HSETS := Lib.hid hsets; clear hsets hB1)
      go_wp2_with fail
      go_roundg j
      case measure => have := HG.out; omega
      case rel =>
        refine ⟨j, rfl, by omega, by go_num, ?_, ?_⟩
        · refine HSETS.out.trans ?_
          rw [← HSTORE.out]
          rfl
        · exact (((((((hb2.setCell (by simp) _).setCell (by simp) _).setCell (by simp) _).setCell (by simp) _).setCell (by simp) _).setCell (by simp) _).setCell (by simp) _).setCell (by simp) _
    · obtain rfl : k = 0 := by omega
      have hT : Tab wr w.heap.size 55 s.data.toList := by
        have e : tabK s.data.toList 0 = tabL s.data.toList := rfl
        rw [e] at hB
        exact hB
      have HT := Lib.hid hT
      clear hT hB
      go_wp2_with fail
      go_ret
      exact ⟨rfl, HT.out, hb⟩
end Go.Proofs.YtnklgppfggkeoaaDoor
