/-
  The walk of steleref10.Costs. Written by gen_vitrefc.py.
-/
import Derived.Test.YtnklgppfggkeoaaDoorVitRefT
import Derived.Test.YtnklgppfggkeoaaDoorVitCost
namespace Go.Proofs.YtnklgppfggkeoaaDoor
open Go.RowKit

theorem costC_set (S : Vit.Stg) (p q : Bool) : (costC S.a.1 S.b.1 S.c.1 S.d.1 (Conv.st p q)).setIfInBounds (Conv.st p q) (.int .i64 (S.get p q).1) = costC S.a.1 S.b.1 S.c.1 S.d.1 (Conv.st p q + 1) := by
  cases p <;> cases q <;> rfl
theorem costC_get (S : Vit.Stg) (p q : Bool) : (costC S.a.1 S.b.1 S.c.1 S.d.1 (Conv.st p q))[Conv.st p q]? = some (.int .i64 0) := by
  cases p <;> cases q <;> rfl

set_option maxRecDepth 100000 in
set_option maxHeartbeats 1000000 in
theorem rcosts_bad (s : ByteArray) (k : Int) (w : World) (hs : s.size ≤ 9223372036854775807) (h : vErr s.data.toList ≠ 0) :
    Calls Tryd.prog 17 #[.string s, .int .i64 k] w fun e w' => e = .returned (.tuple #[costV 0 0 0 0, .int .i64 (vErr s.data.toList)]) ∧ Below w.heap.size w w' := by
  have hc := fun w => rvcheck_any s w hs
  have c31 : Tryd.prog.cellsOf 31 = 4 := by kernel_rfl
  generalize vErr s.data.toList = E at *
  have HC := Lib.hid hc
  have hb : (E != 0) = true := by rw [bne_iff_ne]; exact h
  clear hc h
  have e0 := heap_alloc_new w (.cells zero4 31)
  have hb0 : Below w.heap.size w (w.alloc (.cells zero4 31)) := (Below.refl _ w).alloc (Nat.le_refl _) _
  go_enter Tryd.func17, Tryd.ntmps17
  go_wp2_with fail
  refine (HC.out _).mono ?_
  rintro e w1 ⟨rfl, hb1⟩
  have hA1 : w1.heap[w.heap.size]? = some (.cells zero4 31 (0, 0)) := hb_below hb1 (by simp) e0
  have hc1 := hb0.trans (hb1.mono (by simp))
  have a0 := block_cell hA1 0 (.int .i64 0) rfl
  have af0 := block_free hA1 0
  have a1 := block_cell hA1 1 (.int .i64 0) rfl
  have af1 := block_free hA1 1
  have a2 := block_cell hA1 2 (.int .i64 0) rfl
  have af2 := block_free hA1 2
  have a3 := block_cell hA1 3 (.int .i64 0) rfl
  have af3 := block_free hA1 3
  have tg0 : (w1.setCell ⟨w.heap.size, 0, none⟩ (.int .i64 0)).heap[w.heap.size]? = some (.cells #[.int .i64 0, .int .i64 0, .int .i64 0, .int .i64 0] 31 (0, 0)) := block_set hA1 (.int .i64 0)
  have tg1 : ((w1.setCell ⟨w.heap.size, 0, none⟩ (.int .i64 0)).setCell ⟨w.heap.size, 1, none⟩ (.int .i64 0)).heap[w.heap.size]? = some (.cells #[.int .i64 0, .int .i64 0, .int .i64 0, .int .i64 0] 31 (0, 0)) := block_set tg0 (.int .i64 0)
  have tg2 : (((w1.setCell ⟨w.heap.size, 0, none⟩ (.int .i64 0)).setCell ⟨w.heap.size, 1, none⟩ (.int .i64 0)).setCell ⟨w.heap.size, 2, none⟩ (.int .i64 0)).heap[w.heap.size]? = some (.cells #[.int .i64 0, .int .i64 0, .int .i64 0, .int .i64 0] 31 (0, 0)) := block_set tg1 (.int .i64 0)
  have tg3 : ((((w1.setCell ⟨w.heap.size, 0, none⟩ (.int .i64 0)).setCell ⟨w.heap.size, 1, none⟩ (.int .i64 0)).setCell ⟨w.heap.size, 2, none⟩ (.int .i64 0)).setCell ⟨w.heap.size, 3, none⟩ (.int .i64 0)).heap[w.heap.size]? = some (.cells #[.int .i64 0, .int .i64 0, .int .i64 0, .int .i64 0] 31 (0, 0)) := block_set tg2 (.int .i64 0)
  have tj0 := block_cell tg0 0 (.int .i64 0) rfl
  have tj1 := block_cell tg1 1 (.int .i64 0) rfl
  have tj2 := block_cell tg2 2 (.int .i64 0) rfl
  have tj3 := block_cell tg3 3 (.int .i64 0) rfl
  clear tg0 tg1 tg2 tg3
  clear e0 hb0 hb1 hA1
  go_wp2_with fail
  refine bodyPost_ret (v := .tuple #[costV 0 0 0 0, .int .i64 E]) (by simp [results, Tryd.results17, go_sem, costV, tj0, tj1, tj2, tj3]) rfl ⟨rfl, ?_⟩
  exact (((hc1.setCell (by simp) _).setCell (by simp) _).setCell (by simp) _).setCell (by simp) _

set_option maxRecDepth 100000 in
set_option maxHeartbeats 1000000 in
theorem rcosts_range (s : ByteArray) (k : Int) (w : World) (hs : s.size ≤ 4000) (h : vErr s.data.toList = 0) (hk : k < 0 ∨ (s.size : Int) / 2 < k) :
    Calls Tryd.prog 17 #[.string s, .int .i64 k] w fun e w' => e = .returned (.tuple #[costV 0 0 0 0, .int .i64 2]) ∧ Below w.heap.size w w' := by
  have hc := fun w => rvcheck_any s w (by omega)
  have c31 : Tryd.prog.cellsOf 31 = 4 := by kernel_rfl
  rw [h] at hc
  have HC := Lib.hid hc
  have hk2 : k < 0 ∨ (0 ≤ k ∧ (s.size : Int) / 2 < k) := by omega
  clear hc h hk
  rcases hk2 with hk | ⟨hk, hk2⟩
  all_goals
    have e0 := heap_alloc_new w (.cells zero4 31)
    have hb0 : Below w.heap.size w (w.alloc (.cells zero4 31)) := (Below.refl _ w).alloc (Nat.le_refl _) _
    go_enter Tryd.func17, Tryd.ntmps17
    go_wp2_with fail
    refine (HC.out _).mono ?_
    rintro e w1 ⟨rfl, hb1⟩
    have hA1 : w1.heap[w.heap.size]? = some (.cells zero4 31 (0, 0)) := hb_below hb1 (by simp) e0
    have hc1 := hb0.trans (hb1.mono (by simp))
    have a0 := block_cell hA1 0 (.int .i64 0) rfl
    have af0 := block_free hA1 0
    have a1 := block_cell hA1 1 (.int .i64 0) rfl
    have af1 := block_free hA1 1
    have a2 := block_cell hA1 2 (.int .i64 0) rfl
    have af2 := block_free hA1 2
    have a3 := block_cell hA1 3 (.int .i64 0) rfl
    have af3 := block_free hA1 3
    have tg0 : (w1.setCell ⟨w.heap.size, 0, none⟩ (.int .i64 0)).heap[w.heap.size]? = some (.cells #[.int .i64 0, .int .i64 0, .int .i64 0, .int .i64 0] 31 (0, 0)) := block_set hA1 (.int .i64 0)
    have tg1 : ((w1.setCell ⟨w.heap.size, 0, none⟩ (.int .i64 0)).setCell ⟨w.heap.size, 1, none⟩ (.int .i64 0)).heap[w.heap.size]? = some (.cells #[.int .i64 0, .int .i64 0, .int .i64 0, .int .i64 0] 31 (0, 0)) := block_set tg0 (.int .i64 0)
    have tg2 : (((w1.setCell ⟨w.heap.size, 0, none⟩ (.int .i64 0)).setCell ⟨w.heap.size, 1, none⟩ (.int .i64 0)).setCell ⟨w.heap.size, 2, none⟩ (.int .i64 0)).heap[w.heap.size]? = some (.cells #[.int .i64 0, .int .i64 0, .int .i64 0, .int .i64 0] 31 (0, 0)) := block_set tg1 (.int .i64 0)
    have tg3 : ((((w1.setCell ⟨w.heap.size, 0, none⟩ (.int .i64 0)).setCell ⟨w.heap.size, 1, none⟩ (.int .i64 0)).setCell ⟨w.heap.size, 2, none⟩ (.int .i64 0)).setCell ⟨w.heap.size, 3, none⟩ (.int .i64 0)).heap[w.heap.size]? = some (.cells #[.int .i64 0, .int .i64 0, .int .i64 0, .int .i64 0] 31 (0, 0)) := block_set tg2 (.int .i64 0)
    have tj0 := block_cell tg0 0 (.int .i64 0) rfl
    have tj1 := block_cell tg1 1 (.int .i64 0) rfl
    have tj2 := block_cell tg2 2 (.int .i64 0) rfl
    have tj3 := block_cell tg3 3 (.int .i64 0) rfl
    clear tg0 tg1 tg2 tg3
    clear e0 hb0 hb1 hA1
    go_wp2_with fail
    refine bodyPost_ret (v := .tuple #[costV 0 0 0 0, .int .i64 2]) (by simp [results, Tryd.results17, go_sem, costV, tj0, tj1, tj2, tj3]) rfl ⟨rfl, ?_⟩
    exact (((hc1.setCell (by simp) _).setCell (by simp) _).setCell (by simp) _).setCell (by simp) _

set_option maxRecDepth 100000 in
set_option maxHeartbeats 4000000 in
theorem rcosts_ok (s : ByteArray) (n k : Nat) (hs : s.size = 2 * n) (hn : n ≤ 2000) (hk : k ≤ n) (hE : vErr s.data.toList = 0) (S : Vit.Stg) (hS : Vit.dp (s.data.toList.drop (2 * k)) = S) (w : World) :
    Calls Tryd.prog 17 #[.string s, .int .i64 k] w fun e w' => e = .returned (.tuple #[costV S.a.1 S.b.1 S.c.1 S.d.1, .int .i64 0]) ∧ Below w.heap.size w w' := by
  have hc := fun w => rvcheck_any s w (by omega)
  have c31 : Tryd.prog.cellsOf 31 = 4 := by kernel_rfl
  have c59 : Tryd.prog.cellsOf 59 = 2 := by kernel_rfl
  have c60 : Tryd.prog.cellsOf 60 = 8 := by kernel_rfl
  have hl : s.data.toList.length = 2 * n := by rw [toList_length, hs]
  rw [hE] at hc
  have HC := Lib.hid hc
  have hst := fun w => rtable_any s n hs hn w
  have HST := Lib.hid hst
  have hdiv : (s.size : Int) / 2 = (n : Int) := by omega
  have HL := Lib.hid hl
  have HSS := Lib.hid hS
  clear hs hl hc hst hE hS
  have e0 := heap_alloc_new w (.cells zero4 31)
  have hb0 : Below w.heap.size w (w.alloc (.cells zero4 31)) := (Below.refl _ w).alloc (Nat.le_refl _) _
  go_enter Tryd.func17, Tryd.ntmps17
  go_wp2_with fail
  refine (HC.out _).mono ?_
  rintro e w1 ⟨rfl, hb1⟩
  have hA1 : w1.heap[w.heap.size]? = some (.cells zero4 31 (0, 0)) := hb_below hb1 (by simp) e0
  have hc1 := hb0.trans (hb1.mono (by simp))
  clear e0 hb0 hb1
  go_wp2_with fail
  refine (HST.out _).mono ?_
  rintro e w2 ⟨rfl, htab, hb2⟩
  have hlt1 : w.heap.size < w1.heap.size := (Array.getElem?_eq_some_iff.1 hA1).1
  have hA2 := hb_below hb2 hlt1 hA1
  have hc2 := hc1.trans (hb2.mono hc1.size)
  have hgw : w1.heap.size < w2.heap.size := (Array.getElem?_eq_some_iff.1 htab).1
  have e3 := heap_alloc_new w2 (.cells zero4 31)
  have hb3 : Below w2.heap.size w2 (w2.alloc (.cells zero4 31)) := (Below.refl _ w2).alloc (Nat.le_refl _) _
  have HX := Lib.hid fun (W : World) (hW : Below w2.heap.size w2 W) (p q : Bool) => (htab.below hW hgw).cell n k (Conv.st p q * 2) HL.out hk (by have := st_lt p q; omega) _ (by rw [HSS.out, Array.getElem?_toList]; exact (stgC_at S p q).1)
  clear hA1 hb2 hc1
  go_wp2_with fail
  go_loopg [9] 4 (fun g iv wr => ∃ j : Nat, g = 4 - j ∧ j ≤ 4 ∧ iv = .int .i64 j ∧ wr.heap[w2.heap.size]? = some (.cells (costC S.a.1 S.b.1 S.c.1 S.d.1 j) 31 (0, 0)) ∧ Below w2.heap.size w2 wr)
  case atStart => exact ⟨0, rfl, by omega, rfl, e3, hb3⟩
  case round =>
    obtain ⟨j, hg, hj, rfl, hB, hb⟩ := hrel
    have HG := Lib.hid hg
    clear hg e3 hb3
    by_cases hlt : j < 4
    · obtain ⟨p, q, rfl⟩ := state_lt j hlt
      have hx := HX.out _ hb p q
      have y0 := block_cell hB (Conv.st p q) _ (costC_get S p q)
      have y1 := block_free hB (Conv.st p q)
      have hB2 := block_set (i := Conv.st p q) hB (.int .i64 (S.get p q).1)
      rw [costC_set] at hB2
      have hb4 := hb.setCell (p := ⟨w2.heap.size, Conv.st p q, none⟩) (Nat.le_refl _) (.int .i64 (S.get p q).1)
      have HB2 := Lib.hid hB2
      clear hB hB2 hb
      generalize Conv.st p q = j at *
      have hlti : (j : Int) < 4 := by omega
      generalize (S.get p q).1 = C at *
      go_wp2_with fail
      go_roundg (4 - (j + 1))
      case measure => have := HG.out; omega
      case rel => exact ⟨j + 1, rfl, by omega, by go_num, HB2.out, hb4⟩
    · obtain rfl : j = 4 := by omega
      have hA3 := hb_below hb (by omega) hA2
      have hc3 := hc2.trans (hb.mono hc2.size)
      clear hA2 hc2 hb HX htab HSS
      obtain ⟨⟨c0, p0⟩, ⟨c1, p1⟩, ⟨c2, p2⟩, ⟨c3, p3⟩⟩ := S
      have a0 := block_cell hA3 0 (.int .i64 0) rfl
      have af0 := block_free hA3 0
      have a1 := block_cell hA3 1 (.int .i64 0) rfl
      have af1 := block_free hA3 1
      have a2 := block_cell hA3 2 (.int .i64 0) rfl
      have af2 := block_free hA3 2
      have a3 := block_cell hA3 3 (.int .i64 0) rfl
      have af3 := block_free hA3 3
      have d0 := block_cell hB 0 (.int .i64 c0) rfl
      have d1 := block_cell hB 1 (.int .i64 c1) rfl
      have d2 := block_cell hB 2 (.int .i64 c2) rfl
      have d3 := block_cell hB 3 (.int .i64 c3) rfl
      have tg0 : (wr.setCell ⟨w.heap.size, 0, none⟩ (.int .i64 c0)).heap[w.heap.size]? = some (.cells #[.int .i64 c0, .int .i64 0, .int .i64 0, .int .i64 0] 31 (0, 0)) := block_set hA3 (.int .i64 c0)
      have tg1 : ((wr.setCell ⟨w.heap.size, 0, none⟩ (.int .i64 c0)).setCell ⟨w.heap.size, 1, none⟩ (.int .i64 c1)).heap[w.heap.size]? = some (.cells #[.int .i64 c0, .int .i64 c1, .int .i64 0, .int .i64 0] 31 (0, 0)) := block_set tg0 (.int .i64 c1)
      have tg2 : (((wr.setCell ⟨w.heap.size, 0, none⟩ (.int .i64 c0)).setCell ⟨w.heap.size, 1, none⟩ (.int .i64 c1)).setCell ⟨w.heap.size, 2, none⟩ (.int .i64 c2)).heap[w.heap.size]? = some (.cells #[.int .i64 c0, .int .i64 c1, .int .i64 c2, .int .i64 0] 31 (0, 0)) := block_set tg1 (.int .i64 c2)
      have tg3 : ((((wr.setCell ⟨w.heap.size, 0, none⟩ (.int .i64 c0)).setCell ⟨w.heap.size, 1, none⟩ (.int .i64 c1)).setCell ⟨w.heap.size, 2, none⟩ (.int .i64 c2)).setCell ⟨w.heap.size, 3, none⟩ (.int .i64 c3)).heap[w.heap.size]? = some (.cells #[.int .i64 c0, .int .i64 c1, .int .i64 c2, .int .i64 c3] 31 (0, 0)) := block_set tg2 (.int .i64 c3)
      have tj0 := block_cell tg0 0 (.int .i64 c0) rfl
      have tj1 := block_cell tg1 1 (.int .i64 c1) rfl
      have tj2 := block_cell tg2 2 (.int .i64 c2) rfl
      have tj3 := block_cell tg3 3 (.int .i64 c3) rfl
      clear tg0 tg1 tg2 tg3
      clear hA3 hB
      go_wp2_with fail
      refine bodyPost_ret (v := .tuple #[costV c0 c1 c2 c3, .int .i64 0]) (by simp [results, Tryd.results17, go_sem, costV, tj0, tj1, tj2, tj3]) rfl ⟨rfl, ?_⟩
      exact (((hc3.setCell (by simp) _).setCell (by simp) _).setCell (by simp) _).setCell (by simp) _
end Go.Proofs.YtnklgppfggkeoaaDoor
