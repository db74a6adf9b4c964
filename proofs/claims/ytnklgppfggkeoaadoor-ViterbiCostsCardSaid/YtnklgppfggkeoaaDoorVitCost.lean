/-
  The walk of viterbi.Costs.
-/
import Derived.Test.YtnklgppfggkeoaaDoorVitDec
namespace Go.Proofs.YtnklgppfggkeoaaDoor
open Go.RowKit

def costV (a b c d : Int) : Value := .agg #[.int .i64 a, .int .i64 b, .int .i64 c, .int .i64 d]
def zero4 : Array Value := #[.int .i64 0, .int .i64 0, .int .i64 0, .int .i64 0]
def four (a b c d : Int) : Array Value := #[.int .i64 a, .int .i64 b, .int .i64 c, .int .i64 d]
/-- The first k costs. -/
def costC (a b c d : Int) : Nat → Array Value
  | 0 => zero4
  | 1 => four a 0 0 0
  | 2 => four a b 0 0
  | 3 => four a b c 0
  | _ => four a b c d

set_option maxRecDepth 100000 in
set_option maxHeartbeats 1000000 in
theorem costs_bad (s : ByteArray) (k : Int) (w : World) (hs : s.size ≤ 9223372036854775807) (h : vErr s.data.toList ≠ 0) :
    Calls Tryd.prog 16 #[.string s, .int .i64 k] w fun e w' => e = .returned (.tuple #[costV 0 0 0 0, .int .i64 (vErr s.data.toList)]) ∧ Below w.heap.size w w' := by
  have hc := fun w => vcheck_any s w hs
  have c31 : Tryd.prog.cellsOf 31 = 4 := by kernel_rfl
  generalize vErr s.data.toList = E at *
  have HC := Lib.hid hc
  have hb : (E != 0) = true := by rw [bne_iff_ne]; exact h
  clear hc h
  have e0 := heap_alloc_new w (.cells zero4 31)
  have e1 := heap_alloc_new (w.alloc (.cells zero4 31)) (.cells zero4 31)
  rw [World.size_alloc] at e1
  have hb0 : Below w.heap.size w ((w.alloc (.cells zero4 31)).alloc (.cells zero4 31)) := ((Below.refl _ w).alloc (Nat.le_refl _) _).alloc (by simp) _
  have hA : ((w.alloc (.cells zero4 31)).alloc (.cells zero4 31)).heap[w.heap.size]? = some (.cells zero4 31 (0, 0)) := hb_alloc e0
  go_enter Tryd.func16, Tryd.ntmps16
  go_wp2_with fail
  refine (HC.out _).mono ?_
  rintro e w1 ⟨rfl, hb1⟩
  have hA1 : w1.heap[w.heap.size]? = some (.cells zero4 31 (0, 0)) := hb_below hb1 (by simp; omega) hA
  have hB1 : w1.heap[w.heap.size + 1]? = some (.cells zero4 31 (0, 0)) := hb_below hb1 (by simp) e1
  have hsz1 : w.heap.size + 1 < w1.heap.size := (Array.getElem?_eq_some_iff.1 hB1).1
  have hc1 := hb0.trans (hb1.mono (by simp; omega))
  have a0 := block_cell hA1 0 (.int .i64 0) rfl
  have af0 := block_free hA1 0
  have a1 := block_cell hA1 1 (.int .i64 0) rfl
  have af1 := block_free hA1 1
  have a2 := block_cell hA1 2 (.int .i64 0) rfl
  have af2 := block_free hA1 2
  have a3 := block_cell hA1 3 (.int .i64 0) rfl
  have af3 := block_free hA1 3
  have d0 := block_cell hB1 0 (.int .i64 0) rfl
  have d1 := block_cell hB1 1 (.int .i64 0) rfl
  have d2 := block_cell hB1 2 (.int .i64 0) rfl
  have d3 := block_cell hB1 3 (.int .i64 0) rfl
  have tg0 : (w1.setCell ⟨w.heap.size, 0, none⟩ (.int .i64 0)).heap[w.heap.size]? = some (.cells #[.int .i64 0, .int .i64 0, .int .i64 0, .int .i64 0] 31 (0, 0)) := block_set hA1 (.int .i64 0)
  have tg1 : ((w1.setCell ⟨w.heap.size, 0, none⟩ (.int .i64 0)).setCell ⟨w.heap.size, 1, none⟩ (.int .i64 0)).heap[w.heap.size]? = some (.cells #[.int .i64 0, .int .i64 0, .int .i64 0, .int .i64 0] 31 (0, 0)) := block_set tg0 (.int .i64 0)
  have tg2 : (((w1.setCell ⟨w.heap.size, 0, none⟩ (.int .i64 0)).setCell ⟨w.heap.size, 1, none⟩ (.int .i64 0)).setCell ⟨w.heap.size, 2, none⟩ (.int .i64 0)).heap[w.heap.size]? = some (.cells #[.int .i64 0, .int .i64 0, .int .i64 0, .int .i64 0] 31 (0, 0)) := block_set tg1 (.int .i64 0)
  have tg3 : ((((w1.setCell ⟨w.heap.size, 0, none⟩ (.int .i64 0)).setCell ⟨w.heap.size, 1, none⟩ (.int .i64 0)).setCell ⟨w.heap.size, 2, none⟩ (.int .i64 0)).setCell ⟨w.heap.size, 3, none⟩ (.int .i64 0)).heap[w.heap.size]? = some (.cells #[.int .i64 0, .int .i64 0, .int .i64 0, .int .i64 0] 31 (0, 0)) := block_set tg2 (.int .i64 0)
  have tj0 := block_cell tg0 0 (.int .i64 0) rfl
  have tj1 := block_cell tg1 1 (.int .i64 0) rfl
  have tj2 := block_cell tg2 2 (.int .i64 0) rfl
  have tj3 := block_cell tg3 3 (.int .i64 0) rfl
  clear tg0 tg1 tg2 tg3
  clear e0 e1 hb0 hA hb1 hA1 hB1
  go_wp2_with fail
  refine bodyPost_ret (v := .tuple #[costV 0 0 0 0, .int .i64 E]) (by simp [results, Tryd.results16, go_sem, costV, tj0, tj1, tj2, tj3]) rfl ⟨rfl, ?_⟩
  exact (((hc1.setCell (by simp) _).setCell (by simp) _).setCell (by simp) _).setCell (by simp) _

set_option maxRecDepth 100000 in
set_option maxHeartbeats 1000000 in
theorem costs_range (s : ByteArray) (k : Int) (w : World) (hs : s.size ≤ 4000) (h : vErr s.data.toList = 0) (hk : k < 0 ∨ (s.size : Int) / 2 < k) :
    Calls Tryd.prog 16 #[.string s, .int .i64 k] w fun e w' => e = .returned (.tuple #[costV 0 0 0 0, .int .i64 2]) ∧ Below w.heap.size w w' := by
  have hc := fun w => vcheck_any s w (by omega)
  have c31 : Tryd.prog.cellsOf 31 = 4 := by kernel_rfl
  rw [h] at hc
  have HC := Lib.hid hc
  have hk2 : k < 0 ∨ (0 ≤ k ∧ (s.size : Int) / 2 < k) := by omega
  clear hc h hk
  rcases hk2 with hk | ⟨hk, hk2⟩
  all_goals
    have e0 := heap_alloc_new w (.cells zero4 31)
    have e1 := heap_alloc_new (w.alloc (.cells zero4 31)) (.cells zero4 31)
    rw [World.size_alloc] at e1
    have hb0 : Below w.heap.size w ((w.alloc (.cells zero4 31)).alloc (.cells zero4 31)) := ((Below.refl _ w).alloc (Nat.le_refl _) _).alloc (by simp) _
    have hA : ((w.alloc (.cells zero4 31)).alloc (.cells zero4 31)).heap[w.heap.size]? = some (.cells zero4 31 (0, 0)) := hb_alloc e0
    go_enter Tryd.func16, Tryd.ntmps16
    go_wp2_with fail
    refine (HC.out _).mono ?_
    rintro e w1 ⟨rfl, hb1⟩
    have hA1 : w1.heap[w.heap.size]? = some (.cells zero4 31 (0, 0)) := hb_below hb1 (by simp; omega) hA
    have hB1 : w1.heap[w.heap.size + 1]? = some (.cells zero4 31 (0, 0)) := hb_below hb1 (by simp) e1
    have hsz1 : w.heap.size + 1 < w1.heap.size := (Array.getElem?_eq_some_iff.1 hB1).1
    have hc1 := hb0.trans (hb1.mono (by simp; omega))
    have a0 := block_cell hA1 0 (.int .i64 0) rfl
    have af0 := block_free hA1 0
    have a1 := block_cell hA1 1 (.int .i64 0) rfl
    have af1 := block_free hA1 1
    have a2 := block_cell hA1 2 (.int .i64 0) rfl
    have af2 := block_free hA1 2
    have a3 := block_cell hA1 3 (.int .i64 0) rfl
    have af3 := block_free hA1 3
    have d0 := block_cell hB1 0 (.int .i64 0) rfl
    have d1 := block_cell hB1 1 (.int .i64 0) rfl
    have d2 := block_cell hB1 2 (.int .i64 0) rfl
    have d3 := block_cell hB1 3 (.int .i64 0) rfl
    have tg0 : (w1.setCell ⟨w.heap.size, 0, none⟩ (.int .i64 0)).heap[w.heap.size]? = some (.cells #[.int .i64 0, .int .i64 0, .int .i64 0, .int .i64 0] 31 (0, 0)) := block_set hA1 (.int .i64 0)
    have tg1 : ((w1.setCell ⟨w.heap.size, 0, none⟩ (.int .i64 0)).setCell ⟨w.heap.size, 1, none⟩ (.int .i64 0)).heap[w.heap.size]? = some (.cells #[.int .i64 0, .int .i64 0, .int .i64 0, .int .i64 0] 31 (0, 0)) := block_set tg0 (.int .i64 0)
    have tg2 : (((w1.setCell ⟨w.heap.size, 0, none⟩ (.int .i64 0)).setCell ⟨w.heap.size, 1, none⟩ (.int .i64 0)).setCell ⟨w.heap.size, 2, none⟩ (.int .i64 0)).heap[w.heap.size]? = some (.cells #[.int .i64 0, .int .i64 0, .int .i64 0, .int .i64 0] 31 (0, 0)) := block_set tg1 (.int .i64 0)
    have tg3 : ((((w1.setCell ⟨w.heap.size, 0, none⟩ (.int .i64 0)).setCell ⟨w.heap.size, 1, none⟩ (.int .i64 0)).setCell ⟨w.heap.size, 2, none⟩ (.int .i64 0)).setCell ⟨w.heap.size, 3, none⟩ (.int .i64 0)).heap[w.heap.size]? = some (.cells #[.int .i64 0, .int .i64 0, .int .i64 0, .int .i64 0] 31 (0, 0)) := block_set tg2 (.int .i64 0)
    have tj0 := block_cell tg0 0 (.int .i64 0) rfl
    have tj1 := block_cell tg1 1 (.int .i64 0) rfl
    have tj2 := block_cell tg2 2 (.int .i64 0) rfl
    have tj3 := block_cell tg3 3 (.int .i64 0) rfl
    clear tg0 tg1 tg2 tg3
    clear e0 e1 hb0 hA hb1 hA1 hB1
    go_wp2_with fail
    refine bodyPost_ret (v := .tuple #[costV 0 0 0 0, .int .i64 2]) (by simp [results, Tryd.results16, go_sem, costV, tj0, tj1, tj2, tj3]) rfl ⟨rfl, ?_⟩
    exact (((hc1.setCell (by simp) _).setCell (by simp) _).setCell (by simp) _).setCell (by simp) _

set_option maxRecDepth 100000 in
set_option maxHeartbeats 4000000 in
theorem costs_ok (s : ByteArray) (n k : Nat) (hs : s.size = 2 * n) (hn : n ≤ 2000) (hk : k ≤ n) (hE : vErr s.data.toList = 0) (S : Vit.Stg) (hS : Vit.dp (s.data.toList.drop (2 * k)) = S) (w : World) :
    Calls Tryd.prog 16 #[.string s, .int .i64 k] w fun e w' => e = .returned (.tuple #[costV S.a.1 S.b.1 S.c.1 S.d.1, .int .i64 0]) ∧ Below w.heap.size w w' := by
  have hc := fun w => vcheck_any s w (by omega)
  have c31 : Tryd.prog.cellsOf 31 = 4 := by kernel_rfl
  have c52 : Tryd.prog.cellsOf 52 = 2 := by kernel_rfl
  have c55 : Tryd.prog.cellsOf 55 = 8 := by kernel_rfl
  have hl : s.data.toList.length = 2 * n := by rw [toList_length, hs]
  rw [hE] at hc
  have HC := Lib.hid hc
  have hst := fun w => stages_any s n hs hn w
  have HST := Lib.hid hst
  have hdiv : (s.size : Int) / 2 = (n : Int) := by omega
  have HL := Lib.hid hl
  have HSS := Lib.hid hS
  obtain ⟨⟨c0, p0⟩, ⟨c1, p1⟩, ⟨c2, p2⟩, ⟨c3, p3⟩⟩ := S
  clear hs hl hc hst hE hS
  have e0 := heap_alloc_new w (.cells zero4 31)
  have e1 := heap_alloc_new (w.alloc (.cells zero4 31)) (.cells zero4 31)
  rw [World.size_alloc] at e1
  have hb0 : Below w.heap.size w ((w.alloc (.cells zero4 31)).alloc (.cells zero4 31)) := ((Below.refl _ w).alloc (Nat.le_refl _) _).alloc (by simp) _
  have hA : ((w.alloc (.cells zero4 31)).alloc (.cells zero4 31)).heap[w.heap.size]? = some (.cells zero4 31 (0, 0)) := hb_alloc e0
  go_enter Tryd.func16, Tryd.ntmps16
  go_wp2_with fail
  refine (HC.out _).mono ?_
  rintro e w1 ⟨rfl, hb1⟩
  have hA1 : w1.heap[w.heap.size]? = some (.cells zero4 31 (0, 0)) := hb_below hb1 (by simp; omega) hA
  have hB1 : w1.heap[w.heap.size + 1]? = some (.cells zero4 31 (0, 0)) := hb_below hb1 (by simp) e1
  have hsz1 : w.heap.size + 1 < w1.heap.size := (Array.getElem?_eq_some_iff.1 hB1).1
  have hc1 := hb0.trans (hb1.mono (by simp; omega))
  clear e0 e1 hb0 hA hb1
  go_wp2_with fail
  refine (HST.out _).mono ?_
  rintro e w2 ⟨rfl, htab, hb2⟩
  have hA2 := hb_below hb2 (by omega) hA1
  have hB2 := hb_below hb2 (by omega) hB1
  have hc2 := hc1.trans (hb2.mono hc1.size)
  have hgw : w1.heap.size < w2.heap.size := (Array.getElem?_eq_some_iff.1 htab).1
  have x0 : w2.cell? ⟨w1.heap.size, k * 8, none⟩ = some (.int .i64 c0) := htab.cell n k 0 HL.out (by omega) (by omega) (.int .i64 c0) (by rw [HSS.out]; rfl)
  have x1 := htab.cell n k 1 HL.out (by omega) (by omega) (.int .i64 p0) (by rw [HSS.out]; rfl)
  have x2 := htab.cell n k 2 HL.out (by omega) (by omega) (.int .i64 c1) (by rw [HSS.out]; rfl)
  have x3 := htab.cell n k 3 HL.out (by omega) (by omega) (.int .i64 p1) (by rw [HSS.out]; rfl)
  have x4 := htab.cell n k 4 HL.out (by omega) (by omega) (.int .i64 c2) (by rw [HSS.out]; rfl)
  have x5 := htab.cell n k 5 HL.out (by omega) (by omega) (.int .i64 p2) (by rw [HSS.out]; rfl)
  have x6 := htab.cell n k 6 HL.out (by omega) (by omega) (.int .i64 c3) (by rw [HSS.out]; rfl)
  have x7 := htab.cell n k 7 HL.out (by omega) (by omega) (.int .i64 p3) (by rw [HSS.out]; rfl)
  clear hA1 hB1 htab hb2 hc1
  go_wp2_with fail
  go_loopg [8, 31] 4 (fun g _ iv wr => ∃ j : Nat, g = 4 - j ∧ j ≤ 4 ∧ iv = .int .i64 j ∧ wr.heap[w.heap.size]? = some (.cells zero4 31 (0, 0)) ∧ wr.heap[w.heap.size + 1]? = some (.cells (costC c0 c1 c2 c3 j) 31 (0, 0)) ∧ Below w.heap.size w wr)
  case atStart => exact ⟨0, rfl, by omega, rfl, hA2, hB2, hc2⟩
  case round =>
    obtain ⟨j, hg, hj, rfl, hA3, hB3, hb⟩ := hrel
    have HG := Lib.hid hg
    clear hg hA2 hB2 hc2 x0 x1 x2 x3 x4 x5 x6 x7
    have hsz := (Array.getElem?_eq_some_iff.1 hB3).1
    have hj5 : j = 0 ∨ j = 1 ∨ j = 2 ∨ j = 3 ∨ j = 4 := by omega
    rcases hj5 with rfl | rfl | rfl | rfl | rfl
    · have ix : ∀ w, (Instr.index 55 (.agg #[.int .i64 c0, .int .i64 p0, .int .i64 c1, .int .i64 p1, .int .i64 c2, .int .i64 p2, .int .i64 c3, .int .i64 p3]) (.int .i64 0)).run Tryd.prog w = .ok (.agg #[.int .i64 c0, .int .i64 p0]) w := fun _ => by kernel_rfl
      have hA4 := hb_alloc (o := .cells #[.int .i64 c0, .int .i64 p0] 52) hA3
      have hB4 := hb_alloc (o := .cells #[.int .i64 c0, .int .i64 p0] 52) hB3
      have y0 := block_cell hB4 0 (.int .i64 0) rfl
      have y1 := block_free hB4 0
      have hB5 := hb_alloc (o := .cells #[.int .i64 c0, .int .i64 p0] 52) (block_set (i := 0) hB3 (.int .i64 c0))
      have hA5 := hb_alloc (o := .cells #[.int .i64 c0, .int .i64 p0] 52) (hb_far (b := w.heap.size + 1) (i := 0) (v := .int .i64 c0) (by omega) hA3)
      have hb5 := (hb.setCell (p := ⟨w.heap.size + 1, 0, none⟩) (by simp) (.int .i64 c0)).alloc (by simpa using hb.size) (.cells #[.int .i64 c0, .int .i64 p0] 52)
      have HA5 := Lib.hid hA5
      have HB5 := Lib.hid hB5
      clear hA4 hB4 hA5 hB5 hA3 hB3
      go_wp2_with fail
      go_roundg (4 - (0 + 1))
      case measure => have := HG.out; omega
      case rel => exact ⟨0 + 1, rfl, by omega, rfl, HA5.out, HB5.out, hb5⟩
    · have ix : ∀ w, (Instr.index 55 (.agg #[.int .i64 c0, .int .i64 p0, .int .i64 c1, .int .i64 p1, .int .i64 c2, .int .i64 p2, .int .i64 c3, .int .i64 p3]) (.int .i64 1)).run Tryd.prog w = .ok (.agg #[.int .i64 c1, .int .i64 p1]) w := fun _ => by kernel_rfl
      have hA4 := hb_alloc (o := .cells #[.int .i64 c1, .int .i64 p1] 52) hA3
      have hB4 := hb_alloc (o := .cells #[.int .i64 c1, .int .i64 p1] 52) hB3
      have y0 := block_cell hB4 1 (.int .i64 0) rfl
      have y1 := block_free hB4 1
      have hB5 := hb_alloc (o := .cells #[.int .i64 c1, .int .i64 p1] 52) (block_set (i := 1) hB3 (.int .i64 c1))
      have hA5 := hb_alloc (o := .cells #[.int .i64 c1, .int .i64 p1] 52) (hb_far (b := w.heap.size + 1) (i := 1) (v := .int .i64 c1) (by omega) hA3)
      have hb5 := (hb.setCell (p := ⟨w.heap.size + 1, 1, none⟩) (by simp) (.int .i64 c1)).alloc (by simpa using hb.size) (.cells #[.int .i64 c1, .int .i64 p1] 52)
      have HA5 := Lib.hid hA5
      have HB5 := Lib.hid hB5
      clear hA4 hB4 hA5 hB5 hA3 hB3
      go_wp2_with fail
      go_roundg (4 - (1 + 1))
      case measure => have := HG.out; omega
      case rel => exact ⟨1 + 1, rfl, by omega, rfl, HA5.out, HB5.out, hb5⟩
    · have ix : ∀ w, (Instr.index 55 (.agg #[.int .i64 c0, .int .i64 p0, .int .i64 c1, .int .i64 p1, .int .i64 c2, .int .i64 p2, .int .i64 c3, .int .i64 p3]) (.int .i64 2)).run Tryd.prog w = .ok (.agg #[.int .i64 c2, .int .i64 p2]) w := fun _ => by kernel_rfl
      have hA4 := hb_alloc (o := .cells #[.int .i64 c2, .int .i64 p2] 52) hA3
      have hB4 := hb_alloc (o := .cells #[.int .i64 c2, .int .i64 p2] 52) hB3
      have y0 := block_cell hB4 2 (.int .i64 0) rfl
      have y1 := block_free hB4 2
      have hB5 := hb_alloc (o := .cells #[.int .i64 c2, .int .i64 p2] 52) (block_set (i := 2) hB3 (.int .i64 c2))
      have hA5 := hb_alloc (o := .cells #[.int .i64 c2, .int .i64 p2] 52) (hb_far (b := w.heap.size + 1) (i := 2) (v := .int .i64 c2) (by omega) hA3)
      have hb5 := (hb.setCell (p := ⟨w.heap.size + 1, 2, none⟩) (by simp) (.int .i64 c2)).alloc (by simpa using hb.size) (.cells #[.int .i64 c2, .int .i64 p2] 52)
      have HA5 := Lib.hid hA5
      have HB5 := Lib.hid hB5
      clear hA4 hB4 hA5 hB5 hA3 hB3
      go_wp2_with fail
      go_roundg (4 - (2 + 1))
      case measure => have := HG.out; omega
      case rel => exact ⟨2 + 1, rfl, by omega, rfl, HA5.out, HB5.out, hb5⟩
    · have ix : ∀ w, (Instr.index 55 (.agg #[.int .i64 c0, .int .i64 p0, .int .i64 c1, .int .i64 p1, .int .i64 c2, .int .i64 p2, .int .i64 c3, .int .i64 p3]) (.int .i64 3)).run Tryd.prog w = .ok (.agg #[.int .i64 c3, .int .i64 p3]) w := fun _ => by kernel_rfl
      have hA4 := hb_alloc (o := .cells #[.int .i64 c3, .int .i64 p3] 52) hA3
      have hB4 := hb_alloc (o := .cells #[.int .i64 c3, .int .i64 p3] 52) hB3
      have y0 := block_cell hB4 3 (.int .i64 0) rfl
      have y1 := block_free hB4 3
      have hB5 := hb_alloc (o := .cells #[.int .i64 c3, .int .i64 p3] 52) (block_set (i := 3) hB3 (.int .i64 c3))
      have hA5 := hb_alloc (o := .cells #[.int .i64 c3, .int .i64 p3] 52) (hb_far (b := w.heap.size + 1) (i := 3) (v := .int .i64 c3) (by omega) hA3)
      have hb5 := (hb.setCell (p := ⟨w.heap.size + 1, 3, none⟩) (by simp) (.int .i64 c3)).alloc (by simpa using hb.size) (.cells #[.int .i64 c3, .int .i64 p3] 52)
      have HA5 := Lib.hid hA5
      have HB5 := Lib.hid hB5
      clear hA4 hB4 hA5 hB5 hA3 hB3
      go_wp2_with fail
      go_roundg (4 - (3 + 1))
      case measure => have := HG.out; omega
      case rel => exact ⟨3 + 1, rfl, by omega, rfl, HA5.out, HB5.out, hb5⟩
    · skip
      have a0 := block_cell hA3 0 (.int .i64 0) rfl
      have af0 := block_free hA3 0
      have a1 := block_cell hA3 1 (.int .i64 0) rfl
      have af1 := block_free hA3 1
      have a2 := block_cell hA3 2 (.int .i64 0) rfl
      have af2 := block_free hA3 2
      have a3 := block_cell hA3 3 (.int .i64 0) rfl
      have af3 := block_free hA3 3
      have d0 := block_cell hB3 0 (.int .i64 c0) rfl
      have d1 := block_cell hB3 1 (.int .i64 c1) rfl
      have d2 := block_cell hB3 2 (.int .i64 c2) rfl
      have d3 := block_cell hB3 3 (.int .i64 c3) rfl
      have tg0 : (wr.setCell ⟨w.heap.size, 0, none⟩ (.int .i64 c0)).heap[w.heap.size]? = some (.cells #[.int .i64 c0, .int .i64 0, .int .i64 0, .int .i64 0] 31 (0, 0)) := block_set hA3 (.int .i64 c0)
      have tg1 : ((wr.setCell ⟨w.heap.size, 0, none⟩ (.int .i64 c0)).setCell ⟨w.heap.size, 1, none⟩ (.int .i64 c1)).heap[w.heap.size]? = some (.cells #[.int .i64 c0, .int .i64 c1, .int .i64 0, .int .i64 0] 31 (0, 0)) := block_set tg0 (.int .i64 c1)
      have tg2 : (((wr.setCell ⟨w.heap.size, 0, none⟩ (.int .i64 c0)).setCell ⟨w.heap.size, 1, none⟩ (.int .i64 c1)).setCell ⟨w.heap.size, 2, none⟩ (.int .i64 c2)).heap[w.heap.size]? = some (.cells #[.int .i64 c0, .int .i64 c1, .int .i64 c2, .int .i64 0] 31 (0, 0)) := block_set tg1 (.int .i64 c2)
      have tg3 : ((((wr.setCell ⟨w.heap.size, 0, none⟩ (.int .i64 c0)).setCell ⟨w.heap.size, 1, none⟩ (.int .i64 c1)).setCell ⟨w.heap.size, 2, none⟩ (.int .i64 c2)).setCell ⟨w.heap.size, 3, none⟩ (.int .i64 c3)).heap[w.heap.size]? = some (.cells #[.int .i64 c0, .int .i64 c1, .int .i64 c2, .int .i64 c3] 31 (0, 0)) := block_set tg2 (.int .i64 c3)
      have tj0 := block_cell tg0 0 (.int .i64 c0) rfl
      have tj1 := block_cell tg1 1 (.int .i64 c1) rfl
      have tj2 := block_cell tg2 2 (.int .i64 c2) rfl
      have tj3 := block_cell tg3 3 (.int .i64 c3) rfl
      clear tg0 tg1 tg2 tg3
      clear hA3 hB3
      go_wp2_with fail
      refine bodyPost_ret (v := .tuple #[costV c0 c1 c2 c3, .int .i64 0]) (by simp [results, Tryd.results16, go_sem, costV, tj0, tj1, tj2, tj3]) rfl ⟨rfl, ?_⟩
      exact (((hb.setCell (by simp) _).setCell (by simp) _).setCell (by simp) _).setCell (by simp) _
end Go.Proofs.YtnklgppfggkeoaaDoor
