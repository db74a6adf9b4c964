/-
  ager.edits: the map of edits; looking it up.
-/
import Derived.Test.YtghpolfmhnnbaaaDoorAgSlices
import Derived.ChangeMaps4
import Derived.MapKept
import Derived.Laws.EntriesVeiled
import Derived.Carry
namespace Go.Proofs.YtghpolfmhnnbaaaDoor
open Go.RowKit Go.ChangeMaps

def fnV (k : Nat) : Value := .func (.func k) #[] #[]
def cellV (b : Nat) : Value := .func (.func 43) #[] #[.pointer (some ⟨b, 0, none⟩)]

theorem run_insert {W : World} {M : Nat} {es : Array MapEntry} {clock : Nat} (hb : W.heap[M]? = some (.map es clock)) (q : Int) (v : Value) (hf : Instr.findNow (.int .i64) (.int .i64 q) es.toList 0 = some none) :
    (Instr.mapUpdate 46 (.map (some M)) (.int .i64 q) v).run Tryd.prog W = .ok () (setBlock W M (.map (es.push { key := .int .i64 q, val := v, born := clock }) (clock + 1))) := by
  have hck : (Instr.checkKey false 10000 3 (.int .i64 q)).run Tryd.prog W = .ok () W := by
    have h : ∀ n, (Instr.checkKey false (n + 1) 3 (.int .i64 q)).run Tryd.prog W = .ok () W := fun n => by simp [Instr.checkKey, run_underlying Tryd.underlying3]
    exact h 9999
  have hfk : (Instr.findKey 3 (.int .i64 q) es.toList).run Tryd.prog W = .ok none W := by
    simp [Instr.findKey, run_underlying Tryd.underlying3, hf]
  simp [Instr.mapUpdate, run_underlying Tryd.underlying46, MapKept.run_getObj_map hb, hck, hfk, MapKept.run_setObj_map _ hb, Result.andThen, setBlock]
theorem wpList_ins {ops : Array Oper} {rest : List Oper} {o : Oper} {a : Act} {Q : Exit → Act → World → Prop} {W : World} (hgd : o.guard = none) (m k x : Operand) (ho : o.op = Op.insert 46 m k x)
    (M : Nat) (es : Array MapEntry) (clock : Nat) (hm : a.eval m = .map (some M)) (hb : W.heap[M]? = some (.map es clock)) (q : Int) (hk : a.eval k = .int .i64 q) (v : Value) (hv : a.eval x = v) (hf : Instr.findNow (.int .i64) (.int .i64 q) es.toList 0 = some none)
    (h : ∀ w1 : World, w1.heap[M]? = some (.map (es.push { key := .int .i64 q, val := v, born := clock }) (clock + 1)) → W.grownBy w1 (some M) → w1.heap.size = W.heap.size → wpList Tryd.prog ops Q rest (a.put o.dst undef) w1) : wpList Tryd.prog ops Q (o :: rest) a W := by
  refine wpList_plain hgd fun K' hK' => ?_
  have hrun := run_insert hb q v hf
  unfold Oper.wp
  simp [execOp, ho, hm, hk, hv, hrun, Result.andThen]
  exact hK' _ _ (h _ (heap_setBlock_same hb _) ⟨rfl, rfl, rfl, by simp [setBlock], fun i _ hi => heap_setBlock_other hb _ (fun e => hi (by rw [e]))⟩ (by simp [setBlock]))

set_option maxHeartbeats 400000 in
set_option maxRecDepth 100000 in
theorem cell_fn (g : Nat) (w : World) :
    Calls Tryd.prog 26 #[fnV g] w fun e w' => e = .returned (cellV w.heap.size) ∧ w.alloc (.cells #[fnV g] 62) = w' := by
  unfold fnV cellV
  go_enter Tryd.func26, Tryd.ntmps26
  go_wp2_with fail
  go_ret
  exact ⟨rfl, rfl⟩
/-- While the map is being filled. -/
def MapSt (w : World) (es : Array MapEntry) (clock : Nat) (W : World) : Prop := W.heap[w.heap.size]? = some (.map es clock) ∧ Below w.heap.size w W ∧ w.heap.size + 1 ≤ W.heap.size
theorem MapSt.ins {w W w1 : World} {es es' : Array MapEntry} {c c' : Nat} (h : MapSt w es c W) (h1 : w1.heap[w.heap.size]? = some (.map es' c')) (hg : W.grownBy w1 (some w.heap.size)) : MapSt w es' c' w1 :=
  ⟨h1, h.2.1.grown hg (by have := h.2.2; omega) (fun k hk => by injection hk with hk; omega), Nat.le_trans h.2.2 hg.size⟩
theorem MapSt.alloc {w W : World} {es : Array MapEntry} {c : Nat} (h : MapSt w es c W) (o : Obj) : MapSt w es c (W.alloc o) :=
  ⟨blk_alloc h.1, h.2.1.alloc (by have := h.2.2; omega) _, by have := h.2.2; simp; omega⟩
def edEs (b1 b2 : Nat) : Array MapEntry := #[{ key := .int .i64 1, val := cellV b1, born := 0 }, { key := .int .i64 2, val := cellV b2, born := 1 }, { key := .int .i64 3, val := fnV 29, born := 2 }, { key := .int .i64 5, val := fnV 31, born := 3 },
  { key := .int .i64 6, val := fnV 32, born := 4 }, { key := .int .i64 7, val := fnV 33, born := 5 }, { key := .int .i64 8, val := fnV 34, born := 6 }]

set_option maxHeartbeats 4000000 in
set_option maxRecDepth 100000 in
theorem edits_any (w : World) :
    Calls Tryd.prog 14 #[] w fun e w' => ∃ b1 b2, e = .returned (.map (some w.heap.size)) ∧ w'.heap[w.heap.size]? = some (.map (edEs b1 b2) 7) ∧ w'.cell? ⟨b1, 0, none⟩ = some (fnV 27) ∧ w'.cell? ⟨b2, 0, none⟩ = some (fnV 28) ∧ Below w.heap.size w w' := by
  have hmm := @run_makeMap Tryd.prog
  go_enter Tryd.func14, Tryd.ntmps14
  go_wp2_with fail
  have hm0 : MapSt w #[] 0 (w.alloc (.map #[] 0)) := ⟨heap_alloc_new w _, (Below.refl _ w).alloc (Nat.le_refl _) _, by simp⟩
  have HM := Lib.hid hm0
  generalize w.alloc (.map #[] 0) = W0 at *
  clear hm0
  refine (cell_fn 27 _).mono ?_
  rintro e w1 ⟨rfl, rfl⟩
  have hc1 := heap_alloc_new W0 (.cells #[fnV 27] 62)
  have hm1 := HM.out.alloc (.cells #[fnV 27] 62)
  have hb1 := HM.out.2.2
  have HM1 := Lib.hid hm1
  have HC1 := Lib.hid hc1
  generalize W0.alloc (.cells #[fnV 27] 62) = W1 at *
  generalize W0.heap.size = b1 at *
  clear hm1 hc1 HM
  go_wp2_with (refine wpList_ins rfl (.tmp 1) _ (.tmp 2) rfl w.heap.size _ _ rfl HM1.out.1 1 rfl _ rfl rfl ?_; intro W2 hm2 hg2 hz2)
  have hm3 := HM1.out.ins hm2 hg2
  have HM2 := Lib.hid hm3
  have hc2 := (hg2.block b1 (Array.getElem?_eq_some_iff.1 HC1.out).1 (fun e => by injection e; omega)).trans HC1.out
  have HC2 := Lib.hid hc2
  clear hm2 hg2 hz2 HM1 HC1 hm3 hc2
  refine (cell_fn 28 _).mono ?_
  rintro e w3 ⟨rfl, rfl⟩
  have hc3 := heap_alloc_new W2 (.cells #[fnV 28] 62)
  have hc4 := blk_alloc (o := .cells #[fnV 28] 62) HC2.out
  have hm3 := HM2.out.alloc (.cells #[fnV 28] 62)
  have hb2 := HM2.out.2.2
  have HM3 := Lib.hid hm3
  have HC3 := Lib.hid hc3
  have HC4 := Lib.hid hc4
  generalize W2.alloc (.cells #[fnV 28] 62) = W3 at *
  generalize W2.heap.size = b2 at *
  clear hm3 hc3 hc4 HM2 HC2
  go_wp2_with (first | (refine wpList_ins rfl (.tmp 1) _ (.tmp 3) rfl w.heap.size _ _ rfl HM3.out.1 2 rfl _ rfl rfl ?_; intro W4 hm4 hg4 hz4) | (refine wpList_ins rfl (.tmp 1) _ _ rfl w.heap.size _ _ rfl hm4 3 rfl (fnV 29) rfl rfl ?_; intro W5 hm5 hg5 hz5) | (refine wpList_ins rfl (.tmp 1) _ _ rfl w.heap.size _ _ rfl hm5 5 rfl (fnV 31) rfl rfl ?_; intro W6 hm6 hg6 hz6) | (refine wpList_ins rfl (.tmp 1) _ _ rfl w.heap.size _ _ rfl hm6 6 rfl (fnV 32) rfl rfl ?_; intro W7 hm7 hg7 hz7) | (refine wpList_ins rfl (.tmp 1) _ _ rfl w.heap.size _ _ rfl hm7 7 rfl (fnV 33) rfl rfl ?_; intro W8 hm8 hg8 hz8) | (refine wpList_ins rfl (.tmp 1) _ _ rfl w.heap.size _ _ rfl hm8 8 rfl (fnV 34) rfl rfl ?_; intro W9 hm9 hg9 hz9))
  go_ret
  have h4 := HM3.out.ins hm4 hg4
  have h5 := h4.ins hm5 hg5
  have h6 := h5.ins hm6 hg6
  have h7 := h6.ins hm7 hg7
  have h8 := h7.ins hm8 hg8
  have h9 := h8.ins hm9 hg9
  have hk : ∀ b, w.heap.size < b → b < W3.heap.size → W9.heap[b]? = W3.heap[b]? := fun b h1 h2 => by
    have hne : some b ≠ some w.heap.size := fun e => by injection e; omega
    rw [hg9.block b (by omega) hne, hg8.block b (by omega) hne, hg7.block b (by omega) hne, hg6.block b (by omega) hne, hg5.block b (by omega) hne, hg4.block b (by omega) hne]
  exact ⟨b1, b2, rfl, h9.1, blk_cell ((hk b1 (by omega) (Array.getElem?_eq_some_iff.1 HC4.out).1).trans HC4.out) 0 _ rfl, blk_cell ((hk b2 (by omega) (Array.getElem?_eq_some_iff.1 HC3.out).1).trans HC3.out) 0 _ rfl, h9.2.1⟩

/-! Looking it up. -/
def edFn (b1 b2 : Nat) (k : Int) : Option Value := if k = 1 then some (cellV b1) else if k = 2 then some (cellV b2) else if k = 3 then some (fnV 29) else if k = 5 then some (fnV 31) else if k = 6 then some (fnV 32) else if k = 7 then some (fnV 33) else if k = 8 then some (fnV 34) else none
theorem find_ed (b1 b2 : Nat) (k : Int) : ∃ r, Instr.findNow (.int .i64) (.int .i64 k) (edEs b1 b2).toList 0 = some r ∧ r.map (·.2) = edFn b1 b2 k := by
  simp only [edEs, Instr.findNow, Instr.sameNow, edFn]
  by_cases h1 : k = 1
  · subst h1; exact ⟨_, rfl, rfl⟩
  · by_cases h2 : k = 2
    · subst h2; exact ⟨_, rfl, rfl⟩
    · by_cases h3 : k = 3
      · subst h3; exact ⟨_, rfl, rfl⟩
      · by_cases h5 : k = 5
        · subst h5; exact ⟨_, rfl, rfl⟩
        · by_cases h6 : k = 6
          · subst h6; exact ⟨_, rfl, rfl⟩
          · by_cases h7 : k = 7
            · subst h7; exact ⟨_, rfl, rfl⟩
            · by_cases h8 : k = 8
              · subst h8; exact ⟨_, rfl, rfl⟩
              · have e1 : (k == 1) = false := beq_eq_false_iff_ne.2 h1
                have e2 : (k == 2) = false := beq_eq_false_iff_ne.2 h2
                have e3 : (k == 3) = false := beq_eq_false_iff_ne.2 h3
                have e5 : (k == 5) = false := beq_eq_false_iff_ne.2 h5
                have e6 : (k == 6) = false := beq_eq_false_iff_ne.2 h6
                have e7 : (k == 7) = false := beq_eq_false_iff_ne.2 h7
                have e8 : (k == 8) = false := beq_eq_false_iff_ne.2 h8
                simp [e1, e2, e3, e5, e6, e7, e8, h1, h2, h3, h5, h6, h7, h8]
theorem run_look {W : World} {M b1 b2 c : Nat} (hb : W.heap[M]? = some (.map (edEs b1 b2) c)) (k : Int) :
    (Instr.lookup 46 (.map (some M)) (.int .i64 k) true).run Tryd.prog W = .ok (.tuple #[(edFn b1 b2 k).getD .nilFunc, .bool (edFn b1 b2 k).isSome]) W := by
  obtain ⟨r, h1, h2⟩ := find_ed b1 b2 k
  have hz : (zeroValue 44).run Tryd.prog W = .ok .nilFunc W := by kernel_rfl
  have hck : ∀ n, (Instr.checkKey (edEs b1 b2).isEmpty (n + 1) 3 (.int .i64 k)).run Tryd.prog W = .ok () W := fun n => by simp [Instr.checkKey, run_underlying Tryd.underlying3]
  have hfk : (Instr.findKey 3 (.int .i64 k) (edEs b1 b2).toList).run Tryd.prog W = .ok r W := by
    simp [Instr.findKey, run_underlying Tryd.underlying3, h1]
  rw [← h2]
  cases r with
  | none => simp [Instr.lookup, run_underlying Tryd.underlying46, MapKept.run_getObj_map hb, hck 9999, hfk, hz, Result.andThen]
  | some p => simp [Instr.lookup, run_underlying Tryd.underlying46, MapKept.run_getObj_map hb, hck 9999, hfk, Result.andThen]
end Go.Proofs.YtghpolfmhnnbaaaDoor
