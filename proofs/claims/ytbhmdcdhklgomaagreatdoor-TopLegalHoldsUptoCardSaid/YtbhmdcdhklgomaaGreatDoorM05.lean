/-
  copy of elements of several cells.
-/
import Derived.Test.YtbhmdcdhklgomaaGreatDoorM02
import Derived.Laws.CopyRow
import Derived.Lib.Overlaps
import Derived.Lib.AppendZerosOnto
import Derived.Lib.SliceRun
import Derived.Laws.AppendOwnNone
namespace Go.Proofs.YtbhmdcdhklgomaaGreatDoor
open Go.RowKit Top

theorem run_copy_rowk {P : Program} (w : World) (dT sT ty elem : TypeId) (k g o dLen dCap : Nat) (a : Addr) (sLen sCap : Nat) (cur : Array Value) (t : TypeId) (cs : List Value) (m : Nat)
    (hu : P.underlying dT = some (.slice elem)) (hs : (P.info? elem).map (·.size) = some k)
    (hg : w.heap[g]? = some (.cells cur t (0, 0))) (hm : m = Nat.min sLen dLen) (hn : cs.length = m * k)
    (hsrc : ∀ j v, cs[j]? = some v → w.cell? (a.add j) = some v) (hfit : o + cs.length ≤ cur.size) (h1 : ∀ v ∈ cs, v.oneCell' = true) :
    (Builtin.copy_ #[dT, sT] ty #[.slice (some ⟨g, o, none⟩) dLen dCap, .slice (some a) sLen sCap]).run P w =
      .ok (goInt m) (w.setRow g (cur.toList.take o ++ cs ++ cur.toList.drop (o + cs.length)).toArray) := by
  have hl := run_loadCells_list (P := P) w a cs hsrc
  have hst := run_storeCells_at P g o t cs 0 cur w hg (by simpa using hfit) h1
  cases hq : P.info? elem with
  | none => simp [hq] at hs
  | some i =>
    have hi : i.size = k := by simpa [hq] using hs
    rw [hn] at hl
    simp [Builtin.copy_, run_underlying hu, Builtin.lenOf, Builtin.firstCells, sizeOf, typeInfo, hq, hi, ← hm, hl, hst]
/-- copy, where its run is known: as an operation, and as a step of a region that draws. -/
theorem wpList_copyR {P : Program} {w : World} {ops : Array Oper} {rest : List Oper} {o : Oper} {a : Act} {Q : Exit → Act → World → Prop} (hgd : o.guard = none) (d s : Operand) (T : TypeId)
    (ho : o.op = .call { callee := .builtin .copy, args := #[d, s], argTypes := #[T, T] }) (v u : Value) (hd : a.eval d = v) (hs : a.eval s = u) {v' : Value} {w' : World}
    (hr : ∀ ty, (Builtin.copy_ #[T, T] ty #[v, u]).run P w = .ok v' w') (h : wpList P ops Q rest (a.put o.dst v') w') : wpList P ops Q (o :: rest) a w := by
  refine wpList_plain hgd fun K hK => ?_
  have hrun := hr o.type
  unfold Oper.wp
  simp [execOp, ho, resolve, invoke, builtin, hd, hs, hrun, Result.andThen]
  exact hK _ _ h
theorem step_copyR {P : Program} {ops : Array Oper} {o : Oper} {a : Act} {w : World} {K : Act → World → Prop} {Q : Exit → Act → World → Prop} {E : Prop} (hgd : o.guard = none) (d s : Operand) (T : TypeId)
    (ho : o.op = .call { callee := .builtin .copy, args := #[d, s], argTypes := #[T, T] }) (v u : Value) (hd : a.eval d = v) (hs : a.eval s = u) {v' : Value} {w' : World}
    (hr : ∀ ty, (Builtin.copy_ #[T, T] ty #[v, u]).run P w = .ok v' w') (h : K (a.put o.dst v') w') :
    if Region.wanted o (yielded ops a.tmps) = true then Oper.wp P o a w K Q else E := by
  have hw : Region.wanted o (yielded ops a.tmps) = true := by simp [Region.wanted, hgd]
  rw [if_pos hw]
  have hrun := hr o.type
  unfold Oper.wp
  simp [execOp, ho, resolve, invoke, builtin, hd, hs, hrun, Result.andThen]
  exact h
/-- One element put into a row, in place: the cells. -/
def put1 (cur xs vs : List Value) (a : Nat) : List Value := cur.take (a + vs.length) ++ xs.drop a ++ cur.drop (a + vs.length + (xs.drop a).length)
def put2 (c : List Value) (vs : List Value) (a : Nat) : List Value := c.take a ++ vs ++ c.drop (a + vs.length)
theorem put_in {cur xs vs : List Value} {a N : Nat} (hx : cur.take N = xs) (ha : a ≤ N) (hN : N + vs.length ≤ cur.length) :
    (put2 (put1 cur xs vs a) vs a).length = cur.length ∧ (put1 cur xs vs a).length = cur.length ∧ (put2 (put1 cur xs vs a) vs a).take (N + vs.length) = xs.take a ++ (vs ++ xs.drop a) := by
  have hxl : xs.length = N := by rw [← hx, List.length_take]; omega
  have h1 : (put1 cur xs vs a).length = cur.length := by
    unfold put1
    simp only [List.length_append, List.length_take, List.length_drop]
    omega
  have h2 : (put1 cur xs vs a).take a = xs.take a := by
    unfold put1
    rw [List.append_assoc, List.take_append_of_le_length (by rw [List.length_take]; omega), List.take_take, Nat.min_eq_left (by omega), ← hx, List.take_take, Nat.min_eq_left ha]
  have h3 : (put1 cur xs vs a).drop (a + vs.length) = xs.drop a ++ cur.drop (a + vs.length + (xs.drop a).length) := by
    unfold put1
    rw [List.append_assoc, List.drop_left' (by rw [List.length_take]; omega)]
  have hl2 : (xs.take a).length = a := by rw [List.length_take]; omega
  refine ⟨?_, h1, ?_⟩
  · unfold put2
    simp only [List.length_append, List.length_take, List.length_drop, h1]
    omega
  · unfold put2
    rw [h2, h3, List.append_assoc, ← List.append_assoc vs, ← List.append_assoc (xs.take a)]
    refine List.take_left' ?_
    simp only [List.length_append, hl2, List.length_drop]
    omega
/-- .. and in a new row: first the element, then what stood behind it. -/
def put3 (c xs vs : List Value) (a : Nat) : List Value := c.take (a + vs.length) ++ xs.drop a ++ c.drop (a + vs.length + (xs.drop a).length)
theorem put_new {c xs vs : List Value} {a N : Nat} (hx : c.take a = xs.take a) (hxl : xs.length = N) (ha : a ≤ N) (hN : N + vs.length ≤ c.length) :
    (put3 (put2 c vs a) xs vs a).length = c.length ∧ (put2 c vs a).length = c.length ∧ (put3 (put2 c vs a) xs vs a).take (N + vs.length) = xs.take a ++ (vs ++ xs.drop a) := by
  have hl2 : (xs.take a).length = a := by rw [List.length_take]; omega
  have h1 : (put2 c vs a).length = c.length := by
    unfold put2
    simp only [List.length_append, List.length_take, List.length_drop]
    omega
  have h2 : (put2 c vs a).take (a + vs.length) = xs.take a ++ vs := by
    unfold put2
    rw [hx]
    exact List.take_left' (by rw [List.length_append, hl2])
  refine ⟨?_, h1, ?_⟩
  · unfold put3
    simp only [List.length_append, List.length_take, List.length_drop, h1]
    omega
  · unfold put3
    rw [h2, show ∀ A B C D : List Value, A ++ B ++ C ++ D = A ++ (B ++ C) ++ D from fun A B C D => by simp [List.append_assoc]]
    refine List.take_left' ?_
    simp only [List.length_append, hl2, List.length_drop]
    omega
end Go.Proofs.YtbhmdcdhklgomaaGreatDoor
