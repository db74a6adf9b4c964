/-
  Small lemmas on strings, worlds and bytes.
-/
import Derived.Test.YtghpolfmhnnbaaaDoorOwn
import Derived.Test.YtghpolfmhnnbaaaDoorCellsPlain
import Derived.Deep.LoopGhost
import Derived.Deep.RegionLaw
import Derived.Deep.AppendLies
import Derived.Deep.QuietTactic
import Derived.BigQuiet
import Derived.BigRegion
import Derived.RegionTactic
import Derived.Outline
namespace Go.Proofs.YtghpolfmhnnbaaaDoor
open Go.RowKit

theorem ret_int {k : IntKind} {a b : Int} (h : a = b) : Ending.returned (.int k a) = .returned (.int k b) := by rw [h]
theorem ret_int2 {k : IntKind} {a b : Int} {v : Value} (h : a = b) : Ending.returned (.tuple #[.int k a, v]) = .returned (.tuple #[.int k b, v]) := by rw [h]
theorem ret_str {a b : List UInt8} (h : a = b) : Ending.returned (.string ⟨a.toArray⟩) = .returned (.string ⟨b.toArray⟩) := by rw [h]
theorem toList_length (s : ByteArray) : s.data.toList.length = s.size := by rw [Array.length_toList]; rfl
theorem mk_toList (s : ByteArray) : (⟨s.data.toList.toArray⟩ : ByteArray) = s := by cases s; simp
theorem mk_size (l : List UInt8) : (⟨l.toArray⟩ : ByteArray).size = l.length := by simp [ByteArray.size]
theorem of_toList {a b : ByteArray} (h : a.data.toList = b.data.toList) : a = b := by rw [← mk_toList a, ← mk_toList b, h]
theorem get_of_lt (s : ByteArray) (k : Nat) (h : k < s.size) : s.data.toList[k]? = some s[k] := by
  rw [List.getElem?_eq_getElem (by rw [toList_length]; exact h)]
  rfl
theorem get_data (s : ByteArray) (k : Nat) (h : k < s.size) : s.data.toList[k]? = some s[k] := get_of_lt s k h
theorem app_data (a b : ByteArray) : (a ++ b).data.toList = a.data.toList ++ b.data.toList := by rw [ByteArray.data_append, Array.toList_append]
theorem bchain {w w1 w2 : World} (h : Below w.heap.size w w1) (k : Below w1.heap.size w1 w2) : Below w.heap.size w w2 := h.trans (k.mono h.size)
theorem below_drewN {B : Nat} {a w : World} (h : Below B a w) (n : Nat) : Below B a (w.drewN n) := ⟨h.os, h.tape, h.output, h.size, h.block⟩
theorem bdrew {w w1 : World} (h : Below w.heap.size w w1) (n : Nat) : Below w.heap.size w (w1.drewN n) := below_drewN h n
theorem u8_nat {z : Int} (h : (Lit.int .u8 z).wf = true) : ∃ m : Nat, z = m ∧ m < 256 := by
  have h3 : 0 ≤ z ∧ z ≤ 255 := by simpa [Lit.wf, IntKind.min, IntKind.max, IntKind.signed, IntKind.bits] using h
  exact ⟨z.toNat, by omega, by omega⟩
theorem u16_nat {z : Int} (h : (Lit.int .u16 z).wf = true) : ∃ m : Nat, z = m ∧ m < 65536 := by
  have h3 : 0 ≤ z ∧ z ≤ 65535 := by simpa [Lit.wf, IntKind.min, IntKind.max, IntKind.signed, IntKind.bits] using h
  exact ⟨z.toNat, by omega, by omega⟩
theorem i64_in {z : Int} (h : (Lit.int .i64 z).wf = true) : -9223372036854775808 ≤ z ∧ z ≤ 9223372036854775807 := by
  simpa [Lit.wf, IntKind.min, IntKind.max, IntKind.signed, IntKind.bits] using h
theorem trim_empty (s : ByteArray) : (⟨(Lib.trimS s.data.toList [48, 49, 63]).toArray⟩ : ByteArray).toList.isEmpty = Cells.ok s.data.toList := by
  rw [Lib.toList_data, Bool.eq_iff_iff, List.isEmpty_iff]
  exact Cells.trim_ok _
/-! The tests on bytes, as the walk spells them. -/
theorem int_beq (a b : Nat) : ((a : Int) == (b : Int)) = (a == b) := by
  rw [Bool.eq_iff_iff, beq_iff_eq, beq_iff_eq]
  omega
theorem byte_beq (c d : UInt8) : ((c.toNat : Int) == (d.toNat : Int)) = (c == d) := by
  rw [int_beq, Bool.eq_iff_iff, beq_iff_eq, beq_iff_eq, UInt8.toNat_inj]
theorem byte_bne (c d : UInt8) : ((c.toNat : Int) != (d.toNat : Int)) = (c != d) := by
  rw [bne, bne, byte_beq]
theorem beq48 (c : UInt8) : ((c.toNat : Int) == 48) = (c == 48) := byte_beq c 48
theorem beq49 (c : UInt8) : ((c.toNat : Int) == 49) = (c == 49) := byte_beq c 49
theorem beq63 (c : UInt8) : ((c.toNat : Int) == 63) = (c == 63) := byte_beq c 63
theorem bne48 (c : UInt8) : ((c.toNat : Int) != 48) = (c != 48) := byte_bne c 48
theorem bne49 (c : UInt8) : ((c.toNat : Int) != 49) = (c != 49) := byte_bne c 49
theorem bne63 (c : UInt8) : ((c.toNat : Int) != 63) = (c != 63) := byte_bne c 63
/-- append of some elements, which the walk has laid in a block of their own. -/
theorem wpList_appN {P : Program} (E T : TypeId) (z : Value) (bytes : Nat) (hinfo : (P.info? E).map (fun i => (i.zero, i.size, i.bytes)) = some (some z, 1, bytes)) (hT : P.underlying T = some (.slice E)) (hz : z.cells.size = 1)
    {ops : Array Oper} {rest : List Oper} {o : Oper} {a : Act} {Q : Exit → Act → World → Prop} {w : World} (hgd : o.guard = none) (s x : Operand)
    (ho : o.op = .call { callee := .builtin .append, args := #[s, x], argTypes := #[T, T] }) (B : Nat) (v : Value) (xs : List Value) (hs : a.eval s = v) (hown : Own w B E v xs) (u : Value) (us : List Value) (m : Nat) (hm : m = us.length + 1)
    (hx : a.eval x = .slice (some ⟨w.heap.size, 0, none⟩) m m) (h1 : ∀ y ∈ u :: us, y.oneCell' = true) (h63 : xs.length + m ≤ 9223372036854775807) (hbytes : (xs.length + m) * bytes ≤ 140737488355328) (hB : B ≤ w.heap.size)
    (h : ∀ v' w', Own w' B E v' (xs ++ u :: us) → Below B w w' → w.grownBy w' v.ownBlock → wpList P ops Q rest (a.put o.dst v') w') :
    wpList P ops Q (o :: rest) a (w.alloc (.cells (u :: us).toArray E)) := by
  subst hm
  obtain ⟨i, hi, hz0, hz1, hz2⟩ := info_parts hinfo
  refine wpList_append_own _ hgd s x T ho B E i z 1 bytes hT hi hz0 hz1 hz2 hz (by omega) v xs.length xs hs (hown.alloc _) ⟨w.heap.size, 0, none⟩ (us.length + 1) (us.length + 1) (u :: us) hx ?_ ?_ ?_ ?_ hbytes (by simp; omega) ?_
  · simp
  · intro j y hj
    have e : (w.alloc (.cells (u :: us).toArray E)).heap[w.heap.size]? = some (.cells (u :: us).toArray E (0, 0)) := heap_alloc_new w _
    have ea : (⟨w.heap.size, 0, none⟩ : Addr).add j = ⟨w.heap.size, j, none⟩ := by
      cases j <;> simp [Addr.add]
    rw [ea]
    unfold World.cell?
    simp only [e]
    simpa using hj
  · intro y hy
    exact h1 y hy
  · unfold maxLen
    omega
  · intro v' w' hown' hg _
    have hg' : w.grownBy w' v.ownBlock := ⟨hg.os, hg.tape, hg.output, Nat.le_trans (by simp) hg.size, fun k hk hne => (hg.block k (by simp; omega) hne).trans (Below.heap_alloc w _ k hk)⟩
    refine h v' w' ?_ ?_ hg'
    · unfold Own
      rw [List.length_append]
      exact hown'
    · exact (Below.refl B w).grown hg' hB fun k hk => (World.ownsRow.lt hown k hk).1
/-- The same as a step of a region that draws. -/
theorem step_app1 {P : Program} (E T : TypeId) (z : Value) (bytes : Nat) (hinfo : (P.info? E).map (fun i => (i.zero, i.size, i.bytes)) = some (some z, 1, bytes)) (hT : P.underlying T = some (.slice E)) (hz : z.cells.size = 1)
    {ops : Array Oper} {o : Oper} {a : Act} {K : Act → World → Prop} {Q : Exit → Act → World → Prop} {X : Prop} {w W : World} (hgd : o.guard = none) (s x : Operand)
    (ho : o.op = .call { callee := .builtin .append, args := #[s, x], argTypes := #[T, T] }) (B : Nat) (v : Value) (xs : List Value) (hs : a.eval s = v) (hown : Own w B E v xs) (u : Value) (hW : W = (w.alloc (.cells #[u] E)).drew)
    (hx : a.eval x = .slice (some ⟨w.heap.size, 0, none⟩) 1 1) (h1 : u.oneCell' = true) (h63 : xs.length + 1 ≤ 9223372036854775807) (hbytes : (xs.length + 1) * bytes ≤ 140737488355328) (hB : B ≤ w.heap.size)
    (h : ∀ v' w', Own w' B E v' (xs ++ [u]) → Below B w w' → w.grownBy w' v.ownBlock → K (a.put o.dst v') w') :
    if Region.wanted o (yielded ops a.tmps) = true then Oper.wp P o a W K Q else X := by
  subst hW
  obtain ⟨i, hi, hz0, hz1, hz2⟩ := info_parts hinfo
  have hw : Region.wanted o (yielded ops a.tmps) = true := by simp [Region.wanted, hgd]
  rw [if_pos hw]
  refine wp_append_lies _ s x T ho B E i z 1 bytes hT hi hz0 hz1 hz2 hz (by omega) v xs.length xs hs (hown.alloc _) ⟨w.heap.size, 0, none⟩ 1 1 [u] hx rfl ?_ ?_ (by omega) (by unfold maxLen; omega) hbytes (by simp [World.drew]; omega) _ rfl ?_
  · exact cell_one_new _ _ _
  · intro y hy
    rw [List.mem_singleton] at hy
    rw [hy]
    exact h1
  · intro g cap w' hown' hg _ _
    have hg' : w.grownBy w' v.ownBlock := ⟨hg.os, hg.tape, hg.output, Nat.le_trans (by simp [World.drew]) hg.size, fun k hk hne => (hg.block k (by simp [World.drew]; omega) hne).trans (Below.heap_alloc w _ k hk)⟩
    refine h _ w' ?_ ?_ hg'
    · unfold Own
      rw [List.length_append]
      exact hown'
    · exact (Below.refl B w).grown hg' hB fun k hk => (World.ownsRow.lt hown k hk).1
/-- make([]T, 0, n). -/
theorem run_make_cap {P : Program} (t e : TypeId) (z : Value) (bytes : Nat) (ht : P.underlying t = some (.slice e)) (hinfo : (P.info? e).map (fun i => (i.zero, i.size, i.bytes)) = some (some z, 1, bytes)) (hz1 : z.cells = #[z])
    (kl kc : IntKind) (n : Nat) (C : Int) (hC : C = n) (hbytes : bytes * n ≤ 281474976710656) (h63 : n ≤ 9223372036854775807) (w : World) :
    (Instr.makeSlice t (.int kl 0) (.int kc C)).run P w = .ok (.slice (some ⟨w.heap.size, 0, none⟩) 0 n) (w.alloc (.cells (madeCells #[z] n) e)) := by
  subst hC
  obtain ⟨i, hi, hz, hs, hb⟩ := info_parts hinfo
  have hb' : (i.bytes : Int) * (n : Int) ≤ 281474976710656 := by
    rw [hb]
    have h : ((bytes * n : Nat) : Int) ≤ 281474976710656 := by omega
    rwa [Int.natCast_mul] at h
  have hr := run_make (P := P) w t e i z ht hi hz kl kc 0 n (by omega) (by omega) hb' (by omega)
  simp only [Int.toNat_natCast, hs, Nat.mul_one, hz1] at hr
  exact hr
/-- string([]byte{x, y}), behind a draw. -/
theorem Row.lit2 {w : World} {E : TypeId} (l : List UInt8) (cs : Array Value) (h : cs.toList = bytesL l) : Row (w.alloc (.cells cs E)) w.heap.size E (bytesL l) :=
  ⟨cs, _, heap_alloc_new w _, fun i _ => by rw [← Array.getElem?_toList, h], fun i _ => by simp⟩
end Go.Proofs.YtghpolfmhnnbaaaDoor
