/-
  Slices of one-cell elements that the call itself has made: what they hold, stores into them, append of one element, a block of bytes turned into a string. Of whatever program.
-/
import Derived.WalkKit
import Derived.WalkSpells
import Derived.WalkLawsBesides
import Derived.Lib.Hide
import Derived.Laws.BytesArg
import Derived.Laws.IdiomStrings
import Derived.Lib.SlTrimSet
import Derived.Deep.LoopGhost
import Derived.Deep.RegionLaw
import Derived.Deep.AppendLies
import Derived.Deep.QuietTactic
import Derived.BigQuiet
import Derived.BigRegion
import Derived.RegionTactic
import Derived.Outline
import Derived.Lib.SplitLaws
import Derived.Lib.Join
import Derived.Sort.Walk0
namespace Go.Proofs.YtbhmdcdhklgomaaGreatDoor
open Go.RowKit

/-- The slice v owns, among the blocks from B on, a row that begins with the cells xs, one for each element. -/
def Own (w : World) (B : Nat) (E : TypeId) (v : Value) (xs : List Value) : Prop := w.ownsRow B E 1 v xs.length xs

section
variable {w w' : World} {B : Nat} {E : TypeId} {v : Value} {xs : List Value}

theorem Own.form (h : Own w B E v xs) : ∃ ao cap, v = .slice ao xs.length cap ∧ (0 < xs.length → ∃ g, ao = some ⟨g, 0, none⟩) := by
  rcases h.2 with ⟨rfl, hn⟩ | ⟨g, cap, cur, rfl, _⟩
  · exact ⟨none, 0, by rw [hn], fun h => by omega⟩
  · exact ⟨_, cap, rfl, fun _ => ⟨g, rfl⟩⟩
theorem Own.cell {g n cap : Nat} (h : Own w B E (.slice (some ⟨g, 0, none⟩) n cap) xs) (i : Nat) (u : Value) (hi : xs[i]? = some u) : w.cell? ⟨g, i, none⟩ = some u := by
  have hc := World.ownsRow.cells h (g := g) rfl i u hi
  rwa [Addr.add_lit, Nat.zero_add] at hc
theorem Own.frozen {g n cap : Nat} (h : Own w B E (.slice (some ⟨g, 0, none⟩) n cap) xs) (i : Nat) : w.frozen? ⟨g, i, none⟩ = false := by
  rcases h.2 with ⟨e, _⟩ | ⟨g', cap', cur, e, _, hh, _⟩
  · cases e
  · injection e with e1
    injection e1 with e1
    injection e1 with e1
    subst e1
    simp [World.frozen?, hh]
theorem Own.lt {g n cap : Nat} (h : Own w B E (.slice (some ⟨g, 0, none⟩) n cap) xs) : B ≤ g ∧ g < w.heap.size := World.ownsRow.lt h g rfl
theorem Own.len {ao : Option Addr} {n cap : Nat} (h : Own w B E (.slice ao n cap) xs) : n = xs.length := by
  obtain ⟨ao', cap', e, _⟩ := h.form
  injection e
theorem Own.addr {ao : Option Addr} {n cap : Nat} (h : Own w B E (.slice ao n cap) xs) (hx : 0 < xs.length) : ∃ g, ao = some ⟨g, 0, none⟩ := by
  obtain ⟨ao', cap', e, hg⟩ := h.form
  injection e with e1
  rw [e1]
  exact hg hx
theorem Own.below {B' : Nat} (h : Own w B E v xs) (hb : Below B' w w') (hB : w.heap.size ≤ B') : Own w' B E v xs := by
  refine ⟨h.1, ?_⟩
  rcases h.2 with hn | ⟨g, cap, cur, rfl, h1, hh, rest⟩
  · exact .inl hn
  · exact .inr ⟨g, cap, cur, rfl, h1, (hb.block g (by have := (Array.getElem?_eq_some_iff.1 hh).1; omega)).trans hh, rest⟩
theorem Own.drewN (h : Own w B E v xs) (n : Nat) : Own (w.drewN n) B E v xs := h
theorem Own.alloc (h : Own w B E v xs) (o : Obj) : Own (w.alloc o) B E v xs := World.ownsRow.alloc h o
theorem Own.store {g n cap : Nat} (h : Own w B E (.slice (some ⟨g, 0, none⟩) n cap) xs) (i : Nat) (u : Value) : Own (w.setCell ⟨g, i, none⟩ u) B E (.slice (some ⟨g, 0, none⟩) n cap) (xs.set i u) := by
  have hn := h.len
  subst hn
  have := (World.ownsRow.stored h i u).1
  unfold Own
  rw [List.length_set]
  exact this
/-- A store into another block. -/
theorem Own.far {p : Addr} (h : Own w B E v xs) (hp : ∀ g, v.ownBlock = some g → g ≠ p.block) (u : Value) : Own (w.setCell p u) B E v xs := by
  refine ⟨h.1, ?_⟩
  rcases h.2 with hn | ⟨g, cap, cur, rfl, h1, hh, rest⟩
  · exact .inl hn
  · exact .inr ⟨g, cap, cur, rfl, h1, (Below.heap_setCell w p u g (hp g rfl)).trans hh, rest⟩
/-- Behind an append to another own slice. -/
theorem Own.grown {row : Option Nat} (h : Own w B E v xs) (hg : w.grownBy w' row) (hne : v.ownBlock = none ∨ v.ownBlock ≠ row) : Own w' B E v xs := World.ownsRow.kept h hg hne
theorem Own.more {B' : Nat} (h : Own w B E v xs) (hB : B' ≤ B) : Own w B' E v xs := by
  refine ⟨h.1, ?_⟩
  rcases h.2 with hn | ⟨g, cap, cur, rfl, h1, rest⟩
  · exact .inl hn
  · exact .inr ⟨g, cap, cur, rfl, by omega, rest⟩
theorem Own.nil (w : World) (B : Nat) (E : TypeId) : Own w B E (.slice none 0 0) [] := World.ownsRow_nil w B E 1
theorem Own.made (w : World) (B : Nat) (E : TypeId) (z : Value) (n : Nat) (hB : B ≤ w.heap.size) (hn : n ≤ maxLen) : Own (w.alloc (.cells (madeCells #[z] n) E)) B E (.slice (some ⟨w.heap.size, 0, none⟩) n n) (List.replicate n z) := by
  have h := World.ownsRow_lit (e := E) (size := 1) w (madeCells #[z] n) n hB hn (by rw [size_madeCells, Nat.mul_one])
  rw [toList_madeCells_one] at h
  unfold Own
  rw [List.length_replicate]
  exact h
/-- make with a capacity. -/
theorem Own.made_cap (w : World) (B : Nat) (E : TypeId) (cs : Array Value) (cap : Nat) (hB : B ≤ w.heap.size) (hm : cap ≤ maxLen) (hs : cs.size = cap) : Own (w.alloc (.cells cs E)) B E (.slice (some ⟨w.heap.size, 0, none⟩) 0 cap) [] :=
  World.ownsRow_made w cs cap hB hm (by rw [hs, Nat.mul_one])
/-- A literal with elements. -/
theorem Own.lit (w : World) (B : Nat) (E : TypeId) (cs : Array Value) (n : Nat) (hB : B ≤ w.heap.size) (hn : n ≤ maxLen) (hs : cs.size = n) : Own (w.alloc (.cells cs E)) B E (.slice (some ⟨w.heap.size, 0, none⟩) n n) cs.toList := by
  have h := World.ownsRow_lit (e := E) (size := 1) w cs n hB hn (by omega)
  unfold Own
  rw [Array.length_toList, hs]
  exact h
end

/-- The cells of bytes, and of numbers. -/
def bytesL (l : List UInt8) : List Value := l.map fun c => Value.int .u8 c.toNat
theorem bytesL_length (l : List UInt8) : (bytesL l).length = l.length := by simp [bytesL]
theorem bytesL_get (l : List UInt8) (i : Nat) (h : i < l.length) : (bytesL l)[i]? = some (.int .u8 (l.getD i 0).toNat) := by
  simp [bytesL, List.getD_eq_getElem?_getD, h]
theorem nums_back (l : List UInt8) : ((l.map fun c => (c.toNat : Int)).map fun n => UInt8.ofNat n.toNat) = l := by
  rw [List.map_map]
  refine (List.map_congr_left fun c _ => ?_).trans (List.map_id l)
  simp

/-- string(b). -/
theorem conv_own {P : Program} (T E S : TypeId) (hT : P.underlying T = some (.slice E)) (hE : P.underlying E = some (.int .u8)) (hS : P.underlying S = some .string) {w : World} {B : Nat} {v : Value} {l : List UInt8} (h : Own w B E v (bytesL l)) :
    (convert T S v).run P w = .ok (.string ⟨l.toArray⟩) w := by
  have hl := bytesL_length l
  rcases h.2 with ⟨rfl, hn⟩ | ⟨g, cap, cur, rfl, _⟩
  · have e : l = [] := List.eq_nil_of_length_eq_zero (by omega)
    subst e
    exact run_convert_bytes_nil w T E hT hE 0 0 S hS
  · have e := run_convert_bytes_arg (P := P) w T E hT hE g 0 (bytesL l).length cap (l.map fun c => (c.toNat : Int)) (by simp [bytesL]) (fun i hi => by
      rw [Nat.zero_add, h.cell i _ (bytesL_get l i (by omega))]
      simp [List.getD_eq_getElem?_getD, show i < l.length by omega]) S hS
    rw [e]
    unfold strOfNums
    rw [nums_back]

/-- Block g is a row of the type E that begins with the cells xs, none of which is frozen. -/
def Row (w : World) (g : Nat) (E : TypeId) (xs : List Value) : Prop :=
  ∃ cs m, w.heap[g]? = some (.cells cs E m) ∧ (∀ i, i < xs.length → cs[i]? = xs[i]?) ∧ ∀ i, i < xs.length → ¬ (m.1 ≤ i ∧ i < m.2)

section
variable {w w' : World} {g : Nat} {E : TypeId} {xs : List Value}
theorem Row.lt (h : Row w g E xs) : g < w.heap.size := by
  obtain ⟨cs, m, hh, _⟩ := h
  exact (Array.getElem?_eq_some_iff.1 hh).1
theorem Row.cell (h : Row w g E xs) (i : Nat) (u : Value) (hi : xs[i]? = some u) : w.cell? ⟨g, i, none⟩ = some u := by
  obtain ⟨cs, m, hh, hc, _⟩ := h
  have hlt : i < xs.length := (List.getElem?_eq_some_iff.1 hi).1
  simp [World.cell?, hh, hc i hlt, hi]
theorem Row.frozen (h : Row w g E xs) (i : Nat) (hi : i < xs.length) : w.frozen? ⟨g, i, none⟩ = false := by
  obtain ⟨cs, m, hh, _, hm⟩ := h
  have := hm i hi
  obtain ⟨lo, hi'⟩ := m
  simp only [World.frozen?, hh]
  simpa using this
theorem Row.of_block (h : Row w g E xs) (e : w'.heap[g]? = w.heap[g]?) : Row w' g E xs := by
  obtain ⟨cs, m, hh, r⟩ := h
  exact ⟨cs, m, e.trans hh, r⟩
theorem Row.below {B : Nat} (h : Row w g E xs) (hb : Below B w w') (hB : g < B) : Row w' g E xs := h.of_block (hb.block g hB)
theorem Row.drew (h : Row w g E xs) : Row w.drew g E xs := h
theorem Row.drewN (h : Row w g E xs) (n : Nat) : Row (w.drewN n) g E xs := h
theorem Row.alloc (h : Row w g E xs) (o : Obj) : Row (w.alloc o) g E xs := h.of_block (Below.heap_alloc w o g h.lt)
theorem Row.far {p : Addr} (h : Row w g E xs) (hp : g ≠ p.block) (u : Value) : Row (w.setCell p u) g E xs := h.of_block (Below.heap_setCell w p u g hp)
theorem Row.store (h : Row w g E xs) (i : Nat) (u : Value) : Row (w.setCell ⟨g, i, none⟩ u) g E (xs.set i u) := by
  obtain ⟨cs, m, hh, hc, hm⟩ := h
  refine ⟨cs.setIfInBounds i u, m, by simp [World.setCell, Array.getElem?_modify, hh], fun j hj => ?_, fun j hj => hm j (by simpa using hj)⟩
  rw [List.length_set] at hj
  have hlt : j < cs.size := by
    have := hc j hj
    rw [List.getElem?_eq_getElem hj] at this
    exact (Array.getElem?_eq_some_iff.1 this).1
  rw [Array.getElem?_setIfInBounds, List.getElem?_set]
  by_cases e : i = j
  · subst e
    simp [hlt, hj]
  · rw [if_neg e, if_neg e, hc j hj]
theorem Row.made (w : World) (E : TypeId) (z : Value) (n : Nat) : Row (w.alloc (.cells (madeCells #[z] n) E)) w.heap.size E (List.replicate n z) :=
  ⟨_, _, heap_alloc_new w _, fun i hi => by
    rw [← Array.getElem?_toList, toList_madeCells_one], fun i _ => by simp⟩
theorem Own.row {B n cap : Nat} (h : Own w B E (.slice (some ⟨g, 0, none⟩) n cap) xs) : Row w g E xs := by
  rcases h.2 with ⟨e, _⟩ | ⟨g', cap', cur, e, _, hh, _, _, _, ht⟩
  · cases e
  · injection e with e1
    injection e1 with e1
    injection e1 with e1
    subst e1
    refine ⟨cur, _, hh, fun i hi => ?_, fun i _ => by simp⟩
    rw [← Array.getElem?_toList, ← ht, List.getElem?_take, if_pos (by omega)]
end

end Go.Proofs.YtbhmdcdhklgomaaGreatDoor

/-
  Plain mathematics of layer 1: cells. No program in sight.
-/
namespace Go.Proofs.YtbhmdcdhklgomaaGreatDoor.Cells

def isCell (c : UInt8) : Bool := c == 48 || c == 49 || c == 63
def ok (l : List UInt8) : Bool := l.all isCell
/-- What Check answers. -/
def err (l : List UInt8) : Int := if ok l then 0 else 3

theorem dropWhile_nil {α : Type} (p : α → Bool) (l : List α) : l.dropWhile p = [] ↔ l.all p = true := by
  induction l with
  | nil => simp
  | cons x l ih =>
    by_cases h : p x = true
    · simp [h, ih]
    · simp [h]
theorem dropWhile_head {α : Type} (p : α → Bool) (l : List α) (x : α) (r : List α) (h : l.dropWhile p = x :: r) : p x = false := by
  induction l with
  | nil => simp at h
  | cons y l ih =>
    by_cases hy : p y = true
    · rw [List.dropWhile_cons_of_pos hy] at h
      exact ih h
    · rw [List.dropWhile_cons_of_neg hy] at h
      injection h with h1 h2
      subst h1
      simpa using hy

/-- A string is trimmed to nothing if and only if all of its bytes are in the cutset. -/
theorem trim_nil (l cs : List UInt8) : Lib.trimS l cs = [] ↔ l.all (cs.contains ·) = true := by
  unfold Lib.trimS Lib.trimLeftS Lib.trimRightS
  rw [dropWhile_nil]
  constructor
  · intro h
    cases hr : l.reverse.dropWhile (cs.contains ·) with
    | nil =>
      have := (dropWhile_nil _ _).1 hr
      simpa using this
    | cons x r =>
      rw [hr] at h
      have hx := dropWhile_head _ _ _ _ hr
      rw [List.all_eq_true] at h
      have := h x (by simp)
      rw [this] at hx
      cases hx
  · intro h
    have : l.reverse.dropWhile (cs.contains ·) = [] := (dropWhile_nil _ _).2 (by simpa using h)
    rw [this]
    rfl

/-! The cells of bytes. -/
/-! The bytes of cells. -/
def val (l : List UInt8) : Nat := l.foldl (fun n c => 2 * n + if c = 49 then 1 else 0) 0
def chunk (l : List UInt8) (i : Nat) : List UInt8 := (l.drop (8 * i)).take 8
/-! Distance, unreadable cells, inversion. -/
def inv (c : UInt8) : UInt8 := if c = 48 then 49 else if c = 49 then 48 else c
/-! The metric. -/
/-! The number of different bits. -/
end Go.Proofs.YtbhmdcdhklgomaaGreatDoor.Cells

/-
  Small lemmas on strings, worlds and bytes.
-/
namespace Go.Proofs.YtbhmdcdhklgomaaGreatDoor
open Go.RowKit

theorem ret_int {k : IntKind} {a b : Int} (h : a = b) : Ending.returned (.int k a) = .returned (.int k b) := by rw [h]
theorem toList_length (s : ByteArray) : s.data.toList.length = s.size := by rw [Array.length_toList]; rfl
theorem mk_toList (s : ByteArray) : (⟨s.data.toList.toArray⟩ : ByteArray) = s := by cases s; simp
theorem mk_size (l : List UInt8) : (⟨l.toArray⟩ : ByteArray).size = l.length := by simp [ByteArray.size]
theorem of_toList {a b : ByteArray} (h : a.data.toList = b.data.toList) : a = b := by rw [← mk_toList a, ← mk_toList b, h]
theorem app_data (a b : ByteArray) : (a ++ b).data.toList = a.data.toList ++ b.data.toList := by rw [ByteArray.data_append, Array.toList_append]
theorem bchain {w w1 w2 : World} (h : Below w.heap.size w w1) (k : Below w1.heap.size w1 w2) : Below w.heap.size w w2 := h.trans (k.mono h.size)
theorem below_drewN {B : Nat} {a w : World} (h : Below B a w) (n : Nat) : Below B a (w.drewN n) := ⟨h.os, h.tape, h.output, h.size, h.block⟩
theorem bdrew {w w1 : World} (h : Below w.heap.size w w1) (n : Nat) : Below w.heap.size w (w1.drewN n) := below_drewN h n
theorem i64_in {z : Int} (h : (Lit.int .i64 z).wf = true) : -9223372036854775808 ≤ z ∧ z ≤ 9223372036854775807 := by
  simpa [Lit.wf, IntKind.min, IntKind.max, IntKind.signed, IntKind.bits] using h
/-! The tests on bytes, as the walk spells them. -/
theorem int_beq (a b : Nat) : ((a : Int) == (b : Int)) = (a == b) := by
  rw [Bool.eq_iff_iff, beq_iff_eq, beq_iff_eq]
  omega
theorem byte_beq (c d : UInt8) : ((c.toNat : Int) == (d.toNat : Int)) = (c == d) := by
  rw [int_beq, Bool.eq_iff_iff, beq_iff_eq, beq_iff_eq, UInt8.toNat_inj]
theorem beq48 (c : UInt8) : ((c.toNat : Int) == 48) = (c == 48) := byte_beq c 48
/-- append of some elements, which the walk has laid in a block of their own. -/
theorem wpList_appN {P : Program} (E T : TypeId) (z : Value) (bytes : Nat) (hinfo : (P.info? E).map (fun i => (i.zero, i.size, i.bytes)) = some (some z, 1, bytes)) (hT : P.underlying T = some (.slice E)) (hz : z.cells.size = 1)
    {ops : Array Oper} {rest : List Oper} {o : Oper} {a : Act} {Q : Exit → Act → World → Prop} {w : World} (hgd : o.guard = none) (s x : Operand)
    (ho : o.op = .call { callee := .builtin .append, args := #[s, x], argTypes := #[T, T] }) (B : Nat) (v : Value) (xs : List Value) (hs : a.eval s = v) (hown : Own w B E v xs) (u : Value) (us : List Value) (m : Nat) (hm : m = us.length + 1)
    (hx : a.eval x = .slice (some ⟨w.heap.size, 0, none⟩) m m) (h1 : ∀ y ∈ u :: us, y.oneCell' = true) (h63 : xs.length + m ≤ 9223372036854775807) (hbytes : (xs.length + m) * bytes ≤ 140737488355328) (hB : B ≤ w.heap.size)
    (h : ∀ v' w', Own w' B E v' (xs ++ u :: us) → Below B w w' → w.grownBy w' v.ownBlock → wpList P ops Q rest (a.put o.dst v') w') :
    wpList P ops Q (o :: rest) a (w.alloc (.cells (u :: us).toArray E)) := by
  subst hm
  obtain ⟨i, hi, hz0, hz1, hz2⟩ := info_parts hinfo
  refine wpList_append_own _ hgd s x T ho B E i z 1 bytes hT hi hz0 hz1 hz2 hz (by omega) v xs.length xs hs (hown.alloc _) ⟨w.heap.size, 0, none⟩ (us.length + 1) (us.length + 1) (u :: us) hx ?_ ?_ ?_ ?_ hbytes (by simp; omega) ?_
  · simp
  · intro j y hj
    have e : (w.alloc (.cells (u :: us).toArray E)).heap[w.heap.size]? = some (.cells (u :: us).toArray E (0, 0)) := heap_alloc_new w _
    have ea : (⟨w.heap.size, 0, none⟩ : Addr).add j = ⟨w.heap.size, j, none⟩ := by
      cases j <;> simp [Addr.add]
    rw [ea]
    unfold World.cell?
    simp only [e]
    simpa using hj
  · intro y hy
    exact h1 y hy
  · unfold maxLen
    omega
  · intro v' w' hown' hg _
    have hg' : w.grownBy w' v.ownBlock := ⟨hg.os, hg.tape, hg.output, Nat.le_trans (by simp) hg.size, fun k hk hne => (hg.block k (by simp; omega) hne).trans (Below.heap_alloc w _ k hk)⟩
    refine h v' w' ?_ ?_ hg'
    · unfold Own
      rw [List.length_append]
      exact hown'
    · exact (Below.refl B w).grown hg' hB fun k hk => (World.ownsRow.lt hown k hk).1
/-- make([]T, 0, n). -/
theorem run_make_cap {P : Program} (t e : TypeId) (z : Value) (bytes : Nat) (ht : P.underlying t = some (.slice e)) (hinfo : (P.info? e).map (fun i => (i.zero, i.size, i.bytes)) = some (some z, 1, bytes)) (hz1 : z.cells = #[z])
    (kl kc : IntKind) (n : Nat) (C : Int) (hC : C = n) (hbytes : bytes * n ≤ 281474976710656) (h63 : n ≤ 9223372036854775807) (w : World) :
    (Instr.makeSlice t (.int kl 0) (.int kc C)).run P w = .ok (.slice (some ⟨w.heap.size, 0, none⟩) 0 n) (w.alloc (.cells (madeCells #[z] n) e)) := by
  subst hC
  obtain ⟨i, hi, hz, hs, hb⟩ := info_parts hinfo
  have hb' : (i.bytes : Int) * (n : Int) ≤ 281474976710656 := by
    rw [hb]
    have h : ((bytes * n : Nat) : Int) ≤ 281474976710656 := by omega
    rwa [Int.natCast_mul] at h
  have hr := run_make (P := P) w t e i z ht hi hz kl kc 0 n (by omega) (by omega) hb' (by omega)
  simp only [Int.toNat_natCast, hs, Nat.mul_one, hz1] at hr
  exact hr
/-- string([]byte{x, y}), behind a draw. -/
theorem Row.lit2 {w : World} {E : TypeId} (l : List UInt8) (cs : Array Value) (h : cs.toList = bytesL l) : Row (w.alloc (.cells cs E)) w.heap.size E (bytesL l) :=
  ⟨cs, _, heap_alloc_new w _, fun i _ => by rw [← Array.getElem?_toList, h], fun i _ => by simp⟩
end Go.Proofs.YtbhmdcdhklgomaaGreatDoor

/-
  Lists of bytes and separators: cutting at each, joining. No program.
-/
namespace Go.Proofs.YtbhmdcdhklgomaaGreatDoor.Sep
open Go

/-- The parts between separators, the first one beginning with cur. -/
def spA (q : UInt8) (cur : List UInt8) : List UInt8 → List (List UInt8)
  | [] => [cur]
  | c :: r => if c = q then cur :: spA q [] r else spA q (cur ++ [c]) r
/-- Nothing of nothing. -/
def els (q : UInt8) (l : List UInt8) : List (List UInt8) := if l = [] then [] else spA q [] l
/-- A separator and an element, for each. -/
def tl (q : UInt8) (r : List (List UInt8)) : List UInt8 := (r.map (q :: ·)).flatten
def jn (q : UInt8) : List (List UInt8) → List UInt8
  | [] => []
  | x :: r => x ++ tl q r
def clean (q : UInt8) (l : List UInt8) : Prop := ∀ c ∈ l, c ≠ q

variable {q : UInt8}
theorem tl_cons (x : List UInt8) (r : List (List UInt8)) : tl q (x :: r) = q :: (x ++ tl q r) := by simp [tl]
theorem tl_append (a b : List (List UInt8)) : tl q (a ++ b) = tl q a ++ tl q b := by simp [tl]
theorem jn_eq (xs : List (List UInt8)) : Lib.join xs [q] = jn q xs := by
  cases xs with
  | nil => rfl
  | cons x r => rw [Lib.join_cons]; rfl
theorem clean_nil : clean q [] := fun c h => by cases h
theorem clean_snoc {l : List UInt8} {c : UInt8} (h : clean q l) (hc : c ≠ q) : clean q (l ++ [c]) := by
  intro d hd
  rcases List.mem_append.1 hd with h1 | h1
  · exact h d h1
  · rw [List.mem_singleton] at h1
    rw [h1]
    exact hc

theorem spA_spec : ∀ (l cur : List UInt8), ∃ x r, spA q cur l = x :: r ∧ x ++ tl q r = cur ++ l ∧ (∀ y ∈ r, clean q y) ∧ (clean q cur → clean q x)
  | [], cur => ⟨cur, [], rfl, by simp [tl], fun y hy => by simp at hy, id⟩
  | c :: l, cur => by
    by_cases hc : c = q
    · obtain ⟨x, r, h1, h2, h3, h4⟩ := spA_spec l []
      refine ⟨cur, x :: r, by rw [spA, if_pos hc, h1], ?_, fun y hy => ?_, id⟩
      · rw [tl_cons, h2, hc]
        rfl
      · rcases List.mem_cons.1 hy with rfl | hy
        · exact h4 clean_nil
        · exact h3 y hy
    · obtain ⟨x, r, h1, h2, h3, h4⟩ := spA_spec l (cur ++ [c])
      refine ⟨x, r, by rw [spA, if_neg hc, h1], by rw [h2]; simp, h3, fun h => h4 (clean_snoc h hc)⟩

theorem els_ne {l : List UInt8} (h : l ≠ []) : els q l = spA q [] l := by rw [els, if_neg h]
theorem jn_els (l : List UInt8) : jn q (els q l) = l := by
  by_cases h : l = []
  · rw [h]; rfl
  · obtain ⟨x, r, h1, h2, _⟩ := spA_spec l []
    rw [els_ne h, h1]
    exact h2
theorem els_eq_nil {l : List UInt8} : els q l = [] ↔ l = [] := by
  constructor
  · intro h
    rw [← jn_els l, h]
    rfl
  · intro h
    rw [h]
    rfl
theorem els_length_le (l : List UInt8) : (els q l).length ≤ l.length + 1 := by
  by_cases h : l = []
  · rw [h]; simp [els]
  · rw [els_ne h]
    have : ∀ (l cur : List UInt8), (spA q cur l).length ≤ l.length + 1 := by
      intro l
      induction l with
      | nil => intro cur; simp [spA]
      | cons c l ih =>
        intro cur
        unfold spA
        split
        · have := ih []; simp only [List.length_cons]; omega
        · have := ih (cur ++ [c]); simp only [List.length_cons]; omega
    exact this l []
theorem tl_length_take (r : List (List UInt8)) (k : Nat) : (tl q (r.take k)).length ≤ (tl q r).length := by
  have h : tl q r = tl q (r.take k) ++ tl q (r.drop k) := by rw [← tl_append, List.take_append_drop]
  rw [h, List.length_append]
  omega
theorem jn_length_take (xs : List (List UInt8)) (k : Nat) : (jn q (xs.take k)).length ≤ (jn q xs).length := by
  cases xs with
  | nil => simp [jn]
  | cons x r =>
    cases k with
    | zero => simp [jn]
    | succ k =>
      have := tl_length_take (q := q) r k
      simp only [List.take_succ_cons, jn, List.length_append]
      omega

/-! strings.Split's words. -/
theorem spA_index : ∀ (l cur : List UInt8), (Lib.index l [q] = -1 → spA q cur l = [cur ++ l]) ∧ ∀ i : Nat, Lib.index l [q] = i → spA q cur l = (cur ++ l.take i) :: spA q [] (l.drop (i + 1))
  | [], cur => by
    refine ⟨fun _ => by simp [spA], fun i h => ?_⟩
    simp [Lib.index] at h
  | c :: l, cur => by
    by_cases hc : c = q
    · rw [hc]
      have h0 : Lib.index (q :: l) [q] = 0 := by simp [Lib.index, List.isPrefixOf]
      refine ⟨fun h => by omega, fun i h => ?_⟩
      obtain rfl : i = 0 := by omega
      simp [spA]
    · have hp : ([q] : List UInt8).isPrefixOf (c :: l) = false := by simp [List.isPrefixOf, Ne.symm hc]
      have hix : Lib.index (c :: l) [q] = if Lib.index l [q] == -1 then -1 else Lib.index l [q] + 1 := by rw [Lib.index, hp]; simp
      have ih := spA_index l (cur ++ [c])
      have hge := Lib.index_ge l [q]
      by_cases hm : Lib.index l [q] = -1
      · rw [hix, if_pos (beq_iff_eq.2 hm)]
        refine ⟨fun _ => by rw [spA, if_neg hc, ih.1 hm]; simp, fun i h => by omega⟩
      · rw [hix, if_neg (fun e => hm (beq_iff_eq.1 e))]
        refine ⟨fun h => by omega, fun i h => ?_⟩
        obtain ⟨j, rfl⟩ : ∃ j, i = j + 1 := ⟨i - 1, by omega⟩
        rw [spA, if_neg hc, ih.2 j (by omega)]
        simp
theorem split_spA : ∀ (k : Nat) (l : List UInt8), Lib.count l [q] = k → Lib.splitK [q] 0 k l = spA q [] l
  | 0, l, h => by
    have hge := Lib.index_ge l [q]
    by_cases hm : Lib.index l [q] = -1
    · rw [(spA_index l []).1 hm]
      rfl
    · obtain ⟨i, hi⟩ : ∃ i : Nat, Lib.index l [q] = i := ⟨(Lib.index l [q]).toNat, by omega⟩
      rw [Lib.count_hit (by simp) hi] at h
      omega
  | k + 1, l, h => by
    have hge := Lib.index_ge l [q]
    by_cases hm : Lib.index l [q] = -1
    · rw [Lib.count_miss hm] at h
      omega
    · obtain ⟨i, hi⟩ : ∃ i : Nat, Lib.index l [q] = i := ⟨(Lib.index l [q]).toNat, by omega⟩
      have hc := Lib.count_hit (by simp) hi
      rw [(spA_index l []).2 i hi, Lib.splitK, if_neg (fun e => hm (beq_iff_eq.1 e)), hi]
      rw [show ([q] : List UInt8).length = 1 from rfl] at hc ⊢
      rw [Int.toNat_natCast, Nat.add_zero, split_spA k _ (by omega)]
      simp
end Go.Proofs.YtbhmdcdhklgomaaGreatDoor.Sep

/-
  Paths as lists of bytes: elements, joining, components, comparing. No program.
-/
namespace Go.Proofs.YtbhmdcdhklgomaaGreatDoor.Path
open Go

open Go.Proofs.YtbhmdcdhklgomaaGreatDoor.Sep
abbrev els (l : List UInt8) : List (List UInt8) := Sep.els 47 l
abbrev jn (xs : List (List UInt8)) : List UInt8 := Sep.jn 47 xs

/-! Components, valid paths. -/
def okByte (c : UInt8) : Bool := (decide (97 ≤ c.toNat) && decide (c.toNat ≤ 122)) || (decide (48 ≤ c.toNat) && decide (c.toNat ≤ 57)) || c == 46 || c == 95 || c == 45
def comp (x : List UInt8) : Bool := decide (1 ≤ x.length) && decide (x.length ≤ 32) && !(x == [46]) && !(x == [46, 46]) && x.all okByte
def err (l : List UInt8) : Int := if 200 < l.length ∨ 8 < (els l).length then 6 else if (els l).all comp then 0 else 7
theorem err_ok_iff {l : List UInt8} : err l = 0 ↔ l.length ≤ 200 ∧ (els l).length ≤ 8 ∧ ∀ x ∈ els l, comp x = true := by
  unfold err
  split
  · constructor
    · intro h; omega
    · rintro ⟨h1, h2, _⟩; omega
  · split
    · rename_i h1 h2
      rw [List.all_eq_true] at h2
      exact ⟨fun _ => ⟨by omega, by omega, h2⟩, fun _ => rfl⟩
    · rename_i h1 h2
      rw [List.all_eq_true] at h2
      exact ⟨fun h => by omega, fun h => absurd h.2.2 h2⟩
/-! Parent, Join, Under. -/
def parentE (l : List UInt8) : Int := if err l ≠ 0 then err l else if l = [] then 1 else 0
def parentV (l : List UInt8) : List UInt8 := if err l ≠ 0 then [] else jn (els l).dropLast
def under (a d : List UInt8) : Bool := decide (err a = 0) && decide (err d = 0) && (els d).isPrefixOf (els a)
theorem under_iff {a d : List UInt8} : under a d = true ↔ err a = 0 ∧ err d = 0 ∧ els d <+: els a := by
  unfold under
  rw [Bool.and_eq_true, Bool.and_eq_true, decide_eq_true_eq, decide_eq_true_eq, List.isPrefixOf_iff_prefix, and_assoc]

/-! Comparing. -/
def cmpE (a b : List UInt8) : Int := if Op.bytesLess a b then -1 else if Op.bytesLess b a then 1 else 0
def cmpL : List (List UInt8) → List (List UInt8) → Int
  | [], [] => 0
  | [], _ :: _ => -1
  | _ :: _, [] => 1
  | x :: xs, y :: ys => if cmpE x y = 0 then cmpL xs ys else cmpE x y
def cmp (a b : List UInt8) : Int := cmpL (els a) (els b)

theorem less_irrefl : ∀ x : List UInt8, Op.bytesLess x x = false
  | [] => by simp [Op.bytesLess]
  | a :: x => by simp [Op.bytesLess, less_irrefl x]
theorem less_tri : ∀ x y : List UInt8, Op.bytesLess x y = false → Op.bytesLess y x = false → x = y
  | [], [], _, _ => rfl
  | [], b :: y, h, _ => by simp [Op.bytesLess] at h
  | a :: x, [], _, h => by simp [Op.bytesLess] at h
  | a :: x, b :: y, h1, h2 => by
    simp only [Op.bytesLess, Bool.or_eq_false_iff, decide_eq_false_iff_not, Bool.and_eq_false_iff, beq_eq_false_iff_ne] at h1 h2
    have e : a = b := UInt8.le_antisymm (UInt8.not_lt.1 h2.1) (UInt8.not_lt.1 h1.1)
    subst e
    have g1 := h1.2.resolve_left (fun h => h rfl)
    have g2 := h2.2.resolve_left (fun h => h rfl)
    rw [less_tri x y g1 g2]
end Go.Proofs.YtbhmdcdhklgomaaGreatDoor.Path
