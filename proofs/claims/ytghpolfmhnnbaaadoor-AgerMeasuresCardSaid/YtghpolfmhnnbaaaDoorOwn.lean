/-
  Slices of one-cell elements that the call itself has made: what they hold, stores into them, append of one element, a block of bytes turned into a string. Of whatever program.
-/
import Derived.WalkKit
import Derived.WalkSpells
import Derived.WalkLawsBesides
import Derived.Lib.Hide
import Derived.Laws.BytesArg
import Derived.Laws.IdiomStrings
namespace Go.Proofs.YtghpolfmhnnbaaaDoor
open Go.RowKit

/-- The slice v owns, among the blocks from B on, a row that begins with the cells xs, one for each element. -/
def Own (w : World) (B : Nat) (E : TypeId) (v : Value) (xs : List Value) : Prop := w.ownsRow B E 1 v xs.length xs

section
variable {w w' : World} {B : Nat} {E : TypeId} {v : Value} {xs : List Value}

theorem Own.form (h : Own w B E v xs) : ∃ ao cap, v = .slice ao xs.length cap ∧ (0 < xs.length → ∃ g, ao = some ⟨g, 0, none⟩) := by
  rcases h.2 with ⟨rfl, hn⟩ | ⟨g, cap, cur, rfl, _⟩
  · exact ⟨none, 0, by rw [hn], fun h => by omega⟩
  · exact ⟨_, cap, rfl, fun _ => ⟨g, rfl⟩⟩
theorem Own.cell {g n cap : Nat} (h : Own w B E (.slice (some ⟨g, 0, none⟩) n cap) xs) (i : Nat) (u : Value) (hi : xs[i]? = some u) : w.cell? ⟨g, i, none⟩ = some u := by
  have hc := World.ownsRow.cells h (g := g) rfl i u hi
  rwa [Addr.add_lit, Nat.zero_add] at hc
theorem Own.frozen {g n cap : Nat} (h : Own w B E (.slice (some ⟨g, 0, none⟩) n cap) xs) (i : Nat) : w.frozen? ⟨g, i, none⟩ = false := by
  rcases h.2 with ⟨e, _⟩ | ⟨g', cap', cur, e, _, hh, _⟩
  · cases e
  · injection e with e1
    injection e1 with e1
    injection e1 with e1
    subst e1
    simp [World.frozen?, hh]
theorem Own.lt {g n cap : Nat} (h : Own w B E (.slice (some ⟨g, 0, none⟩) n cap) xs) : B ≤ g ∧ g < w.heap.size := World.ownsRow.lt h g rfl
theorem Own.len {ao : Option Addr} {n cap : Nat} (h : Own w B E (.slice ao n cap) xs) : n = xs.length := by
  obtain ⟨ao', cap', e, _⟩ := h.form
  injection e
theorem Own.addr {ao : Option Addr} {n cap : Nat} (h : Own w B E (.slice ao n cap) xs) (hx : 0 < xs.length) : ∃ g, ao = some ⟨g, 0, none⟩ := by
  obtain ⟨ao', cap', e, hg⟩ := h.form
  injection e with e1
  rw [e1]
  exact hg hx
theorem Own.below {B' : Nat} (h : Own w B E v xs) (hb : Below B' w w') (hB : w.heap.size ≤ B') : Own w' B E v xs := by
  refine ⟨h.1, ?_⟩
  rcases h.2 with hn | ⟨g, cap, cur, rfl, h1, hh, rest⟩
  · exact .inl hn
  · exact .inr ⟨g, cap, cur, rfl, h1, (hb.block g (by have := (Array.getElem?_eq_some_iff.1 hh).1; omega)).trans hh, rest⟩
theorem Own.drewN (h : Own w B E v xs) (n : Nat) : Own (w.drewN n) B E v xs := h
theorem Own.alloc (h : Own w B E v xs) (o : Obj) : Own (w.alloc o) B E v xs := World.ownsRow.alloc h o
theorem Own.store {g n cap : Nat} (h : Own w B E (.slice (some ⟨g, 0, none⟩) n cap) xs) (i : Nat) (u : Value) : Own (w.setCell ⟨g, i, none⟩ u) B E (.slice (some ⟨g, 0, none⟩) n cap) (xs.set i u) := by
  have hn := h.len
  subst hn
  have := (World.ownsRow.stored h i u).1
  unfold Own
  rw [List.length_set]
  exact this
/-- A store into another block. -/
theorem Own.far {p : Addr} (h : Own w B E v xs) (hp : ∀ g, v.ownBlock = some g → g ≠ p.block) (u : Value) : Own (w.setCell p u) B E v xs := by
  refine ⟨h.1, ?_⟩
  rcases h.2 with hn | ⟨g, cap, cur, rfl, h1, hh, rest⟩
  · exact .inl hn
  · exact .inr ⟨g, cap, cur, rfl, h1, (Below.heap_setCell w p u g (hp g rfl)).trans hh, rest⟩
/-- Behind an append to another own slice. -/
theorem Own.grown {row : Option Nat} (h : Own w B E v xs) (hg : w.grownBy w' row) (hne : v.ownBlock = none ∨ v.ownBlock ≠ row) : Own w' B E v xs := World.ownsRow.kept h hg hne
theorem Own.more {B' : Nat} (h : Own w B E v xs) (hB : B' ≤ B) : Own w B' E v xs := by
  refine ⟨h.1, ?_⟩
  rcases h.2 with hn | ⟨g, cap, cur, rfl, h1, rest⟩
  · exact .inl hn
  · exact .inr ⟨g, cap, cur, rfl, by omega, rest⟩
/-- An empty literal, and make with a length. -/
theorem Own.made0 (w : World) (B : Nat) (E : TypeId) (hB : B ≤ w.heap.size) : Own (w.alloc (.cells #[] E)) B E (.slice (some ⟨w.heap.size, 0, none⟩) 0 0) [] :=
  World.ownsRow_made w #[] 0 hB (by simp [maxLen]) rfl
theorem Own.nil (w : World) (B : Nat) (E : TypeId) : Own w B E (.slice none 0 0) [] := World.ownsRow_nil w B E 1
theorem Own.made (w : World) (B : Nat) (E : TypeId) (z : Value) (n : Nat) (hB : B ≤ w.heap.size) (hn : n ≤ maxLen) : Own (w.alloc (.cells (madeCells #[z] n) E)) B E (.slice (some ⟨w.heap.size, 0, none⟩) n n) (List.replicate n z) := by
  have h := World.ownsRow_lit (e := E) (size := 1) w (madeCells #[z] n) n hB hn (by rw [size_madeCells, Nat.mul_one])
  rw [toList_madeCells_one] at h
  unfold Own
  rw [List.length_replicate]
  exact h
/-- make with a capacity. -/
theorem Own.made_cap (w : World) (B : Nat) (E : TypeId) (cs : Array Value) (cap : Nat) (hB : B ≤ w.heap.size) (hm : cap ≤ maxLen) (hs : cs.size = cap) : Own (w.alloc (.cells cs E)) B E (.slice (some ⟨w.heap.size, 0, none⟩) 0 cap) [] :=
  World.ownsRow_made w cs cap hB hm (by rw [hs, Nat.mul_one])
/-- A literal with elements. -/
theorem Own.lit (w : World) (B : Nat) (E : TypeId) (cs : Array Value) (n : Nat) (hB : B ≤ w.heap.size) (hn : n ≤ maxLen) (hs : cs.size = n) : Own (w.alloc (.cells cs E)) B E (.slice (some ⟨w.heap.size, 0, none⟩) n n) cs.toList := by
  have h := World.ownsRow_lit (e := E) (size := 1) w cs n hB hn (by omega)
  unfold Own
  rw [Array.length_toList, hs]
  exact h
end

/-- append of one element, which the walk has laid in a block of its own. -/
theorem wpList_app1 {P : Program} (E T : TypeId) (z : Value) (bytes : Nat) (hinfo : (P.info? E).map (fun i => (i.zero, i.size, i.bytes)) = some (some z, 1, bytes)) (hT : P.underlying T = some (.slice E)) (hz : z.cells.size = 1)
    {ops : Array Oper} {rest : List Oper} {o : Oper} {a : Act} {Q : Exit → Act → World → Prop} {w : World} (hgd : o.guard = none) (s x : Operand)
    (ho : o.op = .call { callee := .builtin .append, args := #[s, x], argTypes := #[T, T] }) (B : Nat) (v : Value) (xs : List Value) (hs : a.eval s = v) (hown : Own w B E v xs) (u : Value)
    (hx : a.eval x = .slice (some ⟨w.heap.size, 0, none⟩) 1 1) (h1 : u.oneCell' = true) (h63 : xs.length + 1 ≤ 9223372036854775807) (hbytes : (xs.length + 1) * bytes ≤ 140737488355328) (hB : B ≤ w.heap.size)
    (h : ∀ v' w', Own w' B E v' (xs ++ [u]) → Below B w w' → w.grownBy w' v.ownBlock → wpList P ops Q rest (a.put o.dst v') w') :
    wpList P ops Q (o :: rest) a (w.alloc (.cells #[u] E)) := by
  obtain ⟨i, hi, hz0, hz1, hz2⟩ := info_parts hinfo
  refine wpList_append_own _ hgd s x T ho B E i z 1 bytes hT hi hz0 hz1 hz2 hz (by omega) v xs.length xs hs (hown.alloc _) ⟨w.heap.size, 0, none⟩ 1 1 [u] hx rfl ?_ ?_ ?_ hbytes (by simp; omega) ?_
  · exact cell_one_new _ _ _
  · intro y hy
    rw [List.mem_singleton] at hy
    rw [hy]
    exact h1
  · unfold maxLen
    omega
  · intro v' w' hown' hg _
    have hg' : w.grownBy w' v.ownBlock := ⟨hg.os, hg.tape, hg.output, Nat.le_trans (by simp) hg.size, fun k hk hne => (hg.block k (by simp; omega) hne).trans (Below.heap_alloc w _ k hk)⟩
    refine h v' w' ?_ ?_ hg'
    · unfold Own
      rw [List.length_append]
      exact hown'
    · exact (Below.refl B w).grown hg' hB fun k hk => (World.ownsRow.lt hown k hk).1

/-- The cells of bytes, and of numbers. -/
def bytesL (l : List UInt8) : List Value := l.map fun c => Value.int .u8 c.toNat
def natsL (l : List Nat) : List Value := l.map fun n => Value.int .i64 (n : Nat)
theorem bytesL_length (l : List UInt8) : (bytesL l).length = l.length := by simp [bytesL]
theorem natsL_length (l : List Nat) : (natsL l).length = l.length := by simp [natsL]
theorem bytesL_snoc (l : List UInt8) (c : UInt8) : bytesL l ++ [Value.int .u8 c.toNat] = bytesL (l ++ [c]) := by simp [bytesL]
theorem natsL_snoc (l : List Nat) (n : Nat) : natsL l ++ [Value.int .i64 n] = natsL (l ++ [n]) := by simp [natsL]
theorem bytesL_set (l : List UInt8) (i : Nat) (c : UInt8) : (bytesL l).set i (Value.int .u8 c.toNat) = bytesL (l.set i c) := by simp [bytesL, List.map_set]
theorem bytesL_get (l : List UInt8) (i : Nat) (h : i < l.length) : (bytesL l)[i]? = some (.int .u8 (l.getD i 0).toNat) := by
  simp [bytesL, List.getD_eq_getElem?_getD, h]
theorem natsL_get (l : List Nat) (i n : Nat) (h : l[i]? = some n) : (natsL l)[i]? = some (.int .i64 n) := by simp [natsL, h]
theorem bytesL_made (n : Nat) : List.replicate n (Value.int .u8 0) = bytesL (List.replicate n 0) := by simp [bytesL]

theorem nums_back (l : List UInt8) : ((l.map fun c => (c.toNat : Int)).map fun n => UInt8.ofNat n.toNat) = l := by
  rw [List.map_map]
  refine (List.map_congr_left fun c _ => ?_).trans (List.map_id l)
  simp

/-- string(b). -/
theorem conv_own {P : Program} (T E S : TypeId) (hT : P.underlying T = some (.slice E)) (hE : P.underlying E = some (.int .u8)) (hS : P.underlying S = some .string) {w : World} {B : Nat} {v : Value} {l : List UInt8} (h : Own w B E v (bytesL l)) :
    (convert T S v).run P w = .ok (.string ⟨l.toArray⟩) w := by
  have hl := bytesL_length l
  rcases h.2 with ⟨rfl, hn⟩ | ⟨g, cap, cur, rfl, _⟩
  · have e : l = [] := List.eq_nil_of_length_eq_zero (by omega)
    subst e
    exact run_convert_bytes_nil w T E hT hE 0 0 S hS
  · have e := run_convert_bytes_arg (P := P) w T E hT hE g 0 (bytesL l).length cap (l.map fun c => (c.toNat : Int)) (by simp [bytesL]) (fun i hi => by
      rw [Nat.zero_add, h.cell i _ (bytesL_get l i (by omega))]
      simp [List.getD_eq_getElem?_getD, show i < l.length by omega]) S hS
    rw [e]
    unfold strOfNums
    rw [nums_back]

/-- Block g is a row of the type E that begins with the cells xs, none of which is frozen. -/
def Row (w : World) (g : Nat) (E : TypeId) (xs : List Value) : Prop :=
  ∃ cs m, w.heap[g]? = some (.cells cs E m) ∧ (∀ i, i < xs.length → cs[i]? = xs[i]?) ∧ ∀ i, i < xs.length → ¬ (m.1 ≤ i ∧ i < m.2)

section
variable {w w' : World} {g : Nat} {E : TypeId} {xs : List Value}
theorem Row.lt (h : Row w g E xs) : g < w.heap.size := by
  obtain ⟨cs, m, hh, _⟩ := h
  exact (Array.getElem?_eq_some_iff.1 hh).1
theorem Row.cell (h : Row w g E xs) (i : Nat) (u : Value) (hi : xs[i]? = some u) : w.cell? ⟨g, i, none⟩ = some u := by
  obtain ⟨cs, m, hh, hc, _⟩ := h
  have hlt : i < xs.length := (List.getElem?_eq_some_iff.1 hi).1
  simp [World.cell?, hh, hc i hlt, hi]
theorem Row.frozen (h : Row w g E xs) (i : Nat) (hi : i < xs.length) : w.frozen? ⟨g, i, none⟩ = false := by
  obtain ⟨cs, m, hh, _, hm⟩ := h
  have := hm i hi
  obtain ⟨lo, hi'⟩ := m
  simp only [World.frozen?, hh]
  simpa using this
theorem Row.of_block (h : Row w g E xs) (e : w'.heap[g]? = w.heap[g]?) : Row w' g E xs := by
  obtain ⟨cs, m, hh, r⟩ := h
  exact ⟨cs, m, e.trans hh, r⟩
theorem Row.below {B : Nat} (h : Row w g E xs) (hb : Below B w w') (hB : g < B) : Row w' g E xs := h.of_block (hb.block g hB)
theorem Row.drew (h : Row w g E xs) : Row w.drew g E xs := h
theorem Row.drewN (h : Row w g E xs) (n : Nat) : Row (w.drewN n) g E xs := h
theorem Row.alloc (h : Row w g E xs) (o : Obj) : Row (w.alloc o) g E xs := h.of_block (Below.heap_alloc w o g h.lt)
theorem Row.far {p : Addr} (h : Row w g E xs) (hp : g ≠ p.block) (u : Value) : Row (w.setCell p u) g E xs := h.of_block (Below.heap_setCell w p u g hp)
theorem Row.store (h : Row w g E xs) (i : Nat) (u : Value) : Row (w.setCell ⟨g, i, none⟩ u) g E (xs.set i u) := by
  obtain ⟨cs, m, hh, hc, hm⟩ := h
  refine ⟨cs.setIfInBounds i u, m, by simp [World.setCell, Array.getElem?_modify, hh], fun j hj => ?_, fun j hj => hm j (by simpa using hj)⟩
  rw [List.length_set] at hj
  have hlt : j < cs.size := by
    have := hc j hj
    rw [List.getElem?_eq_getElem hj] at this
    exact (Array.getElem?_eq_some_iff.1 this).1
  rw [Array.getElem?_setIfInBounds, List.getElem?_set]
  by_cases e : i = j
  · subst e
    simp [hlt, hj]
  · rw [if_neg e, if_neg e, hc j hj]
theorem Row.made (w : World) (E : TypeId) (z : Value) (n : Nat) : Row (w.alloc (.cells (madeCells #[z] n) E)) w.heap.size E (List.replicate n z) :=
  ⟨_, _, heap_alloc_new w _, fun i hi => by
    rw [← Array.getElem?_toList, toList_madeCells_one], fun i _ => by simp⟩
theorem Own.row {B n cap : Nat} (h : Own w B E (.slice (some ⟨g, 0, none⟩) n cap) xs) : Row w g E xs := by
  rcases h.2 with ⟨e, _⟩ | ⟨g', cap', cur, e, _, hh, _, _, _, ht⟩
  · cases e
  · injection e with e1
    injection e1 with e1
    injection e1 with e1
    subst e1
    refine ⟨cur, _, hh, fun i hi => ?_, fun i _ => by simp⟩
    rw [← Array.getElem?_toList, ← ht, List.getElem?_take, if_pos (by omega)]
end

/-- []byte(s). -/
theorem bytes_of {P : Program} (S T E : TypeId) (hS : P.underlying S = some .string) (hT : P.underlying T = some (.slice E)) (hE : P.underlying E = some (.int .u8)) (s : ByteArray) (w : World) :
    ∃ cap w', (convert S T (.string s)).run P w = .ok (.slice (some ⟨w.heap.size, 0, none⟩) s.size cap) w' ∧ Row w' w.heap.size E (bytesL s.data.toList) ∧ Below w.heap.size w w' ∧ w'.heap.size = w.heap.size + 1 := by
  refine ⟨_, _, run_bytes_of_string (P := P) w S T E s hS hT hE, ⟨_, _, heap_alloc_new w.drew _, fun i hi => ?_, fun i hi => ?_⟩, ((Below.refl _ _).drew.alloc (by simp) _), by simp⟩
  · rw [bytesL_length, Array.length_toList] at hi
    have hi' : i < s.data.size := hi
    rw [bytesRow, Array.getElem?_append_left (by simpa using hi'), Array.getElem?_map, bytesL, List.getElem?_map, Array.getElem?_toList]
  · rw [bytesL_length, Array.length_toList] at hi
    have h2 : s.data.size = s.size := rfl
    simp only [bytesRow, Array.size_append, Array.size_map]
    omega

/-- string(b). -/
theorem conv_row {P : Program} (T E S : TypeId) (hT : P.underlying T = some (.slice E)) (hE : P.underlying E = some (.int .u8)) (hS : P.underlying S = some .string) {w : World} {g : Nat} {l : List UInt8} (h : Row w g E (bytesL l)) (n cap : Nat) (hn : n = l.length) :
    (convert T S (.slice (some ⟨g, 0, none⟩) n cap)).run P w = .ok (.string ⟨l.toArray⟩) w := by
  subst hn
  have e := run_convert_bytes_arg (P := P) w T E hT hE g 0 l.length cap (l.map fun c => (c.toNat : Int)) (by simp) (fun i hi => by
    rw [Nat.zero_add, h.cell i _ (bytesL_get l i (by omega))]
    simp [List.getD_eq_getElem?_getD, show i < l.length by omega]) S hS
  rw [e]
  unfold strOfNums
  rw [nums_back]
end Go.Proofs.YtghpolfmhnnbaaaDoor
