/-
  Blocks that hold bytes: made, stored into, turned into a string.
-/
import Derived.Test.YtknppmfnmbkebaaDoorProg
import Derived.WalkKit
import Derived.WalkSpells
import Derived.WalkLawsBesides
import Derived.Outline
import Derived.Lib.Hide
import Derived.Deep.QuietTactic
import Derived.BigQuiet
import Derived.Deep.OwnRows
import Derived.Laws.BytesArg
namespace Go.Proofs.YtknppmfnmbkebaaDoor.It
open Go.RowKit

theorem ret_int {k : IntKind} {a b : Int} (h : a = b) : Ending.returned (.int k a) = .returned (.int k b) := by rw [h]
theorem ret_int2 {k : IntKind} {a b : Int} {v : Value} (h : a = b) : Ending.returned (.tuple #[.int k a, v]) = .returned (.tuple #[.int k b, v]) := by rw [h]
theorem ret_str {a b : List UInt8} (h : a = b) : Ending.returned (.string ⟨a.toArray⟩) = .returned (.string ⟨b.toArray⟩) := by rw [h]
theorem ret_str2 {a b : List UInt8} {v : Value} (h : a = b) : Ending.returned (.tuple #[.string ⟨a.toArray⟩, v]) = .returned (.tuple #[.string ⟨b.toArray⟩, v]) := by rw [h]
theorem toList_length (s : ByteArray) : s.data.toList.length = s.size := by rw [Array.length_toList]; rfl
theorem mk_toList (s : ByteArray) : (⟨s.data.toList.toArray⟩ : ByteArray) = s := by cases s; simp
theorem mk_size (l : List UInt8) : (⟨l.toArray⟩ : ByteArray).size = l.length := by simp [ByteArray.size]
theorem get_of_lt (s : ByteArray) (k : Nat) (h : k < s.size) : s.data.toList[k]? = some s[k] := by
  rw [List.getElem?_eq_getElem (by rw [toList_length]; exact h)]
  rfl

theorem info_u8 : (Tryd.prog.info? 5).map (fun i => (i.zero, i.size, i.bytes)) = some (some (.int .u8 0), 1, 1) := by kernel_rfl

/-- A row of bytes: block b holds the bytes l. -/
def BytesAt (w : World) (b : Nat) (l : List UInt8) : Prop := w.rowIs b 5 l.length (fun i => .int .u8 (l.getD i 0).toNat)

theorem BytesAt.made (w : World) (n : Nat) : BytesAt (w.alloc (.cells (madeCells #[.int .u8 0] n) 5)) w.heap.size (List.replicate n 0) := by
  have h := World.rowIs_made w (.int .u8 0) n 5
  unfold BytesAt
  rw [List.length_replicate]
  refine h.congr fun i hi => ?_
  simp [List.getD_eq_getElem?_getD, hi]

theorem BytesAt.store {w : World} {b : Nat} {l : List UInt8} (h : BytesAt w b l) (i : Nat) (c : UInt8) (hi : i < l.length) : BytesAt (w.setCell ⟨b, i, none⟩ (.int .u8 c.toNat)) b (l.set i c) := by
  have h' := World.rowIs.set h i (.int .u8 c.toNat)
  unfold BytesAt
  rw [List.length_set]
  refine h'.congr fun j hj => ?_
  by_cases e : j = i
  · subst e
    simp [List.getD_eq_getElem?_getD, hi]
  · rw [if_neg e]
    simp [List.getD_eq_getElem?_getD, Ne.symm e]

theorem BytesAt.cell {w : World} {b : Nat} {l : List UInt8} (h : BytesAt w b l) (i : Nat) (hi : i < l.length) : w.cell? ⟨b, i, none⟩ = some (.int .u8 (l.getD i 0).toNat) := World.rowIs.cell h hi
theorem BytesAt.frozen {w : World} {b : Nat} {l : List UInt8} (h : BytesAt w b l) (i : Nat) : w.frozen? ⟨b, i, none⟩ = false := World.rowIs.frozen h i
theorem BytesAt.lt {w : World} {b : Nat} {l : List UInt8} (h : BytesAt w b l) : b < w.heap.size := World.rowIs.lt h
theorem BytesAt.below {B : Nat} {w w' : World} {b : Nat} {l : List UInt8} (h : BytesAt w b l) (hb : Below B w w') (hB : b < B) : BytesAt w' b l := World.rowIs.of_block h (hb.block b hB)
theorem BytesAt.drewN {w : World} {b : Nat} {l : List UInt8} (h : BytesAt w b l) (n : Nat) : BytesAt (w.drewN n) b l := h
theorem below_drewN {B : Nat} {a w : World} (h : Below B a w) (n : Nat) : Below B a (w.drewN n) := ⟨h.os, h.tape, h.output, h.size, h.block⟩

theorem map_toNat (l : List UInt8) : ((l.map fun c => (c.toNat : Int)).map fun n => UInt8.ofNat n.toNat) = l := by
  rw [List.map_map]
  refine (List.map_congr_left fun c _ => ?_).trans (List.map_id l)
  simp

/-- string(b). -/
theorem conv_bytes {w : World} {b : Nat} {l : List UInt8} (h : BytesAt w b l) (n cap : Nat) (hn : l.length = n) : (convert 35 9 (.slice (some ⟨b, 0, none⟩) n cap)).run Tryd.prog w = .ok (.string ⟨l.toArray⟩) w := by
  have e := run_convert_bytes_arg (P := Tryd.prog) w 35 5 Tryd.underlying35 Tryd.underlying5 b 0 n cap (l.map fun c => (c.toNat : Int)) (by simpa using hn) (fun i hi => by
    rw [Nat.zero_add, h.cell i (by omega)]
    simp [List.getD_eq_getElem?_getD, show i < l.length by omega]) 9 Tryd.underlying9
  rw [e]
  unfold strOfNums
  rw [map_toNat]
end Go.Proofs.YtknppmfnmbkebaaDoor.It
