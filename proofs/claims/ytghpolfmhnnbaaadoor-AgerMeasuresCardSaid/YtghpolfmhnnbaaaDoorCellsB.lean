/-
  The walks of Invert, Distance and FromBytes, of package cells and of its reference.
-/
import Derived.Test.YtghpolfmhnnbaaaDoorCells
namespace Go.Proofs.YtghpolfmhnnbaaaDoor
open Go.RowKit

/-- The first k cells inverted. -/
def invTo (k : Nat) (l : List UInt8) : List UInt8 := (l.take k).map Cells.inv ++ l.drop k
theorem invTo_length (k : Nat) (l : List UInt8) : (invTo k l).length = l.length := by simp [invTo]; omega
theorem invTo_zero (l : List UInt8) : invTo 0 l = l := by simp [invTo]
theorem invTo_full (l : List UInt8) : invTo l.length l = Cells.invert l := by simp [invTo, Cells.invert]
theorem invTo_get (k : Nat) (l : List UInt8) (hk : k < l.length) : (invTo k l)[k]? = some l[k] := by
  rw [invTo, List.getElem?_append_right (by simp; omega)]
  simp [Nat.min_eq_left (Nat.le_of_lt hk), hk]
theorem invTo_succ (k : Nat) (l : List UInt8) (hk : k < l.length) : (invTo k l).set k (Cells.inv l[k]) = invTo (k + 1) l := by
  have h1 : ((l.take k).map Cells.inv).length = k := by simp; omega
  rw [invTo, List.set_append_right _ _ (by omega), h1, Nat.sub_self, invTo, List.drop_eq_getElem_cons hk, List.set_cons_zero, List.take_succ_eq_append_getElem hk, List.map_append, List.append_assoc]
  rfl
theorem invTo_same (k : Nat) (l : List UInt8) (hk : k < l.length) (h : Cells.inv l[k] = l[k]) : invTo (k + 1) l = invTo k l := by
  rw [← invTo_succ k l hk, h]
  apply List.ext_getElem?
  intro i
  rw [List.getElem?_set]
  by_cases e : k = i
  · subst e
    rw [invTo_get k l hk]
    simp [invTo_length, hk]
  · rw [if_neg e]

def InvRel (w : World) (s : ByteArray) (i : Value) (wr : World) : Prop :=
  ∃ k : Nat, k ≤ s.size ∧ i = .int .i64 k ∧ Row wr w.heap.size 5 (bytesL (invTo k s.data.toList)) ∧ Below w.heap.size w wr

theorem inv_cell (s : ByteArray) (k : Nat) (hk : k < s.size) : (bytesL (invTo k s.data.toList))[k]? = some (.int .u8 s[k].toNat) := by
  have h := invTo_get k s.data.toList (by rw [toList_length]; exact hk)
  rw [bytesL, List.getElem?_map, h]
  rfl
theorem InvRel.step {w wr : World} {s : ByteArray} {k B : Nat} {c : UInt8} (hB : B = w.heap.size) (hk : k < s.size) (hc : Cells.inv s[k] = c) (h : Row wr B 5 (bytesL (invTo k s.data.toList))) (hb : Below B w wr) :
    InvRel w s (.int .i64 (↑k + 1)) (wr.setCell ⟨B, k, none⟩ (.int .u8 c.toNat)) := by
  subst hB
  refine ⟨k + 1, by omega, by go_num, ?_, hb.setCell (by simp) _⟩
  have e := invTo_succ k s.data.toList (by rw [toList_length]; exact hk)
  have e2 : s.data.toList[k]'(by rw [toList_length]; exact hk) = s[k] := rfl
  rw [e2, hc] at e
  rw [← e, ← bytesL_set]
  exact h.store k _
theorem InvRel.skip {w wr : World} {s : ByteArray} {k B : Nat} (hB : B = w.heap.size) (hk : k < s.size) (hc : Cells.inv s[k] = s[k]) (h : Row wr B 5 (bytesL (invTo k s.data.toList))) (hb : Below B w wr) :
    InvRel w s (.int .i64 (↑k + 1)) wr := by
  subst hB
  refine ⟨k + 1, by omega, by go_num, ?_, hb⟩
  rw [invTo_same k s.data.toList (by rw [toList_length]; exact hk) hc]
  exact h
theorem inv48 {c : UInt8} (h : ((c.toNat : Int) == 48) = true) : c = 48 := by rw [beq48] at h; simpa using h
theorem inv49 {c : UInt8} (h : ((c.toNat : Int) == 49) = true) : c = 49 := by rw [beq49] at h; simpa using h
theorem inv_other {c : UInt8} (h1 : ((c.toNat : Int) == 48) = false) (h2 : ((c.toNat : Int) == 49) = false) : Cells.inv c = c := by
  rw [beq48] at h1
  rw [beq49] at h2
  unfold Cells.inv
  rw [if_neg (by simpa using h1), if_neg (by simpa using h2)]

end Go.Proofs.YtghpolfmhnnbaaaDoor
