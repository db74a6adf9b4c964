/-
  The walk of the reference's Check of layer 1.
-/
import Derived.Test.YtghpolfmhnnbaaaDoorProg
import Derived.Test.YtghpolfmhnnbaaaDoorStr
namespace Go.Proofs.YtghpolfmhnnbaaaDoor
open Go.RowKit

theorem isCell_walk (c : UInt8) : Cells.isCell c = !(((c.toNat : Int) != 48) && ((c.toNat : Int) != 49) && ((c.toNat : Int) != 63)) := by
  rw [bne48, bne49, bne63]
  unfold Cells.isCell bne
  cases (c == 48) <;> cases (c == 49) <;> cases (c == 63) <;> rfl
theorem ok_succ (s : ByteArray) (k : Nat) (h : k < s.size) : Cells.ok (s.data.toList.take (k + 1)) = (Cells.ok (s.data.toList.take k) && Cells.isCell s[k]) := by
  rw [List.take_succ_eq_append_getElem (by rw [toList_length]; exact h)]
  simp only [Cells.ok, List.all_append, List.all_cons, List.all_nil, Bool.and_true]
  rfl
theorem ok_take (s : ByteArray) (k : Nat) (h : Cells.ok (s.data.toList.take k) = false) : Cells.ok s.data.toList = false := by
  rw [← List.take_append_drop k s.data.toList]
  simp only [Cells.ok, List.all_append] at h ⊢
  rw [h]
  rfl
end Go.Proofs.YtghpolfmhnnbaaaDoor
