/-
  The walks of package cells and of its reference.
-/
import Derived.Test.YtghpolfmhnnbaaaDoorShelf
import Derived.Test.YtghpolfmhnnbaaaDoorBuilder
import Derived.Test.YtghpolfmhnnbaaaDoorRCheck
import Derived.Test.YtghpolfmhnnbaaaDoorCellsPlain
import Derived.Shelf.Strings.SlTrimAscii
import Derived.Deep.LoopGhost
import Derived.Deep.QuietTactic
import Derived.BigQuiet
import Derived.BigRegion
import Derived.RegionTactic
import Derived.Outline
namespace Go.Proofs.YtghpolfmhnnbaaaDoor
open Go.RowKit

theorem differ_walk (c d : UInt8) : Cells.differ c d = (((c.toNat : Int) != (d.toNat : Int)) && ((c.toNat : Int) != 63) && ((d.toNat : Int) != 63)) := by
  rw [byte_bne, bne63, bne63]
  rfl
theorem unread_succ (s : ByteArray) (k : Nat) (h : k < s.size) : Cells.unread (s.data.toList.take (k + 1)) = Cells.unread (s.data.toList.take k) + if ((s[k].toNat : Int) == 63) = true then 1 else 0 := by
  rw [List.take_succ_eq_append_getElem (by rw [toList_length]; exact h), beq63]
  simp only [Cells.unread, List.count_append, List.count_singleton]
  rfl

set_option maxHeartbeats 400000 in
theorem check_any (s : ByteArray) (w : World) (hs : s.size ≤ 9223372036854775807) :
    Calls Tryd.prog 6 #[.string s] w fun e w' => e = .returned (.int .i64 (Cells.err s.data.toList)) ∧ Below w.heap.size w w' := by
  have hT := Any.strings_Trim_laid Tryd.lays160 (by kernel_rfl) s ⟨#[48, 49, 63]⟩ w hs (by decide) (ascii_of_all (by decide))
  have HT := Lib.hid hT
  clear hT
  go_enter Tryd.func6, Tryd.ntmps6
  go_wp2_with fail
  refine HT.out.mono ?_
  rintro e w1 ⟨rfl, hb⟩
  have hE : (⟨(Lib.trimS s.data.toList (⟨#[48, 49, 63]⟩ : ByteArray).data.toList).toArray⟩ : ByteArray).toList.isEmpty = Cells.ok s.data.toList := trim_empty s
  generalize (⟨(Lib.trimS s.data.toList (⟨#[48, 49, 63]⟩ : ByteArray).data.toList).toArray⟩ : ByteArray) = X at *
  clear HT
  cases h : Cells.ok s.data.toList
  · rw [h] at hE
    have HH := Lib.hid h
    clear h
    go_wp2_with fail
    go_ret
    exact ⟨ret_int (by unfold Cells.err; rw [HH.out]; rfl), hb⟩
  · rw [h] at hE
    have HH := Lib.hid h
    clear h
    go_wp2_with fail
    go_ret
    exact ⟨ret_int (by unfold Cells.err; rw [HH.out]; rfl), hb⟩

theorem unread_any (s : ByteArray) (w : World) :
    Calls Tryd.prog 9 #[.string s] w fun e w' => e = .returned (.int .i64 (Cells.unread s.data.toList)) ∧ w = w' := by
  go_enter Tryd.func9, Tryd.ntmps9
  go_wp2_with fail
  refine (Tryd.strings_Count_one s 63 w).mono ?_
  rintro e w1 ⟨rfl, rfl⟩
  go_wp2_with fail
  go_ret
  exact ⟨rfl, rfl⟩

end Go.Proofs.YtghpolfmhnnbaaaDoor
