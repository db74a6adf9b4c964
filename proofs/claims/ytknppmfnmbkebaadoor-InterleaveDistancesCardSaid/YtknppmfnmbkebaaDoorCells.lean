/-
  The walks of package cells and of its reference.
-/
import Derived.Test.YtknppmfnmbkebaaDoorShelf
import Derived.Test.YtknppmfnmbkebaaDoorBuilder
import Derived.Test.YtknppmfnmbkebaaDoorOwn
import Derived.Test.YtknppmfnmbkebaaDoorCellsPlain
import Derived.Shelf.Strings.SlTrimAscii
import Derived.Deep.LoopGhost
import Derived.Deep.QuietTactic
import Derived.BigQuiet
import Derived.BigRegion
import Derived.RegionTactic
import Derived.Outline
namespace Go.Proofs.YtknppmfnmbkebaaDoor
open Go.RowKit

theorem ret_int {k : IntKind} {a b : Int} (h : a = b) : Ending.returned (.int k a) = .returned (.int k b) := by rw [h]
theorem ret_int2 {k : IntKind} {a b : Int} {v : Value} (h : a = b) : Ending.returned (.tuple #[.int k a, v]) = .returned (.tuple #[.int k b, v]) := by rw [h]
theorem ret_str {a b : List UInt8} (h : a = b) : Ending.returned (.string ⟨a.toArray⟩) = .returned (.string ⟨b.toArray⟩) := by rw [h]
theorem toList_length (s : ByteArray) : s.data.toList.length = s.size := by rw [Array.length_toList]; rfl
theorem mk_toList (s : ByteArray) : (⟨s.data.toList.toArray⟩ : ByteArray) = s := by cases s; simp
theorem mk_size (l : List UInt8) : (⟨l.toArray⟩ : ByteArray).size = l.length := by simp [ByteArray.size]
theorem of_toList {a b : ByteArray} (h : a.data.toList = b.data.toList) : a = b := by rw [← mk_toList a, ← mk_toList b, h]
theorem get_of_lt (s : ByteArray) (k : Nat) (h : k < s.size) : s.data.toList[k]? = some s[k] := by
  rw [List.getElem?_eq_getElem (by rw [toList_length]; exact h)]
  rfl
theorem bchain {w w1 w2 : World} (h : Below w.heap.size w w1) (k : Below w1.heap.size w1 w2) : Below w.heap.size w w2 := h.trans (k.mono h.size)
theorem below_drewN {B : Nat} {a w : World} (h : Below B a w) (n : Nat) : Below B a (w.drewN n) := ⟨h.os, h.tape, h.output, h.size, h.block⟩
theorem bdrew {w w1 : World} (h : Below w.heap.size w w1) (n : Nat) : Below w.heap.size w (w1.drewN n) := below_drewN h n

/-! The tests on bytes, as the walk spells them. -/
theorem int_beq (a b : Nat) : ((a : Int) == (b : Int)) = (a == b) := by
  rw [Bool.eq_iff_iff, beq_iff_eq, beq_iff_eq]
  omega
theorem byte_beq (c d : UInt8) : ((c.toNat : Int) == (d.toNat : Int)) = (c == d) := by
  rw [int_beq, Bool.eq_iff_iff, beq_iff_eq, beq_iff_eq, UInt8.toNat_inj]
theorem byte_bne (c d : UInt8) : ((c.toNat : Int) != (d.toNat : Int)) = (c != d) := by
  rw [bne, bne, byte_beq]
theorem beq48 (c : UInt8) : ((c.toNat : Int) == 48) = (c == 48) := byte_beq c 48
theorem beq49 (c : UInt8) : ((c.toNat : Int) == 49) = (c == 49) := byte_beq c 49
theorem beq63 (c : UInt8) : ((c.toNat : Int) == 63) = (c == 63) := byte_beq c 63
theorem bne48 (c : UInt8) : ((c.toNat : Int) != 48) = (c != 48) := byte_bne c 48
theorem bne49 (c : UInt8) : ((c.toNat : Int) != 49) = (c != 49) := byte_bne c 49
theorem bne63 (c : UInt8) : ((c.toNat : Int) != 63) = (c != 63) := byte_bne c 63
theorem isCell_walk (c : UInt8) : Cells.isCell c = !(((c.toNat : Int) != 48) && ((c.toNat : Int) != 49) && ((c.toNat : Int) != 63)) := by
  rw [bne48, bne49, bne63]
  unfold Cells.isCell bne
  cases (c == 48) <;> cases (c == 49) <;> cases (c == 63) <;> rfl
theorem differ_walk (c d : UInt8) : Cells.differ c d = (((c.toNat : Int) != (d.toNat : Int)) && ((c.toNat : Int) != 63) && ((d.toNat : Int) != 63)) := by
  rw [byte_bne, bne63, bne63]
  rfl
theorem ok_succ (s : ByteArray) (k : Nat) (h : k < s.size) : Cells.ok (s.data.toList.take (k + 1)) = (Cells.ok (s.data.toList.take k) && Cells.isCell s[k]) := by
  rw [List.take_succ_eq_append_getElem (by rw [toList_length]; exact h)]
  simp only [Cells.ok, List.all_append, List.all_cons, List.all_nil, Bool.and_true]
  rfl
theorem ok_take (s : ByteArray) (k : Nat) (h : Cells.ok (s.data.toList.take k) = false) : Cells.ok s.data.toList = false := by
  rw [← List.take_append_drop k s.data.toList]
  simp only [Cells.ok, List.all_append] at h ⊢
  rw [h]
  rfl
theorem unread_succ (s : ByteArray) (k : Nat) (h : k < s.size) : Cells.unread (s.data.toList.take (k + 1)) = Cells.unread (s.data.toList.take k) + if ((s[k].toNat : Int) == 63) = true then 1 else 0 := by
  rw [List.take_succ_eq_append_getElem (by rw [toList_length]; exact h), beq63]
  simp only [Cells.unread, List.count_append, List.count_singleton]
  rfl

theorem trim_empty (s : ByteArray) : (⟨(Lib.trimS s.data.toList [48, 49, 63]).toArray⟩ : ByteArray).toList.isEmpty = Cells.ok s.data.toList := by
  rw [Lib.toList_data, Bool.eq_iff_iff, List.isEmpty_iff]
  exact Cells.trim_ok _

set_option maxHeartbeats 400000 in
theorem check_any (s : ByteArray) (w : World) (hs : s.size ≤ 9223372036854775807) :
    Calls Tryd.prog 20 #[.string s] w fun e w' => e = .returned (.int .i64 (Cells.err s.data.toList)) ∧ Below w.heap.size w w' := by
  have hT := Any.strings_Trim_laid Tryd.lays160 (by kernel_rfl) s ⟨#[48, 49, 63]⟩ w hs (by decide) (ascii_of_all (by decide))
  have HT := Lib.hid hT
  clear hT
  go_enter Tryd.func20, Tryd.ntmps20
  go_wp2_with fail
  refine HT.out.mono ?_
  rintro e w1 ⟨rfl, hb⟩
  have hE : (⟨(Lib.trimS s.data.toList (⟨#[48, 49, 63]⟩ : ByteArray).data.toList).toArray⟩ : ByteArray).toList.isEmpty = Cells.ok s.data.toList := trim_empty s
  generalize (⟨(Lib.trimS s.data.toList (⟨#[48, 49, 63]⟩ : ByteArray).data.toList).toArray⟩ : ByteArray) = X at *
  clear HT
  cases h : Cells.ok s.data.toList
  · rw [h] at hE
    have HH := Lib.hid h
    clear h
    go_wp2_with fail
    go_ret
    exact ⟨ret_int (by unfold Cells.err; rw [HH.out]; rfl), hb⟩
  · rw [h] at hE
    have HH := Lib.hid h
    clear h
    go_wp2_with fail
    go_ret
    exact ⟨ret_int (by unfold Cells.err; rw [HH.out]; rfl), hb⟩

set_option maxHeartbeats 1000000 in
theorem rcheck_any (s : ByteArray) (w : World) (hs : s.size ≤ 9223372036854775807) :
    Calls Tryd.prog 26 #[.string s] w fun e w' => e = .returned (.int .i64 (Cells.err s.data.toList)) ∧ w = w' := by
  go_enter Tryd.func26, Tryd.ntmps26
  go_wp2_with fail
  go_loop [3] (fun i => ∃ k : Nat, k ≤ s.size ∧ i = .int .i64 k ∧ Hid (Cells.ok (s.data.toList.take k) = true)) (fun i => s.size - (intOf i).toNat)
  case atStart => exact ⟨0, Nat.zero_le _, rfl, rfl⟩
  case round =>
    obtain ⟨k, hk, rfl, hok⟩ := hrel
    by_cases hlt : k < s.size
    · have HS := Lib.hid (ok_succ s k hlt)
      have HC := Lib.hid (isCell_walk s[k])
      cases h1 : ((s[k].toNat : Int) != 48)
      · go_wp2_with fail
        go_round
        case rel => exact ⟨k + 1, by omega, by go_num, by show _ = true; rw [HS.out, hok.out, HC.out, h1]; rfl⟩
        case measure => simp [intOf]; omega
      · cases h2 : ((s[k].toNat : Int) != 49)
        · go_wp2_with fail
          go_round
          case rel => exact ⟨k + 1, by omega, by go_num, by show _ = true; rw [HS.out, hok.out, HC.out, h1, h2]; rfl⟩
          case measure => simp [intOf]; omega
        · cases h3 : ((s[k].toNat : Int) != 63)
          · go_wp2_with fail
            go_round
            case rel => exact ⟨k + 1, by omega, by go_num, by show _ = true; rw [HS.out, hok.out, HC.out, h1, h2, h3]; rfl⟩
            case measure => simp [intOf]; omega
          · go_wp2_with fail
            go_ret
            have hf : Cells.ok (s.data.toList.take (k + 1)) = false := by rw [HS.out, hok.out, HC.out, h1, h2, h3]; rfl
            exact ⟨ret_int (by unfold Cells.err; rw [ok_take s _ hf]; rfl), rfl⟩
    · go_wp2_with fail
      go_ret
      obtain rfl : k = s.size := by omega
      have h := hok.out
      rw [List.take_of_length_le (by rw [toList_length]; omega)] at h
      exact ⟨ret_int (by unfold Cells.err; rw [h]; rfl), rfl⟩

theorem unread_any (s : ByteArray) (w : World) :
    Calls Tryd.prog 24 #[.string s] w fun e w' => e = .returned (.int .i64 (Cells.unread s.data.toList)) ∧ w = w' := by
  go_enter Tryd.func24, Tryd.ntmps24
  go_wp2_with fail
  refine (Tryd.strings_Count_one s 63 w).mono ?_
  rintro e w1 ⟨rfl, rfl⟩
  go_wp2_with fail
  go_ret
  exact ⟨rfl, rfl⟩

set_option maxHeartbeats 1000000 in
theorem runread_any (s : ByteArray) (w : World) (hs : s.size ≤ 65536) :
    Calls Tryd.prog 27 #[.string s] w fun e w' => e = .returned (.int .i64 (Cells.unread s.data.toList)) ∧ w = w' := by
  go_enter Tryd.func27, Tryd.ntmps27
  go_wp2_with fail
  go_loop [3, 4] (fun n i => ∃ k : Nat, k ≤ s.size ∧ i = .int .i64 k ∧ n = .int .i64 (Cells.unread (s.data.toList.take k))) (fun _ i => s.size - (intOf i).toNat)
  case atStart => exact ⟨0, Nat.zero_le _, rfl, rfl⟩
  case round =>
    obtain ⟨k, hk, rfl, rfl⟩ := hrel
    have hle := Cells.unread_le (s.data.toList.take k)
    rw [List.length_take] at hle
    by_cases hlt : k < s.size
    · have HS := Lib.hid (unread_succ s k hlt)
      cases h1 : ((s[k].toNat : Int) == 63)
      all_goals
        go_wp2_with fail
        go_round
        case rel => exact ⟨k + 1, by omega, by go_num, by rw [HS.out, h1]; first | rfl | simp⟩
        case measure => simp [intOf]; omega
    · go_wp2_with fail
      go_ret
      exact ⟨ret_int (by rw [List.take_of_length_le (by rw [toList_length]; omega)]), rfl⟩
end Go.Proofs.YtknppmfnmbkebaaDoor
