/-
  The walk of the reference's Check of layer 1.
-/
import Derived.Test.YtnklgppfggkeoaaDoorProg
import Derived.Test.YtnklgppfggkeoaaDoorStr
namespace Go.Proofs.YtnklgppfggkeoaaDoor
open Go.RowKit

theorem isCell_walk (c : UInt8) : Cells.isCell c = !(((c.toNat : Int) != 48) && ((c.toNat : Int) != 49) && ((c.toNat : Int) != 63)) := by
  rw [bne48, bne49, bne63]
  unfold Cells.isCell bne
  cases (c == 48) <;> cases (c == 49) <;> cases (c == 63) <;> rfl
theorem ok_succ (s : ByteArray) (k : Nat) (h : k < s.size) : Cells.ok (s.data.toList.take (k + 1)) = (Cells.ok (s.data.toList.take k) && Cells.isCell s[k]) := by
  rw [List.take_succ_eq_append_getElem (by rw [toList_length]; exact h)]
  simp only [Cells.ok, List.all_append, List.all_cons, List.all_nil, Bool.and_true]
  rfl
theorem ok_take (s : ByteArray) (k : Nat) (h : Cells.ok (s.data.toList.take k) = false) : Cells.ok s.data.toList = false := by
  rw [← List.take_append_drop k s.data.toList]
  simp only [Cells.ok, List.all_append] at h ⊢
  rw [h]
  rfl
set_option maxHeartbeats 1000000 in
theorem rcheck_any (s : ByteArray) (w : World) (hs : s.size ≤ 9223372036854775807) :
    Calls Tryd.prog 39 #[.string s] w fun e w' => e = .returned (.int .i64 (Cells.err s.data.toList)) ∧ w = w' := by
  go_enter Tryd.func39, Tryd.ntmps39
  go_wp2_with fail
  go_loop [3] (fun i => ∃ k : Nat, k ≤ s.size ∧ i = .int .i64 k ∧ Hid (Cells.ok (s.data.toList.take k) = true)) (fun i => s.size - (intOf i).toNat)
  case atStart => exact ⟨0, Nat.zero_le _, rfl, rfl⟩
  case round =>
    obtain ⟨k, hk, rfl, hok⟩ := hrel
    by_cases hlt : k < s.size
    · have HS := Lib.hid (ok_succ s k hlt)
      have HC := Lib.hid (isCell_walk s[k])
      cases h1 : ((s[k].toNat : Int) != 48)
      · go_wp2_with fail
        go_round
        case rel => exact ⟨k + 1, by omega, by go_num, by show _ = true; rw [HS.out, hok.out, HC.out, h1]; rfl⟩
        case measure => simp [intOf]; omega
      · cases h2 : ((s[k].toNat : Int) != 49)
        · go_wp2_with fail
          go_round
          case rel => exact ⟨k + 1, by omega, by go_num, by show _ = true; rw [HS.out, hok.out, HC.out, h1, h2]; rfl⟩
          case measure => simp [intOf]; omega
        · cases h3 : ((s[k].toNat : Int) != 63)
          · go_wp2_with fail
            go_round
            case rel => exact ⟨k + 1, by omega, by go_num, by show _ = true; rw [HS.out, hok.out, HC.out, h1, h2, h3]; rfl⟩
            case measure => simp [intOf]; omega
          · go_wp2_with fail
            go_ret
            have hf : Cells.ok (s.data.toList.take (k + 1)) = false := by rw [HS.out, hok.out, HC.out, h1, h2, h3]; rfl
            exact ⟨ret_int (by unfold Cells.err; rw [ok_take s _ hf]; rfl), rfl⟩
    · go_wp2_with fail
      go_ret
      obtain rfl : k = s.size := by omega
      have h := hok.out
      rw [List.take_of_length_le (by rw [toList_length]; omega)] at h
      exact ⟨ret_int (by unfold Cells.err; rw [h]; rfl), rfl⟩

end Go.Proofs.YtnklgppfggkeoaaDoor
