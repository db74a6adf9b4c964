/-
  The walks of Distance and FromBytes, of package cells and of its reference.
-/
import Derived.Test.YtghpolfmhnnbaaaDoorCellsB
namespace Go.Proofs.YtghpolfmhnnbaaaDoor
open Go.RowKit

namespace Cells
def distE (a b : List UInt8) : Int := if ok a && ok b then (if a.length = b.length then 0 else 1) else 3
def distV (a b : List UInt8) : Int := if ok a && ok b && a.length = b.length then (dist a b : Nat) else 0
theorem distE_bad {a b : List UInt8} (h : (ok a && ok b) = false) : distE a b = 3 := by unfold distE; rw [if_neg (by rw [h]; decide)]
theorem distV_bad {a b : List UInt8} (h : (ok a && ok b) = false) : distV a b = 0 := by
  unfold distV
  rw [if_neg (by rw [h]; simp)]
theorem distE_len {a b : List UInt8} (h : (ok a && ok b) = true) (hl : a.length ≠ b.length) : distE a b = 1 := by unfold distE; rw [if_pos h, if_neg hl]
theorem distV_len {a b : List UInt8} (hl : a.length ≠ b.length) : distV a b = 0 := by unfold distV; rw [if_neg (by simp [hl])]
theorem distE_ok {a b : List UInt8} (h : (ok a && ok b) = true) (hl : a.length = b.length) : distE a b = 0 := by unfold distE; rw [if_pos h, if_pos hl]
theorem distV_ok {a b : List UInt8} (h : (ok a && ok b) = true) (hl : a.length = b.length) : distV a b = dist a b := by unfold distV; rw [if_pos (by simp [hl]; simpa using h)]
theorem err_ok {a : List UInt8} (h : ok a = true) : err a = 0 := by unfold err; rw [if_pos h]
theorem err_bad {a : List UInt8} (h : ok a = false) : err a = 3 := by unfold err; rw [if_neg (by rw [h]; decide)]
end Cells
theorem ret_dist {a b c d : Int} (h1 : a = c) (h2 : b = d) : Ending.returned (.tuple #[.int .i64 a, .int .i64 b]) = .returned (.tuple #[.int .i64 c, .int .i64 d]) := by rw [h1, h2]
theorem dist_succ (a b : ByteArray) (k : Nat) (ha : k < a.size) (hb : k < b.size) : Cells.dist (a.data.toList.take (k + 1)) (b.data.toList.take (k + 1)) = Cells.dist (a.data.toList.take k) (b.data.toList.take k) + if Cells.differ a[k] b[k] = true then 1 else 0 := by
  have h := Cells.dist_take_succ a.data.toList b.data.toList k (by rw [toList_length]; exact ha) (by rw [toList_length]; exact hb)
  exact h

set_option maxHeartbeats 1000000 in
theorem dist_any (a b : ByteArray) (w : World) (ha : a.size ≤ 65536) (hb : b.size ≤ 65536) :
    Calls Tryd.prog 8 #[.string a, .string b] w fun e w' => e = .returned (.tuple #[.int .i64 (Cells.distV a.data.toList b.data.toList), .int .i64 (Cells.distE a.data.toList b.data.toList)]) ∧ Below w.heap.size w w' := by
  cases h1 : Cells.ok a.data.toList
  · have H1 := Lib.hid h1
    clear h1
    go_enter Tryd.func8, Tryd.ntmps8
    go_wp2_with fail
    refine (check_any _ _ (by omega)).mono ?_
    rintro e w1 ⟨rfl, hb1⟩
    rw [Cells.err_bad H1.out]
    go_wp2_with fail
    go_ret2
    have hh : (Cells.ok a.data.toList && Cells.ok b.data.toList) = false := by rw [H1.out]; rfl
    exact ⟨ret_dist (Cells.distV_bad hh).symm (Cells.distE_bad hh).symm, hb1⟩
  · have H1 := Lib.hid h1
    clear h1
    cases h2 : Cells.ok b.data.toList
    · have H2 := Lib.hid h2
      clear h2
      go_enter Tryd.func8, Tryd.ntmps8
      go_wp2_with fail
      refine (check_any _ _ (by omega)).mono ?_
      rintro e w1 ⟨rfl, hb1⟩
      rw [Cells.err_ok H1.out]
      go_wp2_with fail
      refine (check_any _ _ (by omega)).mono ?_
      rintro e w2 ⟨rfl, hb2⟩
      rw [Cells.err_bad H2.out]
      go_wp2_with fail
      go_ret2
      have hh : (Cells.ok a.data.toList && Cells.ok b.data.toList) = false := by rw [H1.out, H2.out]; rfl
      exact ⟨ret_dist (Cells.distV_bad hh).symm (Cells.distE_bad hh).symm, bchain hb1 hb2⟩
    · have H2 := Lib.hid h2
      clear h2
      have hh : (Cells.ok a.data.toList && Cells.ok b.data.toList) = true := by rw [H1.out, H2.out]; rfl
      have HH := Lib.hid hh
      clear hh
      by_cases hl : a.size = b.size
      · have hbq : ((a.size : Int) == b.size) = true := by simp; omega
        have hbn : ((a.size : Int) != b.size) = false := by simp; omega
        have hle1 : a.size ≤ b.size := by omega
        have hle2 : b.size ≤ a.size := by omega
        have HL := Lib.hid hl
        clear hl
        go_enter Tryd.func8, Tryd.ntmps8
        go_wp2_with fail
        refine (check_any _ _ (by omega)).mono ?_
        rintro e w1 ⟨rfl, hb1⟩
        rw [Cells.err_ok H1.out]
        go_wp2_with fail
        refine (check_any _ _ (by omega)).mono ?_
        rintro e w2 ⟨rfl, hb2⟩
        rw [Cells.err_ok H2.out]
        go_wp2_with fail
        go_loopw [6, 25] (fun n i wr => ∃ k : Nat, k ≤ a.size ∧ i = .int .i64 k ∧ n = .int .i64 (Cells.dist (a.data.toList.take k) (b.data.toList.take k)) ∧ Below w2.heap.size w2 wr) (fun _ i _ => a.size - (intOf i).toNat)
        case atStart => exact ⟨0, Nat.zero_le _, rfl, rfl, Below.refl _ _⟩
        case round =>
          obtain ⟨k, hk, rfl, rfl, hbr⟩ := hrel
          have hle := Cells.dist_le (a.data.toList.take k) (b.data.toList.take k)
          rw [List.length_take] at hle
          by_cases hlt : k < a.size
          · have hltb : k < b.size := by omega
            have HS := Lib.hid (dist_succ a b k hlt hltb)
            have HD := Lib.hid (differ_walk a[k] b[k])
            cases d1 : ((a[k].toNat : Int) != (b[k].toNat : Int))
            · go_wp2_with fail
              go_quiet (fail)
              go_wp2_with fail
              go_roundw
              case rel => exact ⟨k + 1, by omega, by go_num, by rw [HS.out, HD.out, d1]; first | rfl | simp, below_drewN hbr _⟩
              case measure => simp [intOf]; omega
            · cases d2 : ((a[k].toNat : Int) != 63)
              · go_wp2_with fail
                go_quiet (fail)
                go_wp2_with fail
                go_roundw
                case rel => exact ⟨k + 1, by omega, by go_num, by rw [HS.out, HD.out, d1, d2]; first | rfl | simp, below_drewN hbr _⟩
                case measure => simp [intOf]; omega
              · cases d3 : ((b[k].toNat : Int) != 63)
                all_goals
                  go_wp2_with fail
                  go_quiet (fail)
                  go_wp2_with fail
                  go_roundw
                  case rel => exact ⟨k + 1, by omega, by go_num, by rw [HS.out, HD.out, d1, d2, d3]; first | rfl | simp, below_drewN hbr _⟩
                  case measure => simp [intOf]; omega
          · go_wp2_with fail
            go_ret2
            have e1 : a.data.toList.take k = a.data.toList := List.take_of_length_le (by rw [toList_length]; omega)
            have e2 : b.data.toList.take k = b.data.toList := List.take_of_length_le (by rw [toList_length]; omega)
            have hl2 : a.data.toList.length = b.data.toList.length := by rw [toList_length, toList_length]; exact HL.out
            exact ⟨ret_dist (by rw [Cells.distV_ok HH.out hl2, e1, e2]) (Cells.distE_ok HH.out hl2).symm, bchain (bchain hb1 hb2) hbr⟩
      · have hbq : ((a.size : Int) == b.size) = false := by simp; omega
        have hbn : ((a.size : Int) != b.size) = true := by simp; omega
        have HL := Lib.hid hl
        clear hl
        go_enter Tryd.func8, Tryd.ntmps8
        go_wp2_with fail
        refine (check_any _ _ (by omega)).mono ?_
        rintro e w1 ⟨rfl, hb1⟩
        rw [Cells.err_ok H1.out]
        go_wp2_with fail
        refine (check_any _ _ (by omega)).mono ?_
        rintro e w2 ⟨rfl, hb2⟩
        rw [Cells.err_ok H2.out]
        go_wp2_with fail
        go_ret2
        have hl2 : a.data.toList.length ≠ b.data.toList.length := by rw [toList_length, toList_length]; exact HL.out
        exact ⟨ret_dist (Cells.distV_len hl2).symm (Cells.distE_len HH.out hl2).symm, bchain hb1 hb2⟩

end Go.Proofs.YtghpolfmhnnbaaaDoor
