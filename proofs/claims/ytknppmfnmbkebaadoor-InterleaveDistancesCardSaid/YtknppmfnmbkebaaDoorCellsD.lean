/-
  The walks of FromBytes, of package cells and of its reference.
-/
import Derived.Test.YtknppmfnmbkebaaDoorCellsC
import Derived.Laws.BitsAllLaws
namespace Go.Proofs.YtknppmfnmbkebaaDoor
open Go.RowKit

/-- The cells of the first i bytes and of j bits of the next. -/
def fromTo (l : List UInt8) (i j : Nat) : List UInt8 := Cells.fromBytes (l.take i) ++ (List.range j).map (Cells.digit (l.getD i 0).toNat)
theorem fromTo_zero (l : List UInt8) (i : Nat) : fromTo l i 0 = Cells.fromBytes (l.take i) := by simp [fromTo]
theorem fromTo_succ (l : List UInt8) (i j : Nat) : fromTo l i j ++ [Cells.digit (l.getD i 0).toNat j] = fromTo l i (j + 1) := by simp [fromTo, List.range_succ]
theorem fromTo_full (l : List UInt8) (i : Nat) (h : i < l.length) : fromTo l i 8 = Cells.fromBytes (l.take (i + 1)) := by
  rw [List.take_succ_eq_append_getElem h, Cells.fromBytes_snoc]
  simp [fromTo, Cells.bits8, List.getD_eq_getElem?_getD, h]
theorem fromTo_length (l : List UInt8) (i j : Nat) (hi : i ≤ l.length) : (fromTo l i j).length = 8 * i + j := by
  simp only [fromTo, List.length_append, Cells.fromBytes_length, List.length_map, List.length_range, List.length_take]
  omega

theorem digit_toNat (n k : Nat) : (Cells.digit n k).toNat = 48 + n / 2 ^ (7 - k) % 2 := by
  unfold Cells.digit
  rw [UInt8.toNat_ofNat']
  omega
theorem and_one (x : Nat) (hx : x < 256) : bits .and .u8 (x : Int) 1 = ((x % 2 : Nat) : Int) := by
  have h := u8_and_nat x 1 hx (by decide)
  rw [Nat.and_one_is_mod] at h
  exact h
theorem dig_val (x j : Nat) (hx : x < 256) : (48 + bits .and .u8 ((x : Int) / 2 ^ (7 - j)) 1) % 256 = ((Cells.digit x j).toNat : Int) := by
  have h1 : ((x : Int) / 2 ^ (7 - j)) = ((x / 2 ^ (7 - j) : Nat) : Int) := by
    rw [Int.natCast_ediv, Int.natCast_pow]
    rfl
  have h2 : x / 2 ^ (7 - j) < 256 := Nat.lt_of_le_of_lt (Nat.div_le_self _ _) hx
  rw [h1, and_one _ h2, digit_toNat]
  omega
theorem getD_lt (s : ByteArray) (i : Nat) (h : i < s.size) : s.data.toList.getD i 0 = s[i] := by
  rw [List.getD_eq_getElem?_getD, get_of_lt s i h]
  rfl
theorem own_sn {w' : World} {B : Nat} {l : List UInt8} {v : Value} {c : Int} {d : UInt8} (hc : c = d.toNat) (h : Own w' B 5 v (bytesL l ++ [Value.int .u8 c])) : Own w' B 5 v (bytesL (l ++ [d])) := by
  rw [← bytesL_snoc, ← hc]
  exact h
theorem bld_sn {w' : World} {B b : Nat} {l : List UInt8} {c : Int} {d : UInt8} (hc : c = d.toNat) (h : Bld B b (bytesL l ++ [Value.int .u8 c]) w') : Bld B b (bytesL (l ++ [d])) w' := by
  rw [← bytesL_snoc, ← hc]
  exact h

set_option maxHeartbeats 1000000 in
theorem from_any (s : ByteArray) (w : World) (hs : s.size ≤ 65536) :
    Calls Tryd.prog 15 #[.string s] w fun e w' => e = .returned (.string ⟨(Cells.fromBytes s.data.toList).toArray⟩) ∧ Below w.heap.size w w' := by
  go_enter Tryd.func15, Tryd.ntmps15
  go_wp2_with fail
  go_loopg [8] s.size (fun g c wr => ∃ i : Nat, g = s.size - i ∧ i ≤ s.size ∧ c = .int .i64 i ∧ Bld w.heap.size w.heap.size (bytesL (fromTo s.data.toList i 0)) wr ∧ Below w.heap.size w wr)
  case atStart => exact ⟨0, rfl, Nat.zero_le _, rfl, Lib.fresh_isBuilder _ _ w, (Below.refl _ _).alloc (Nat.le_refl _) _⟩
  case round =>
    obtain ⟨i, hg, hi, rfl, hbl, hb⟩ := hrel
    have HG := Lib.hid hg
    clear hg
    by_cases hlt : i < s.size
    · have HB := Lib.hid (getD_lt s i hlt)
      have hb8 := UInt8.toNat_lt s[i]
      have HF := Lib.hid (fromTo_full s.data.toList i (by rw [toList_length]; exact hlt))
      go_wp2_with fail
      go_loopg [11] 8 (fun g c wi => ∃ j : Nat, g = 8 - j ∧ j ≤ 8 ∧ c = .int .i64 j ∧ Bld w.heap.size w.heap.size (bytesL (fromTo s.data.toList i j)) wi ∧ Below w.heap.size w wi)
      case atStart => exact ⟨0, rfl, Nat.zero_le _, rfl, hbl, hb⟩
      case round =>
        obtain ⟨j, hg2, hj, rfl, hbl2, hb2⟩ := hrel
        have HG2 := Lib.hid hg2
        clear hg2 hbl
        by_cases hlt2 : j < 8
        · have hlen := fromTo_length s.data.toList i j (by rw [toList_length]; omega)
          have hl2 : (bytesL (fromTo s.data.toList i j)).length + 1 ≤ 140737488355328 := by rw [bytesL_length]; omega
          have HD := Lib.hid (dig_val s[i].toNat j hb8)
          have HN := Lib.hid (fromTo_succ s.data.toList i j)
          clear hlen
          go_wp2_with fail
          refine (writeByte_any w.heap.size w.heap.size _ _ wr hbl2 hl2 hb2.size).mono ?_
          rintro e w3 ⟨rfl, hbl3, hb3, _⟩
          have hbl4 := bld_sn (d := Cells.digit (s.data.toList.getD i 0).toNat j) (by rw [HB.out]; exact HD.out) hbl3
          rw [HN.out] at hbl4
          clear hbl3
          go_wp2_with fail
          go_roundg (8 - (j + 1))
          case measure => have := HG2.out; omega
          case rel => exact ⟨j + 1, rfl, by omega, by go_num, hbl4, hb2.trans hb3⟩
        · obtain rfl : j = 8 := by omega
          go_wp2_with fail
          go_roundg (s.size - (i + 1))
          case measure => have := HG.out; omega
          case rel => exact ⟨i + 1, rfl, by omega, by go_num, by rw [fromTo_zero, ← HF.out]; exact hbl2, hb2⟩
    · obtain rfl : i = s.size := by omega
      rw [fromTo_zero, List.take_of_length_le (by rw [toList_length]; omega)] at hbl
      go_wp2_with fail
      refine (Tryd.Builder_String_any w.heap.size w.heap.size _ wr hbl hb.size).mono ?_
      rintro e w3 ⟨rfl, hb3⟩
      go_wp2_with fail
      go_ret
      exact ⟨rfl, hb.trans hb3⟩

theorem rdig_val (x j : Nat) (p : Nat) (hj : j < 8) (hp : p = 128 / 2 ^ j) : (48 + (x : Int) / p % 2) = ((Cells.digit x j).toNat : Int) := by
  have e : 128 / 2 ^ j = 2 ^ (7 - j) := by
    have : j = 0 ∨ j = 1 ∨ j = 2 ∨ j = 3 ∨ j = 4 ∨ j = 5 ∨ j = 6 ∨ j = 7 := by omega
    rcases this with rfl | rfl | rfl | rfl | rfl | rfl | rfl | rfl <;> rfl
  rw [digit_toNat, hp, e]
  have h1 : ((x : Int) / ((2 ^ (7 - j) : Nat) : Int)) = ((x / 2 ^ (7 - j) : Nat) : Int) := by rw [Int.natCast_ediv]
  rw [h1]
  omega
theorem half_pow (j : Nat) : (128 / 2 ^ j) / 2 = 128 / 2 ^ (j + 1) := by rw [Nat.div_div_eq_div_mul, Nat.pow_succ]
theorem pow_pos8 (j : Nat) (hj : j < 8) : 1 ≤ 128 / 2 ^ j := by
  have : j = 0 ∨ j = 1 ∨ j = 2 ∨ j = 3 ∨ j = 4 ∨ j = 5 ∨ j = 6 ∨ j = 7 := by omega
  rcases this with rfl | rfl | rfl | rfl | rfl | rfl | rfl | rfl <;> decide
theorem pow_le8 (j : Nat) : 128 / 2 ^ j ≤ 128 := Nat.div_le_self _ _

set_option maxHeartbeats 1000000 in
theorem rfrom_any (s : ByteArray) (w : World) (hs : s.size ≤ 65536) :
    Calls Tryd.prog 16 #[.string s] w fun e w' => e = .returned (.string ⟨(Cells.fromBytes s.data.toList).toArray⟩) ∧ Below w.heap.size w w' := by
  go_enter Tryd.func16, Tryd.ntmps16
  go_wp2_with fail
  go_loopg [3, 4] s.size (fun g out c wr => ∃ i : Nat, g = s.size - i ∧ i ≤ s.size ∧ c = .int .i64 i ∧ Own wr w.heap.size 5 out (bytesL (fromTo s.data.toList i 0)) ∧ Below w.heap.size w wr)
  case atStart => exact ⟨0, rfl, Nat.zero_le _, rfl, Own.made0 w _ _ (Nat.le_refl _), (Below.refl _ _).alloc (Nat.le_refl _) _⟩
  case round =>
    obtain ⟨i, hg, hi, rfl, hbl, hb⟩ := hrel
    have HG := Lib.hid hg
    clear hg
    by_cases hlt : i < s.size
    · have HB := Lib.hid (getD_lt s i hlt)
      have hb8 := UInt8.toNat_lt s[i]
      have HF := Lib.hid (fromTo_full s.data.toList i (by rw [toList_length]; exact hlt))
      go_wp2_with fail
      go_loopg [3, 5] 8 (fun g out c wi => ∃ j p : Nat, g = 8 - j ∧ j ≤ 8 ∧ Hid (p = 128 / 2 ^ j) ∧ c = .int .i64 p ∧ Own wi w.heap.size 5 out (bytesL (fromTo s.data.toList i j)) ∧ Below w.heap.size w wi)
      case atStart => exact ⟨0, 128, rfl, Nat.zero_le _, rfl, rfl, hbl, hb⟩
      case round =>
        obtain ⟨j, p, hg2, hj, HP, rfl, hbl2, hb2⟩ := hrel
        have HG2 := Lib.hid hg2
        clear hg2 hbl
        have hp1 : p ≤ 128 := by rw [HP.out]; exact pow_le8 j
        by_cases hlt2 : j < 8
        · have hp2 : 1 ≤ p := by rw [HP.out]; exact pow_pos8 j hlt2
          have hlen := fromTo_length s.data.toList i j (by rw [toList_length]; omega)
          have hl2 : (bytesL (fromTo s.data.toList i j)).length + 1 ≤ 140737488355328 := by rw [bytesL_length]; omega
          have HD := Lib.hid (rdig_val s[i].toNat j p hlt2 HP.out)
          have HN := Lib.hid (fromTo_succ s.data.toList i j)
          have hq0 : 0 ≤ (s[i].toNat : Int) / p := Int.ediv_nonneg (by omega) (by omega)
          have hq1 : (s[i].toNat : Int) / p ≤ s[i].toNat := Int.ediv_le_self _ (by omega)
          clear hlen
          go_wp2_with (at_builtin; refine wpList_app1 5 35 _ 1 infoByte Tryd.underlying35 rfl rfl _ _ rfl _ _ _ rfl hbl2 _ rfl rfl (by omega) (by omega) hb2.size ?_; intro v' w' hown3 hb3 _)
          have hown4 := own_sn (d := Cells.digit (s.data.toList.getD i 0).toNat j) (by rw [HB.out]; exact HD.out) hown3
          rw [HN.out] at hown4
          go_roundg (8 - (j + 1))
          case measure => have := HG2.out; omega
          case rel => exact ⟨j + 1, p / 2, rfl, by omega, by show _ = _; rw [HP.out, half_pow], by go_num, hown4, hb2.trans hb3⟩
        · obtain rfl : j = 8 := by omega
          obtain rfl : p = 0 := HP.out
          go_wp2_with fail
          go_roundg (s.size - (i + 1))
          case measure => have := HG.out; omega
          case rel => exact ⟨i + 1, rfl, by omega, by go_num, by rw [fromTo_zero, ← HF.out]; exact hbl2, hb2⟩
    · obtain rfl : i = s.size := by omega
      rw [fromTo_zero, List.take_of_length_le (by rw [toList_length]; omega)] at hbl
      have hcv := conv_own (P := Tryd.prog) 35 5 9 Tryd.underlying35 Tryd.underlying5 Tryd.underlying9 hbl
      go_wp2_with fail
      go_ret
      exact ⟨rfl, hb⟩
end Go.Proofs.YtknppmfnmbkebaaDoor
