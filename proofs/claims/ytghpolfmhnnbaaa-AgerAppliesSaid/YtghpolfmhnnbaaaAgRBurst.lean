/-
  The reference's burst.
-/
import Derived.Test.YtghpolfmhnnbaaaAgRCopy
import Derived.IntWalk
namespace Go.Proofs.Ytghpolfmhnnbaaa
open Go.RowKit

/-- A piece in which k cells from a on are v. -/
def put (x : List UInt8) (a k : Nat) (v : UInt8) : List UInt8 := x.take a ++ (List.replicate k v ++ x.drop (a + k))
theorem put_zero (x : List UInt8) (a : Nat) (v : UInt8) : put x a 0 v = x := by
  unfold put
  simp
theorem put_len {x : List UInt8} {a k : Nat} {v : UInt8} (h : a + k ≤ x.length) : (put x a k v).length = x.length := by
  unfold put
  rw [List.length_append, List.length_append, List.length_replicate, List.length_take, List.length_drop]
  omega
theorem put_set {x : List UInt8} {a k : Nat} {v : UInt8} (h : a + k < x.length) : (put x a k v).set (a + k) v = put x a (k + 1) v := by
  refine List.ext_getElem? fun i => ?_
  rw [List.getElem?_set, put_len (by omega)]
  unfold put
  have ht : (x.take a).length = a := by rw [List.length_take]; omega
  by_cases h1 : i < a
  · rw [if_neg (by omega), List.getElem?_append_left (by omega), List.getElem?_append_left (by omega)]
  · rw [List.getElem?_append_right (l₁ := x.take a) (by omega), List.getElem?_append_right (l₁ := x.take a) (by omega), ht]
    by_cases h2 : i < a + k
    · rw [if_neg (by omega), List.getElem?_append_left (by simp; omega), List.getElem?_append_left (by simp; omega), List.getElem?_replicate, List.getElem?_replicate, if_pos (by omega), if_pos (by omega)]
    · by_cases h3 : i = a + k
      · subst h3
        rw [if_pos rfl, if_pos h, List.getElem?_append_left (by simp), List.getElem?_replicate, if_pos (by omega)]
      · rw [if_neg (by omega), List.getElem?_append_right (by simp; omega), List.getElem?_append_right (by simp; omega), List.getElem?_drop, List.getElem?_drop, List.length_replicate, List.length_replicate]
        congr 1
        omega

set_option maxHeartbeats 4000000 in
theorem rburst_any (x : List UInt8) (a m : Nat) (n : Int) (v : UInt8) (w : World) (ha : a < x.length) (hx : x.length ≤ 65536) (hn1 : n ≤ 9223372036854775807) (hm : m = min n.toNat (x.length - a)) :
    Calls Try.prog 40 #[.string ⟨x.toArray⟩, .int .i64 a, .int .i64 n, .int .u8 v.toNat] w fun e w' => e = .returned (.string ⟨(put x a m v).toArray⟩) ∧ Below w.heap.size w w' := by
  obtain ⟨cap1, w3, run1, row1, bel1, sz1⟩ := bytes_of (P := Try.prog) 9 64 5 Try.underlying9 Try.underlying64 Try.underlying5 ⟨x.toArray⟩ w
  have row2 : Row w3 w.heap.size 5 (bytesL x) := row1
  clear row1
  have hsz : (⟨x.toArray⟩ : ByteArray).size = x.length := mk_size x
  rw [hsz] at run1
  generalize (⟨x.toArray⟩ : ByteArray) = U at *
  have hmx : a + m ≤ x.length := by omega
  have HM := Lib.hid hm
  have HROW := Lib.hid row2
  clear hsz sz1 hm row2
  go_enter Try.func40, Try.ntmps40
  go_wp2_with fail
  go_loopw [10] (fun i wr => ∃ k : Nat, k ≤ m ∧ i = .int .i64 k ∧ Row wr w.heap.size 5 (bytesL (put x a k v)) ∧ Below w.heap.size w wr) (fun i _ => m - (intOf i).toNat)
  case atStart => exact ⟨0, Nat.zero_le _, rfl, by rw [put_zero]; exact HROW.out, bel1⟩
  case round =>
    obtain ⟨k, hk, rfl, hrow, hb⟩ := hrel
    have HR2 := Lib.hid hrow
    have hpl : (put x a k v).length = x.length := put_len (by omega)
    have hbl : (bytesL (put x a k v)).length = x.length := by rw [← hpl]; simp [bytesL]
    have e1 : IntKind.i64.wrap ((a : Int) + (k : Int)) = (a : Int) + (k : Int) := IntWalk.i64_in _ (by omega)
    have e2 : ((a : Int) + (k : Int)).toNat = a + k := by omega
    by_cases hlt : k < m
    · have h9 : (k : Int) < n := by have := HM.out; omega
      have h10 : (a : Int) + (k : Int) < (x.length : Int) := by have := HM.out; omega
      have h11 : (0 : Int) ≤ (a : Int) + (k : Int) := by omega
      have h12 : a + k < x.length := by omega
      have hfz := hrow.frozen (a + k) (by omega)
      obtain ⟨u, hu⟩ : ∃ u, (bytesL (put x a k v))[a + k]? = some u := ⟨_, List.getElem?_eq_getElem (by omega)⟩
      have hcell := hrow.cell (a + k) u hu
      have hst := hrow.store (a + k) (.int .u8 v.toNat)
      have hse : (bytesL (put x a k v)).set (a + k) (.int .u8 v.toNat) = bytesL (put x a (k + 1) v) := by
        rw [← put_set h12]
        simp [bytesL, List.map_set]
      rw [hse] at hst
      have HST := Lib.hid hst
      clear hrow hst hse hu hpl hbl
      go_wp2_with fail
      go_roundw
      case rel =>
        have hfin := hb.setCell (p := ⟨w.heap.size, a + k, none⟩) (Nat.le_refl _) (.int .u8 v.toNat)
        first | exact ⟨k + 1, by omega, by go_num, HST.out, hfin⟩ | ((repeat apply Exists.intro); exact ⟨⟨k + 1, by omega, by go_num, HST.out, hfin⟩, rfl⟩)
      case measure => simp [intOf]; omega
    · obtain rfl : k = m := by omega
      have hcv := conv_row (P := Try.prog) 64 5 9 Try.underlying64 Try.underlying5 Try.underlying9 hrow x.length cap1 hpl.symm
      clear hrow hpl hbl
      by_cases h9 : (k : Int) < n
      · have h10 : ¬ ((a : Int) + (k : Int) < (x.length : Int)) := by have := HM.out; omega
        go_wp2_with fail
        go_ret
        exact ⟨rfl, hb⟩
      · go_wp2_with fail
        go_ret
        exact ⟨rfl, hb⟩
end Go.Proofs.Ytghpolfmhnnbaaa
