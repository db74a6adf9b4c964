/-
  The walk of xor.
-/
import Derived.Test.YtokjmcndjhdhfaaDoorConvLaw1
import Derived.Test.YtokjmcndjhdhfaaDoorConvXor
import Derived.Laws.BitsAllLaws
namespace Go.Proofs.YtokjmcndjhdhfaaDoor
open Go.RowKit

namespace Conv
theorem xr_walk (x y : UInt8) (hx : isBit x = true) (hy : isBit y = true) : bits .xor .u8 ((48 + ((x.toNat : Int) - 48)) % 256) (((y.toNat : Int) - 48) % 256) = ((xr x y).toNat : Int) := by
  have h1 := toNat_bit hx
  have h2 := toNat_bit hy
  rw [h1, h2]
  unfold xr
  cases tb x <;> cases tb y <;> decide +kernel
end Conv

set_option maxHeartbeats 1000000 in
theorem xor_any (a b : ByteArray) (w : World) (hs : a.size ≤ 65536) (hl : a.size = b.size) (ka : Conv.ok a.data.toList = true) (kb : Conv.ok b.data.toList = true) :
    Calls Tryd.prog 17 #[.string a, .string b] w fun e w' => e = .returned (.string ⟨(List.zipWith Conv.xr a.data.toList b.data.toList).toArray⟩) ∧ Below w.heap.size w w' := by
  obtain ⟨cap1, w3, run1, row1, bel1, sz1⟩ := bytes_of (P := Tryd.prog) 9 39 5 Tryd.underlying9 Tryd.underlying39 Tryd.underlying5 a w
  clear sz1
  have KA := Lib.hid ka
  have KB := Lib.hid kb
  clear ka kb
  go_enter Tryd.func17, Tryd.ntmps17
  go_wp2_with fail
  go_loopw [11] (fun i wr => ∃ k : Nat, k ≤ a.size ∧ i = .int .i64 k ∧ Row wr w.heap.size 5 (bytesL (Conv.xorTo k a.data.toList b.data.toList)) ∧ Below w.heap.size w wr) (fun i _ => a.size - (intOf i).toNat)
  case atStart => exact ⟨0, Nat.zero_le _, rfl, by rw [Conv.xorTo_zero]; exact row1, bel1⟩
  case round =>
    obtain ⟨k, hk, rfl, hrow, hb⟩ := hrel
    clear run1
    by_cases hlt : k < a.size
    · have hltb : k < b.size := by omega
      have hlen : k < (bytesL (Conv.xorTo k a.data.toList b.data.toList)).length := by rw [bytesL_length, Conv.xorTo_length _ _ _ (by rw [toList_length, toList_length]; exact hl), toList_length]; exact hlt
      have hcell := hrow.cell _ _ (List.getElem?_eq_getElem hlen)
      have hfr := hrow.frozen k hlen
      generalize (bytesL (Conv.xorTo k a.data.toList b.data.toList))[k] = V at hcell
      have hv := Conv.xr_walk a[k] b[k] (bit_of a KA.out k hlt) (bit_of b KB.out k hltb)
      have HV := Lib.hid hv
      clear hv
      go_wp2_with fail
      go_region
      rw [HV.out]
      go_wp2_with fail
      go_roundw
      case rel =>
        refine ⟨k + 1, by omega, by go_num, ?_, (hb.setCell (by simp) _).drew⟩
        have e := Conv.xorTo_succ k a.data.toList b.data.toList (by rw [toList_length]; exact hlt) (by rw [toList_length]; exact hltb)
        have e1 : a.data.toList[k]'(by rw [toList_length]; exact hlt) = a[k] := rfl
        have e2 : b.data.toList[k]'(by rw [toList_length]; exact hltb) = b[k] := rfl
        rw [e1, e2] at e
        rw [← e, ← bytesL_set]
        exact (hrow.store k _).drew
      case measure => simp [intOf]; omega
    · obtain rfl : k = a.size := by omega
      have e : Conv.xorTo a.size a.data.toList b.data.toList = List.zipWith Conv.xr a.data.toList b.data.toList := by
        rw [← toList_length a]
        exact Conv.xorTo_full _ _ (by rw [toList_length, toList_length]; exact hl)
      rw [e] at hrow
      have hcv := conv_row (P := Tryd.prog) 39 5 9 Tryd.underlying39 Tryd.underlying5 Tryd.underlying9 hrow b.size cap1 (by rw [List.length_zipWith, toList_length, toList_length]; omega)
      go_wp2_with fail
      go_ret
      exact ⟨rfl, hb⟩
end Go.Proofs.YtokjmcndjhdhfaaDoor
