/-
  strings.ContainsFunc with a predicate on ASCII bytes, and strings.Split at one byte: what they give.
-/
import Derived.Test.YtgdmclhkoaadmaaDoorPathPlain
import Derived.Shelf.GgClosure.StringsIndexFuncTop
import Derived.Laws.RangeString
import Derived.Laws.RangeAny
namespace Go.Proofs.YtgdmclhkoaadmaaDoor.Path
open Go Go.RowKit

def okN (r : Nat) : Bool := (decide (97 ≤ r) && decide (r ≤ 122)) || (decide (48 ≤ r) && decide (r ≤ 57)) || r == 46 || r == 95 || r == 45
theorem okN_byte (c : UInt8) : okByte c = okN c.toNat := by
  have e : ∀ k : UInt8, (c == k) = (c.toNat == k.toNat) := fun k => by rw [Bool.eq_iff_iff, beq_iff_eq, beq_iff_eq, UInt8.toNat_inj]
  unfold okByte okN
  rw [e 46, e 95, e 45]
  rfl
theorem okN_high {r : Nat} (h : 128 ≤ r) : okN r = false := by
  simp only [okN, Bool.or_eq_false_iff, Bool.and_eq_false_iff, decide_eq_false_iff_not, beq_eq_false_iff_ne]
  omega
theorem scan_from (s : ByteArray) : ∀ (f pos : Nat), s.size ≤ pos + f → decide (0 ≤ Lib.idxFuncFrom (fun r => !okN r) true s f pos) = !(s.data.toList.drop pos).all okByte
  | 0, pos, h => by
    have : s.data.toList.drop pos = [] := by
      rw [List.drop_eq_nil_iff, Array.length_toList]
      exact h
    rw [this]
    rfl
  | f + 1, pos, h => by
    by_cases hp : pos < s.size
    · have hd : s.data.toList.drop pos = s[pos] :: s.data.toList.drop (pos + 1) := by
        rw [List.drop_eq_getElem_cons (by rw [Array.length_toList]; exact hp)]
        rfl
      rw [Lib.idxFuncFrom, if_pos hp, hd, List.all_cons]
      by_cases ha : (s[pos]'hp).toNat < 128
      · rw [decode_ascii s pos hp ha, okN_byte]
        cases hk : okN (s[pos]'hp).toNat
        · simp
        · simp only [Bool.not_true, Bool.false_eq_true, if_false, Bool.true_and]
          exact scan_from s f (pos + 1) (by omega)
      · obtain ⟨h1, h2⟩ := decode_high s pos hp (by omega)
        rw [okN_high h1, okN_byte, okN_high (by omega)]
        simp
    · have : s.data.toList.drop pos = [] := by
        rw [List.drop_eq_nil_iff, Array.length_toList]
        exact Nat.le_of_not_lt hp
      rw [Lib.idxFuncFrom, if_neg hp, this]
      rfl
theorem scan (s : ByteArray) : decide (0 ≤ Lib.idxFunc (fun r => !okN r) true s) = !s.data.toList.all okByte := by
  have h := scan_from s s.size 0 (by omega)
  rwa [List.drop_zero] at h
end Go.Proofs.YtgdmclhkoaadmaaDoor.Path
