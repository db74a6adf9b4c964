/-
  Slices of strings that are only read; slices.Equal over them.
-/
import Derived.Test.YtghpolfmhnnbaaaDoorSplit
namespace Go.Proofs.YtghpolfmhnnbaaaDoor
open Go.RowKit

/-- The slice at ao of length n reads as the strings xs. -/
def Strs (w : World) (ao : Option Addr) (n : Nat) (xs : List (List UInt8)) : Prop :=
  n = xs.length ∧ ∀ (j : Nat) (x : List UInt8), xs[j]? = some x → ∃ bk o, ao = some ⟨bk, o, none⟩ ∧ w.cell? ⟨bk, o + j, none⟩ = some (.string ⟨x.toArray⟩)
section
variable {w w' : World} {B n c : Nat} {ao : Option Addr} {xs : List (List UInt8)}
theorem Own.read (h : Own w B 9 (.slice ao n c) (strsL xs)) : Strs w ao n xs := by
  refine ⟨by rw [h.len, strsL_length], fun j x hx => ?_⟩
  obtain ⟨g, rfl⟩ := h.addr (by rw [strsL_length]; have := (List.getElem?_eq_some_iff.1 hx).1; omega)
  exact ⟨g, 0, rfl, by rw [Nat.zero_add]; exact h.cell j _ (strsL_get xs j x hx)⟩
theorem Strs.below (h : Strs w ao n xs) (hb : Below w.heap.size w w') : Strs w' ao n xs := by
  refine ⟨h.1, fun j x hx => ?_⟩
  obtain ⟨bk, o, e, hc⟩ := h.2 j x hx
  exact ⟨bk, o, e, (hb.cell (World.block_lt_of_cell? _ _ hc)).trans hc⟩
theorem Strs.take (h : Strs w ao n xs) (m : Nat) (hm : m ≤ n) : Strs w ao m (xs.take m) := by
  refine ⟨by rw [List.length_take]; have := h.1; omega, fun j x hx => h.2 j x ?_⟩
  rw [List.getElem?_take] at hx
  split at hx
  · exact hx
  · cases hx
theorem Strs.drop {bk o m : Nat} (h : Strs w (some ⟨bk, o, none⟩) n xs) (k : Nat) (hm : m = n - k) (_hk : k ≤ n) : Strs w (some ⟨bk, o + k, none⟩) m (xs.drop k) := by
  refine ⟨by rw [List.length_drop, ← h.1, hm], fun j x hx => ?_⟩
  rw [List.getElem?_drop] at hx
  obtain ⟨bk', o', e, hc⟩ := h.2 (k + j) x hx
  injection e with e
  injection e with e1 e2
  subst e1 e2
  exact ⟨bk, o + k, rfl, by rw [Nat.add_assoc]; exact hc⟩
theorem Strs.nil (w : World) (ao : Option Addr) : Strs w ao 0 [] := ⟨rfl, fun j x h => by simp at h⟩
end

theorem str_beq (x y : List UInt8) : ((⟨x.toArray⟩ : ByteArray).toList == (⟨y.toArray⟩ : ByteArray).toList) = (x == y) := by
  rw [Lib.toList_data, Lib.toList_data]
theorem take_beq {xs ys : List (List UInt8)} {k : Nat} {x y : List UInt8} (hx : xs[k]? = some x) (hy : ys[k]? = some y) : (xs.take (k + 1) == ys.take (k + 1)) = ((xs.take k == ys.take k) && (x == y)) := by
  obtain ⟨h1, h2⟩ := List.getElem?_eq_some_iff.1 hx
  obtain ⟨h3, h4⟩ := List.getElem?_eq_some_iff.1 hy
  rw [List.take_add_one, List.take_add_one, hx, hy, Bool.eq_iff_iff, Bool.and_eq_true, beq_iff_eq, beq_iff_eq, beq_iff_eq]
  constructor
  · intro h
    have := List.append_inj h (by rw [List.length_take, List.length_take]; omega)
    exact ⟨this.1, by simpa using this.2⟩
  · rintro ⟨h, rfl⟩
    rw [h]
theorem beq_of_take {xs ys : List (List UInt8)} {k : Nat} (h : (xs.take k == ys.take k) = false) : (xs == ys) = false := by
  rw [beq_eq_false_iff_ne] at h ⊢
  intro e
  exact h (by rw [e])
theorem beq_len {xs ys : List (List UInt8)} (h : xs.length ≠ ys.length) : (xs == ys) = false := by
  rw [beq_eq_false_iff_ne]
  intro e
  exact h (by rw [e])

end Go.Proofs.YtghpolfmhnnbaaaDoor
