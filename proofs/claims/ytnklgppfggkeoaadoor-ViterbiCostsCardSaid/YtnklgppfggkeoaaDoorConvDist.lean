/-
  The free distance, on strings. Plain lists.
-/
import Derived.Test.YtnklgppfggkeoaaDoorConvLin
namespace Go.Proofs.YtnklgppfggkeoaaDoor.Conv

def diff (a b : List UInt8) : Nat := ((a.zip b).filter fun p => p.1 != p.2).length
theorem diff_cons (x y : UInt8) (a b : List UInt8) : diff (x :: a) (y :: b) = (if (x != y) = true then 1 else 0) + diff a b := by
  unfold diff
  rw [List.zip_cons_cons, List.filter_cons]
  split <;> simp <;> omega
theorem diff_le (a b : List UInt8) : diff a b ≤ a.length := by
  unfold diff
  refine Nat.le_trans (List.length_filter_le _ _) ?_
  rw [List.length_zip]
  omega
theorem diff_take_succ (a b : List UInt8) (k : Nat) (ha : k < a.length) (hb : k < b.length) : diff (a.take (k + 1)) (b.take (k + 1)) = diff (a.take k) (b.take k) + if (a[k] != b[k]) = true then 1 else 0 := by
  have h : (a.take (k + 1)).zip (b.take (k + 1)) = (a.take k).zip (b.take k) ++ [(a[k], b[k])] := by
    rw [List.take_succ_eq_append_getElem ha, List.take_succ_eq_append_getElem hb, List.zip_append (by simp; omega)]
    rfl
  unfold diff
  rw [h, List.filter_append, List.length_append]
  congr 1
  cases hc : (a[k] != b[k]) <;> simp [hc]
theorem xr_one (x y : UInt8) (hx : isBit x = true) (hy : isBit y = true) : (xr x y == 49) = (x != y) := by
  rw [← ch_tb hx, ← ch_tb hy, xr_ch]
  cases tb x <;> cases tb y <;> rfl
theorem diff_count (a b : List UInt8) (ha : ok a = true) (hb : ok b = true) : diff a b = (List.zipWith xr a b).count 49 := by
  induction a generalizing b with
  | nil => rfl
  | cons x a ih =>
    cases b with
    | nil => rfl
    | cons y b =>
      have ha' : isBit x = true ∧ ok a = true := by
        have := ha
        simpa only [ok, List.all_cons, Bool.and_eq_true] using this
      have hb' : isBit y = true ∧ ok b = true := by
        have := hb
        simpa only [ok, List.all_cons, Bool.and_eq_true] using this
      rw [diff_cons, ih b ha'.2 hb'.2, List.zipWith_cons_cons, List.count_cons, xr_one x y ha'.1 hb'.1, Nat.add_comm]
theorem one_mem (a b : List UInt8) (hl : a.length = b.length) (ha : ok a = true) (hb : ok b = true) (hne : a ≠ b) : true ∈ bitsOf (List.zipWith xr a b) := by
  induction a generalizing b with
  | nil =>
    cases b with
    | nil => exact absurd rfl hne
    | cons y b => simp at hl
  | cons x a ih =>
    cases b with
    | nil => simp at hl
    | cons y b =>
      have ha' : isBit x = true ∧ ok a = true := by
        have := ha
        simpa only [ok, List.all_cons, Bool.and_eq_true] using this
      have hb' : isBit y = true ∧ ok b = true := by
        have := hb
        simpa only [ok, List.all_cons, Bool.and_eq_true] using this
      rw [List.zipWith_cons_cons]
      unfold bitsOf
      rw [List.map_cons, List.mem_cons]
      by_cases e : x = y
      · subst e
        exact Or.inr (ih b (by simpa using hl) ha'.2 hb'.2 (fun e2 => hne (by rw [e2])))
      · left
        have h := xr_one x y ha'.1 hb'.1
        have h2 : (x != y) = true := by simpa using e
        rw [h2] at h
        exact h.symm
theorem free (a b : List UInt8) (hl : a.length = b.length) (ha : ok a = true) (hb : ok b = true) (hne : a ≠ b) : 5 ≤ diff (code a) (code b) := by
  rw [diff_count _ _ (ok_code a) (ok_code b), ← code_xr a b hl, code, wt_flat]
  exact wt_free _ (one_mem a b hl ha hb hne)
theorem weight_xor (a b : List UInt8) (hl : a.length = b.length) : (code (List.zipWith xr a b)).count 49 = diff (code a) (code b) := by
  rw [diff_count _ _ (ok_code a) (ok_code b), ← code_xr a b hl]
end Go.Proofs.YtnklgppfggkeoaaDoor.Conv
