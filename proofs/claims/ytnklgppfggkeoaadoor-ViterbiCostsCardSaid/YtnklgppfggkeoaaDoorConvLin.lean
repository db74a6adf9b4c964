/-
  The code word of the exclusive or. Plain lists.
-/
import Derived.Test.YtnklgppfggkeoaaDoorConvXor
namespace Go.Proofs.YtnklgppfggkeoaaDoor.Conv

theorem xr_ch (a b : Bool) : xr (ch a) (ch b) = ch (a ^^ b) := by unfold xr; rw [tb_ch, tb_ch]
theorem tb_xr (x y : UInt8) : tb (xr x y) = (tb x ^^ tb y) := by unfold xr; rw [tb_ch]
theorem bitsOf_xr (a b : List UInt8) : bitsOf (List.zipWith xr a b) = bxor (bitsOf a) (bitsOf b) := by
  induction a generalizing b with
  | nil => rfl
  | cons x a ih =>
    cases b with
    | nil => rfl
    | cons y b =>
      have h := ih b
      unfold bitsOf bxor at h ⊢
      simp only [List.zipWith_cons_cons, List.map_cons, tb_xr, h]
theorem flat_xor (a b : List (Bool × Bool)) : flat (List.zipWith (fun x y => (x.1 ^^ y.1, x.2 ^^ y.2)) a b) = List.zipWith xr (flat a) (flat b) := by
  induction a generalizing b with
  | nil => rfl
  | cons x a ih =>
    cases b with
    | nil => cases x; rfl
    | cons y b =>
      have e : ∀ (x : Bool × Bool) l, flat (x :: l) = ch x.1 :: ch x.2 :: flat l := fun _ _ => rfl
      rw [List.zipWith_cons_cons, e, e, e, List.zipWith_cons_cons, List.zipWith_cons_cons, ih, xr_ch, xr_ch]
theorem code_xr (a b : List UInt8) (h : a.length = b.length) : code (List.zipWith xr a b) = List.zipWith xr (code a) (code b) := by
  unfold code
  rw [← flat_xor, bitsOf_xr]
  have hl : (bitsOf a ++ [false, false]).length = (bitsOf b ++ [false, false]).length := by simp [bitsOf, h]
  have h2 := outs_xor (bitsOf a ++ [false, false]) (bitsOf b ++ [false, false]) hl false false false false
  have e : bxor (bitsOf a ++ [false, false]) (bitsOf b ++ [false, false]) = bxor (bitsOf a) (bitsOf b) ++ [false, false] := by
    unfold bxor
    rw [List.zipWith_append (by simp [bitsOf, h])]
    rfl
  rw [e] at h2
  exact congrArg flat h2
theorem ok_xr (a b : List UInt8) : ok (List.zipWith xr a b) = true := by
  induction a generalizing b with
  | nil => rfl
  | cons x a ih =>
    cases b with
    | nil => rfl
    | cons y b =>
      rw [List.zipWith_cons_cons]
      have h := ih b
      unfold ok at h ⊢
      rw [List.all_cons, h, Bool.and_true]
      unfold xr
      cases (tb x ^^ tb y) <;> rfl
theorem ok_flat (l : List (Bool × Bool)) : ok (flat l) = true := by
  induction l with
  | nil => rfl
  | cons x l ih =>
    obtain ⟨a, b⟩ := x
    have e : flat ((a, b) :: l) = ch a :: ch b :: flat l := rfl
    rw [e]
    unfold ok at ih ⊢
    rw [List.all_cons, List.all_cons, ih]
    cases a <;> cases b <;> rfl
theorem ok_code (s : List UInt8) : ok (code s) = true := ok_flat _
end Go.Proofs.YtnklgppfggkeoaaDoor.Conv
