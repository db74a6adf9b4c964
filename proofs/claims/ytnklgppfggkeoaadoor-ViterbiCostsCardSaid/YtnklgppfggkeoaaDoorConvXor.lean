/-
  The code is linear, and its free distance is five. Plain lists.
-/
import Derived.Test.YtnklgppfggkeoaaDoorConvPre
namespace Go.Proofs.YtnklgppfggkeoaaDoor.Conv

def bxor (a b : List Bool) : List Bool := List.zipWith (· ^^ ·) a b
theorem outs_xor (a b : List Bool) (h : a.length = b.length) : ∀ p q p' q', outs (p ^^ p') (q ^^ q') (bxor a b) = List.zipWith (fun x y => (x.1 ^^ y.1, x.2 ^^ y.2)) (outs p q a) (outs p' q' b) := by
  induction a generalizing b with
  | nil =>
    intro p q p' q'
    cases b with
    | nil => rfl
    | cons y b => simp at h
  | cons x a ih =>
    intro p q p' q'
    cases b with
    | nil => simp at h
    | cons y b =>
      have hi := ih b (by simpa using h) x p y p'
      unfold bxor at hi ⊢
      simp only [List.zipWith_cons_cons, outs]
      rw [hi]
      congr 1
      cases x <;> cases y <;> cases p <;> cases q <;> cases p' <;> cases q' <;> rfl
/-- The number of ones of a list of outputs. -/
def wt : List (Bool × Bool) → Nat
  | [] => 0
  | x :: l => bn x.1 + bn x.2 + wt l
/-- What the way back to the state 0 costs at least. -/
def cost (p q : Bool) : Nat := if p then 3 else if q then 2 else 0
theorem wt_cost (l : List Bool) : ∀ p q, cost p q ≤ wt (outs p q (l ++ [false, false])) := by
  induction l with
  | nil => intro p q; cases p <;> cases q <;> decide
  | cons u l ih =>
    intro p q
    have h := ih u p
    rw [List.cons_append, outs, wt]
    cases u <;> cases p <;> cases q <;> simp [cost, bn] at h ⊢ <;> omega
theorem wt_free (l : List Bool) (h : true ∈ l) : 5 ≤ wt (outs false false (l ++ [false, false])) := by
  induction l with
  | nil => cases h
  | cons u l ih =>
    rw [List.cons_append, outs, wt]
    cases u
    · have h2 := ih (by simpa using h)
      simp [bn]
      exact h2
    · have h2 := wt_cost l true false
      simp [cost, bn] at h2 ⊢
      omega
theorem wt_flat (l : List (Bool × Bool)) : (flat l).count 49 = wt l := by
  induction l with
  | nil => rfl
  | cons x l ih =>
    obtain ⟨a, b⟩ := x
    have e : flat ((a, b) :: l) = ch a :: ch b :: flat l := rfl
    rw [e, wt, ← ih]
    cases a <;> cases b <;> simp [ch, bn] <;> omega
def xr (x y : UInt8) : UInt8 := ch (tb x ^^ tb y)
def xorTo (k : Nat) (a b : List UInt8) : List UInt8 := List.zipWith xr (a.take k) (b.take k) ++ a.drop k
theorem xorTo_length (k : Nat) (a b : List UInt8) (h : a.length = b.length) : (xorTo k a b).length = a.length := by
  simp [xorTo]; omega
theorem xorTo_zero (a b : List UInt8) : xorTo 0 a b = a := by simp [xorTo]
theorem xorTo_full (a b : List UInt8) (h : a.length = b.length) : xorTo a.length a b = List.zipWith xr a b := by
  unfold xorTo
  rw [List.take_length, h, List.take_length, ← h, List.drop_length, List.append_nil]
theorem xorTo_succ (k : Nat) (a b : List UInt8) (ha : k < a.length) (hb : k < b.length) : (xorTo k a b).set k (xr a[k] b[k]) = xorTo (k + 1) a b := by
  unfold xorTo
  have hl : (List.zipWith xr (a.take k) (b.take k)).length = k := by simp; omega
  rw [List.set_append_right _ _ (by omega), hl, Nat.sub_self, List.take_succ_eq_append_getElem ha, List.take_succ_eq_append_getElem hb, List.zipWith_append (by simp; omega), List.append_assoc]
  congr 1
  rw [List.drop_eq_getElem_cons ha]
  rfl
end Go.Proofs.YtnklgppfggkeoaaDoor.Conv
