/-
  The reference's way to a stage: bit by bit, from none. Plain.
-/
import Derived.Test.YtnklgppfggkeoaaDoorVitPlain
namespace Go.Proofs.YtnklgppfggkeoaaDoor.Vit

def Good (S : Stg) : Prop := ∀ u p, S.get u p = (-1, 0) ∨ (0 ≤ (S.get u p).1 ∧ 1 ≤ (S.get u p).2)
theorem good_dp (n : Nat) (c : List UInt8) (hc : c.length = 2 * n) : Good (dp c) := by
  intro u p
  rcases best n c u p hc with ⟨h, _⟩ | ⟨h, _, _, _, _, _, h2⟩
  · exact .inl h
  · refine .inr ⟨h, ?_⟩
    rcases h2 with h2 | ⟨h2, _⟩ <;> omega
def rstep (x y : UInt8) (S : Stg) (p q : Bool) (cur : Suf) (u : Bool) : Suf :=
  if (S.get u p).1 < 0 then cur
  else if cur.1 < 0 ∨ mis x y p q u + (S.get u p).1 < cur.1 then (mis x y p q u + (S.get u p).1, (S.get u p).2)
  else if mis x y p q u + (S.get u p).1 = cur.1 then (cur.1, 2) else cur
def rcur (x y : UInt8) (S : Stg) (p q : Bool) : Nat → Suf
  | 0 => (-1, 0)
  | 1 => rstep x y S p q (-1, 0) false
  | _ => rstep x y S p q (rstep x y S p q (-1, 0) false) true
theorem rcur_bn (x y : UInt8) (S : Stg) (p q u : Bool) : rcur x y S p q (Conv.bn u + 1) = rstep x y S p q (rcur x y S p q (Conv.bn u)) u := by cases u <;> rfl
theorem rcur_one {x y : UInt8} {S : Stg} (hg : Good S) (p q : Bool) : rcur x y S p q 2 = one x y S p q := by
  have m0 := mis_bd x y p q false
  have m1 := mis_bd x y p q true
  show rstep x y S p q (rstep x y S p q (-1, 0) false) true = _
  unfold one
  rcases hg false p with h0 | ⟨h0, h0'⟩
  · have e0 : rstep x y S p q (-1, 0) false = (-1, 0) := by unfold rstep; rw [h0]; rfl
    rw [e0, branch_none h0]
    rcases hg true p with h1 | ⟨h1, h1'⟩
    · rw [branch_none h1]
      unfold rstep
      rw [h1]
      rfl
    · rw [branch_some h1]
      unfold rstep step worse
      rw [if_neg (by omega), if_pos (.inl (by decide)), if_pos (by simp), Int.add_comm]
  · have e0 : rstep x y S p q (-1, 0) false = (mis x y p q false + (S.get false p).1, (S.get false p).2) := by
      unfold rstep
      rw [if_neg (by omega), if_pos (.inl (by decide))]
    rw [e0, branch_some h0]
    rcases hg true p with h1 | ⟨h1, h1'⟩
    · rw [branch_none h1]
      unfold rstep step worse
      rw [h1, if_pos (by decide), if_neg (by rw [decide_eq_true_iff]; simp only; omega), if_neg (by simp only; omega), Int.add_comm]
    · rw [branch_some h1]
      unfold rstep step worse
      rw [if_neg (by omega)]
      generalize mis x y p q true = M1 at *
      generalize mis x y p q false = M0 at *
      generalize S.get false p = A at *
      generalize S.get true p = B at *
      simp only
      by_cases c1 : M1 + B.1 < M0 + A.1
      · rw [if_pos (.inr c1), if_pos (by rw [decide_eq_true_iff]; omega), Int.add_comm]
      · rw [if_neg (show ¬ (M0 + A.1 < 0 ∨ M1 + B.1 < M0 + A.1) by omega)]
        by_cases c2 : M1 + B.1 = M0 + A.1
        · rw [if_pos c2, if_neg (by rw [decide_eq_true_iff]; omega), if_pos (by omega)]
          refine Prod.ext (by simp only; omega) ?_
          simp only
          omega
        · rw [if_neg c2, if_neg (by rw [decide_eq_true_iff]; omega), if_neg (by omega), Int.add_comm]
theorem rcur_cost (x y : UInt8) (S : Stg) (p q : Bool) (hs : ∀ u p, -1 ≤ (S.get u p).1 ∧ (S.get u p).1 ≤ 100000) (j : Nat) : -1 ≤ (rcur x y S p q j).1 ∧ (rcur x y S p q j).1 ≤ 100002 := by
  have step : ∀ cur u, (-1 ≤ cur.1 ∧ cur.1 ≤ 100002) → -1 ≤ (rstep x y S p q cur u).1 ∧ (rstep x y S p q cur u).1 ≤ 100002 := by
    intro cur u h
    have hm := mis_bd x y p q u
    have hb := hs u p
    unfold rstep
    split
    · exact h
    · split
      · simp only; omega
      · split
        · exact h
        · exact h
  have h0 : -1 ≤ ((-1, 0) : Suf).1 ∧ ((-1, 0) : Suf).1 ≤ 100002 := ⟨by decide, by decide⟩
  match j with
  | 0 => exact h0
  | 1 => exact step _ _ h0
  | j + 2 => exact step _ _ (step _ _ h0)
end Go.Proofs.YtnklgppfggkeoaaDoor.Vit
