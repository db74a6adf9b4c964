/-
  The law ViterbiTransitions, walked.
-/
import Derived.Test.YtnklgppfggkeoaaDoorVitLaw1
import Derived.Test.YtnklgppfggkeoaaDoorVitCost
namespace Go.Proofs.YtnklgppfggkeoaaDoor
open Go.RowKit

namespace Vit
def best0 (A m : Int) : Int := if 0 ≤ A then m + A else -1
def best1 (b B m : Int) : Int := if 0 ≤ B ∧ (b < 0 ∨ m + B < b) then m + B else b
theorem best_one (x y : UInt8) (S : Stg) (p q : Bool) (h : ∀ p q, S.get p q = (-1, 0) ∨ 0 ≤ (S.get p q).1) :
    best1 (best0 (S.get false p).1 (mis x y p q false)) (S.get true p).1 (mis x y p q true) = (one x y S p q).1 := by
  have m0 := mis_bd x y p q false
  have m1 := mis_bd x y p q true
  have key : ∀ (a b : Suf) (A B M0 M1 : Int), ((A = -1 ∧ a.1 = -1) ∨ (0 ≤ A ∧ a.1 = A + M0)) → ((B = -1 ∧ b.1 = -1) ∨ (0 ≤ B ∧ b.1 = B + M1)) → 0 ≤ M0 → 0 ≤ M1 → best1 (best0 A M0) B M1 = (step a b).1 := by
    intro a b A B M0 M1 h0 h1 k0 k1
    unfold step worse best1 best0
    simp only [decide_eq_true_eq]
    rcases h0 with ⟨h0, h2⟩ | ⟨h0, h2⟩ <;> rcases h1 with ⟨h1, h3⟩ | ⟨h1, h3⟩ <;> repeat' split
    all_goals ((try simp only); omega)
  unfold one
  refine key _ _ _ _ _ _ ?_ ?_ m0.1 m1.1
  · rcases h false p with h0 | h0
    · left
      rw [branch_none h0, h0]
      exact ⟨rfl, rfl⟩
    · right
      rw [branch_some h0]
      exact ⟨h0, rfl⟩
  · rcases h true p with h0 | h0
    · left
      rw [branch_none h0, h0]
      exact ⟨rfl, rfl⟩
    · right
      rw [branch_some h0]
      exact ⟨h0, rfl⟩
theorem dist_mis (x y : UInt8) (p q u : Bool) : (Cells.dist [Conv.ch ((u ^^ p) ^^ q), Conv.ch (u ^^ q)] [x, y] : Int) = mis x y p q u := by
  rw [Cells.dist_cons, Cells.dist_cons, Cells.dist_nil]
  unfold mis
  rw [← mis1_differ, ← mis1_differ]
  omega
end Vit
theorem costs_some (n : Nat) (c : List UInt8) (hc : c.length = 2 * n) (p q : Bool) : (Vit.dp c).get p q = (-1, 0) ∨ 0 ≤ ((Vit.dp c).get p q).1 := by
  rcases Vit.best n c p q hc with ⟨h, _⟩ | ⟨h, _⟩
  · exact .inl h
  · exact .inr h
/-- Distance at the cells of a transition. -/
theorem dist_two (X Y : ByteArray) (x y : UInt8) (p q u : Bool) (hX : X.data.toList = [Conv.ch ((u ^^ p) ^^ q), Conv.ch (u ^^ q)]) (hY : Y.data.toList = [x, y]) (hk : Cells.ok [x, y] = true) (w : World) :
    Calls Tryd.prog 19 #[.string X, .string Y] w fun e w' => e = .returned (.tuple #[.int .i64 (Vit.mis x y p q u), .int .i64 0]) ∧ Below w.heap.size w w' := by
  have h := dist_any X Y w (by rw [← toList_length, hX]; show 2 ≤ 65536; omega) (by rw [← toList_length, hY]; show 2 ≤ 65536; omega)
  have hok : (Cells.ok X.data.toList && Cells.ok Y.data.toList) = true := by
    rw [hX, hY, hk, Bool.and_true]
    cases ((u ^^ p) ^^ q) <;> cases (u ^^ q) <;> rfl
  rw [Cells.distV_ok hok (by rw [hX, hY]; rfl), Cells.distE_ok hok (by rw [hX, hY]; rfl), hX, hY, Vit.dist_mis] at h
  exact h
theorem tr_early (a0 : ByteArray) (a1 a2 : Nat) (h : 300 < (a0.size : Int) ∨ (a0.size : Int) < 4 ∨ ((a0.size : Int) % 2 != 0) = true) (w : World) :
    Calls Tryd.prog 6 #[.string a0, .int .u8 a1, .int .u8 a2] w fun e w' => e = .returned (.bool true) ∧ Below w.heap.size w w' := by
  have hx : (300 < (a0.size : Int)) ∨ ((a0.size : Int) ≤ 300 ∧ (a0.size : Int) < 4) ∨ ((a0.size : Int) ≤ 300 ∧ 4 ≤ (a0.size : Int) ∧ ((a0.size : Int) % 2 != 0) = true) := by
    by_cases h1 : 300 < (a0.size : Int)
    · exact .inl h1
    · by_cases h2 : (a0.size : Int) < 4
      · exact .inr (.inl ⟨by omega, h2⟩)
      · refine .inr (.inr ⟨by omega, by omega, ?_⟩)
        rcases h with h | h | h
        · exact absurd h h1
        · exact absurd h h2
        · exact h
  clear h
  rcases hx with h1 | ⟨h1, h2⟩ | ⟨h1, h2, h3⟩
  all_goals
    go_enter Tryd.func6, Tryd.ntmps6
    go_wp2_with fail
    refine (awake_any _).mono ?_
    rintro e w1 ⟨rfl, hb1⟩
    go_wp2_with fail
    go_ret
    exact ⟨rfl, hb1⟩
end Go.Proofs.YtnklgppfggkeoaaDoor
