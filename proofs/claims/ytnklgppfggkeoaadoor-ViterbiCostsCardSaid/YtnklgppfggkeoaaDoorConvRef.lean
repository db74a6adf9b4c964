/-
  The walks of the reference of layer 9: mod, Next, Encode, Weight.
-/
import Derived.Test.YtnklgppfggkeoaaDoorProg
import Derived.Test.YtnklgppfggkeoaaDoorStr
import Derived.Test.YtnklgppfggkeoaaDoorConvRefP
import Derived.Laws.BitsAllLaws
namespace Go.Proofs.YtnklgppfggkeoaaDoor
open Go.RowKit

theorem mod_any (n m : Int) (w : World) (hm : m = 2 ∨ m = 4) (h0 : -9223372036854775808 ≤ n) (h1 : n ≤ 9223372036854775807) :
    Calls Tryd.prog 41 #[.int .i64 n, .int .i64 m] w fun e w' => e = .returned (.int .i64 (n % m)) ∧ w = w' := by
  rcases hm with rfl | rfl
  · by_cases hn : 0 ≤ n
    · go_enter Tryd.func41, Tryd.ntmps41
      go_wp2_with fail
      go_ret
      exact ⟨rfl, rfl⟩
    · have hr : n.tmod 2 = -((-n) % 2) := by rw [← Int.tmod_eq_emod_of_nonneg (by omega), Int.neg_tmod, Int.neg_neg]
      have hlo : -((-n) % 2) = -1 ∨ -((-n) % 2) = 0 := by omega
      rcases hlo with h | h
      · rw [h] at hr
        go_enter Tryd.func41, Tryd.ntmps41
        go_wp2_with fail
        go_ret
        exact ⟨ret_int (by omega), rfl⟩
      · rw [h] at hr
        go_enter Tryd.func41, Tryd.ntmps41
        go_wp2_with fail
        go_ret
        exact ⟨ret_int (by omega), rfl⟩
  · by_cases hn : 0 ≤ n
    · go_enter Tryd.func41, Tryd.ntmps41
      go_wp2_with fail
      go_ret
      exact ⟨rfl, rfl⟩
    · have hr : n.tmod 4 = -((-n) % 4) := by rw [← Int.tmod_eq_emod_of_nonneg (by omega), Int.neg_tmod, Int.neg_neg]
      have hlo : -((-n) % 4) = -1 ∨ -((-n) % 4) = -2 ∨ -((-n) % 4) = -3 ∨ -((-n) % 4) = 0 := by omega
      rcases hlo with h | h | h | h
      all_goals
        rw [h] at hr
        go_enter Tryd.func41, Tryd.ntmps41
        go_wp2_with fail
        go_ret
        exact ⟨ret_int (by omega), rfl⟩

theorem conv2 (w : World) (x y : UInt8) (a b : Int) (ha : a = x.toNat) (hb : b = y.toNat) :
    (convert 40 9 (.slice (some ⟨w.heap.size, 0, none⟩) 2 2)).run Tryd.prog (w.alloc (.cells #[.int .u8 a, .int .u8 b] 5)).drew = .ok (.string ⟨#[x, y]⟩) (w.alloc (.cells #[.int .u8 a, .int .u8 b] 5)).drew := by
  subst ha
  subst hb
  exact conv_row (P := Tryd.prog) 40 5 9 Tryd.underlying40 Tryd.underlying5 Tryd.underlying9 (Row.lit2 (w := w) [x, y] _ rfl).drew 2 2 rfl

set_option maxHeartbeats 2000000 in
theorem rnext_any (state bit : Int) (p q u : Bool) (w : World) (hs : state % 4 = Conv.st p q) (hb : bit % 2 = Conv.bn u) (s0 : -9223372036854775808 ≤ state) (s1 : state ≤ 9223372036854775807) (b0 : -9223372036854775808 ≤ bit) (b1 : bit ≤ 9223372036854775807) :
    Calls Tryd.prog 29 #[.int .i64 state, .int .i64 bit] w fun e w' => e = .returned (.tuple #[.int .i64 (Conv.st u p), .string ⟨#[Conv.ch ((u ^^ p) ^^ q), Conv.ch (u ^^ q)]⟩]) ∧ Below w.heap.size w w' := by
  have h1 := fun w => mod_any state 4 w (Or.inr rfl) s0 s1
  have h2 := fun w => mod_any bit 2 w (Or.inl rfl) b0 b1
  rw [hs] at h1
  rw [hb] at h2
  clear hs hb
  have c00 := conv2 w 48 48 48 48 rfl rfl
  have c01 := conv2 w 48 49 48 49 rfl rfl
  have c10 := conv2 w 49 48 49 48 rfl rfl
  have c11 := conv2 w 49 49 49 49 rfl rfl
  cases p <;> cases q <;> cases u
  all_goals
    simp only [Conv.st, Conv.bn] at h1 h2
    have H1 := Lib.hid h1
    have H2 := Lib.hid h2
    clear h1 h2
    go_enter Tryd.func29, Tryd.ntmps29
    go_wp2_with fail
    refine (H1.out _).mono ?_
    rintro e w1 ⟨rfl, rfl⟩
    go_wp2_with fail
    refine (H2.out _).mono ?_
    rintro e w1 ⟨rfl, rfl⟩
    go_wp2_with fail
    go_region
    all_goals
      go_wp2_with fail
      go_ret2
      exact ⟨rfl, (Below.refl _ _).drew.alloc (by simp) _⟩
end Go.Proofs.YtnklgppfggkeoaaDoor
