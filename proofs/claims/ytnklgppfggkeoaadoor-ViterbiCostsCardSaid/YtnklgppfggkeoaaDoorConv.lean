/-
  The walks of convcode.cell and convcode.Next.
-/
import Derived.Test.YtnklgppfggkeoaaDoorShelf
import Derived.Test.YtnklgppfggkeoaaDoorBuilder
import Derived.Test.YtnklgppfggkeoaaDoorStr
import Derived.Test.YtnklgppfggkeoaaDoorConvPlain
import Derived.Laws.Bits128
import Derived.Deep.LoopGhost
import Derived.Deep.QuietTactic
import Derived.BigQuiet
import Derived.BigRegion
import Derived.RegionTactic
import Derived.Outline
namespace Go.Proofs.YtnklgppfggkeoaaDoor
open Go.RowKit

theorem i64_and3 (n : Int) : bits .and .i64 n 3 = n % 4 := by
  have h3 : (BitVec.ofInt 64 3).toNat = 2 ^ 2 - 1 := by decide
  have key : (BitVec.ofInt 64 n &&& BitVec.ofInt 64 3).toNat = (n % ((2 ^ 64 : Nat) : Int)).toNat % 2 ^ 2 := by
    rw [BitVec.toNat_and, BitVec.toNat_ofInt, h3, Nat.and_two_pow_sub_one_eq_mod]
  show IntKind.i64.wrap ((BitVec.ofInt 64 n &&& BitVec.ofInt 64 3).toNat : Nat) = n % 4
  rw [key, IntKind.wrap_i64]
  omega
theorem i64_and1 (n : Int) : bits .and .i64 n 1 = n % 2 := by
  have h3 : (BitVec.ofInt 64 1).toNat = 2 ^ 1 - 1 := by decide
  have key : (BitVec.ofInt 64 n &&& BitVec.ofInt 64 1).toNat = (n % ((2 ^ 64 : Nat) : Int)).toNat % 2 ^ 1 := by
    rw [BitVec.toNat_and, BitVec.toNat_ofInt, h3, Nat.and_two_pow_sub_one_eq_mod]
  show IntKind.i64.wrap ((BitVec.ofInt 64 n &&& BitVec.ofInt 64 1).toNat : Nat) = n % 2
  rw [key, IntKind.wrap_i64]
  omega

theorem cell0 (n : Int) (w : World) (h : n = 0 ∨ n = 2) :
    Calls Tryd.prog 32 #[.int .i64 n] w fun e w' => e = .returned (.string ⟨#[48]⟩) ∧ w' = w := by
  rcases h with rfl | rfl
  all_goals
    go_enter Tryd.func32, Tryd.ntmps32
    go_wp2_with fail
    go_ret
    exact ⟨rfl, rfl⟩
theorem cell1 (n : Int) (w : World) (h : n = 1 ∨ n = 3) :
    Calls Tryd.prog 32 #[.int .i64 n] w fun e w' => e = .returned (.string ⟨#[49]⟩) ∧ w' = w := by
  rcases h with rfl | rfl
  all_goals
    go_enter Tryd.func32, Tryd.ntmps32
    go_wp2_with fail
    go_ret
    exact ⟨rfl, rfl⟩

set_option maxHeartbeats 2000000 in
theorem next_any (state bit : Int) (p q u : Bool) (w : World) (hs : state % 4 = Conv.st p q) (hb : bit % 2 = Conv.bn u) :
    Calls Tryd.prog 18 #[.int .i64 state, .int .i64 bit] w fun e w' => e = .returned (.tuple #[.int .i64 (Conv.st u p), .string ⟨#[Conv.ch ((u ^^ p) ^^ q), Conv.ch (u ^^ q)]⟩]) ∧ w' = w := by
  have h1 := i64_and3 state
  have h2 := i64_and1 bit
  rw [hs] at h1
  rw [hb] at h2
  clear hs hb
  have k0 : bits .and .i64 0 1 = 0 := i64_and1 0
  have k1 : bits .and .i64 1 1 = 1 := i64_and1 1
  have k2 : bits .and .i64 2 1 = 0 := i64_and1 2
  have k3 : bits .and .i64 3 1 = 1 := i64_and1 3
  cases p <;> cases q <;> cases u
  all_goals
    simp [Conv.st, Conv.bn] at h1 h2
    go_enter Tryd.func18, Tryd.ntmps18
    go_wp2_with (go_at_call 32; first | (refine (cell0 _ _ (by decide)).mono ?_; rintro e w1 ⟨rfl, rfl⟩) | (refine (cell1 _ _ (by decide)).mono ?_; rintro e w1 ⟨rfl, rfl⟩))
    go_ret2
    exact ⟨rfl, rfl⟩
end Go.Proofs.YtnklgppfggkeoaaDoor
