/-
  The generator of the ager and its reference; remainders.
-/
import Derived.Test.YtghpolfmhnnbaaaDoorProg
import Derived.Test.YtghpolfmhnnbaaaDoorStr
import Derived.Laws.Bits64
namespace Go.Proofs.YtghpolfmhnnbaaaDoor
open Go.RowKit

/-- The generator's next state, and its number. -/
def gS (s : Int) : Int := IntKind.u64.wrap (s + 11400714819323198485)
def gM1 (z : Int) : Int := IntKind.u64.wrap (bits BinOp.xor IntKind.u64 z (z / 1073741824) * 13787848793156543929)
def gM2 (z : Int) : Int := IntKind.u64.wrap (bits BinOp.xor IntKind.u64 z (z / 134217728) * 10723151780598845931)
def gV (s : Int) : Int := bits BinOp.xor IntKind.u64 (gM2 (gM1 (gS s))) (gM2 (gM1 (gS s)) / 2147483648)
def modV (x : Int) (n : Nat) : Int := if n = 0 then 0 else x % n

theorem wrap_bd (n : Int) : 0 ≤ IntKind.u64.wrap n ∧ IntKind.u64.wrap n ≤ 18446744073709551615 := by
  rw [IntKind.wrap_u64]
  omega
theorem xor_bd {a b : Int} (h0 : 0 ≤ a) (h1 : a ≤ 18446744073709551615) (h2 : 0 ≤ b) (h3 : b ≤ 18446744073709551615) : 0 ≤ bits BinOp.xor IntKind.u64 a b ∧ bits BinOp.xor IntKind.u64 a b ≤ 18446744073709551615 := by
  obtain ⟨x, rfl⟩ : ∃ x : Nat, a = x := ⟨a.toNat, by omega⟩
  obtain ⟨y, rfl⟩ : ∃ y : Nat, b = y := ⟨b.toNat, by omega⟩
  rw [bits_xor_u64_nat x y (by omega) (by omega)]
  have := Nat.xor_lt_two_pow (n := 64) (x := x) (y := y) (by omega) (by omega)
  omega
theorem gV_bd (s : Int) : 0 ≤ gV s ∧ gV s ≤ 18446744073709551615 := by
  have h := wrap_bd (bits BinOp.xor IntKind.u64 (gM1 (gS s)) (gM1 (gS s) / 134217728) * 10723151780598845931)
  have e : gM2 (gM1 (gS s)) = IntKind.u64.wrap (bits BinOp.xor IntKind.u64 (gM1 (gS s)) (gM1 (gS s) / 134217728) * 10723151780598845931) := rfl
  rw [← e] at h
  unfold gV
  exact xor_bd h.1 h.2 (by omega) (by omega)
theorem modV_bd (x : Int) (n : Nat) : 0 ≤ modV x n ∧ modV x n ≤ n ∧ (0 < n → modV x n < n) := by
  unfold modV
  split
  · omega
  · have hz3 : (n : Int) ≠ 0 := by omega
    have hm0 := Int.emod_nonneg x hz3
    have hm1 := Int.emod_lt_of_pos x (show (0 : Int) < n by omega)
    omega

set_option maxHeartbeats 1000000 in
theorem gen_any (b : Nat) (s : Int) (w : World) (hc : w.cell? ⟨b, 0, none⟩ = some (.int .u64 s)) (hf : w.frozen? ⟨b, 0, none⟩ = false) :
    Calls Tryd.prog 38 #[.pointer (some ⟨b, 0, none⟩)] w fun e w' => e = .returned (.int .u64 (gV s)) ∧ w' = w.setCell ⟨b, 0, none⟩ (.int .u64 (gS s)) := by
  go_enter Tryd.func38, Tryd.ntmps38
  go_wp2_with fail
  go_ret
  exact ⟨rfl, rfl⟩
theorem mod_any (x : Int) (n : Nat) (w : World) (h0 : 0 ≤ x) (h1 : x ≤ 18446744073709551615) (hn : n ≤ 9223372036854775807) :
    Calls Tryd.prog 17 #[.int .u64 x, .int .i64 n] w fun e w' => e = .returned (.int .i64 (modV x n)) ∧ w' = w := by
  unfold modV
  by_cases hz : n = 0
  · subst hz
    rw [if_pos rfl]
    go_enter Tryd.func17, Tryd.ntmps17
    go_wp2_with fail
    go_ret
    exact ⟨rfl, rfl⟩
  · rw [if_neg hz]
    have hz2 : ((n : Int) == 0) = false := beq_eq_false_iff_ne.2 (by omega)
    have hz3 : (n : Int) ≠ 0 := by omega
    have hm0 := Int.emod_nonneg x hz3
    have hm1 := Int.emod_lt_of_pos x (show (0 : Int) < n by omega)
    go_enter Tryd.func17, Tryd.ntmps17
    go_wp2_with fail
    go_ret
    refine ⟨?_, rfl⟩
    rfl
end Go.Proofs.YtghpolfmhnnbaaaDoor
