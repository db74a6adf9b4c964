/-
  The reference's mismatch.
-/
import Derived.Test.YtnklgppfggkeoaaDoorVitRef
import Derived.BigQuiet
namespace Go.Proofs.YtnklgppfggkeoaaDoor
open Go.RowKit

set_option maxHeartbeats 2000000 in
theorem rmis_any (s O : ByteArray) (k : Nat) (hk : 2 * k + 1 < s.size) (hs : s.size ≤ 4000) (hO : O.size = 2) (r1 r2 : Bool) (d1 : Hid ((((s[2 * k]).toNat : Int) != 63 && ((s[2 * k]).toNat : Int) != ((O[0]).toNat : Int)) = r1)) (d2 : Hid ((((s[2 * k + 1]).toNat : Int) != 63 && ((s[2 * k + 1]).toNat : Int) != ((O[1]).toNat : Int)) = r2)) (M : Int) (hM : Hid (M = (if r1 then 1 else 0) + if r2 then 1 else 0)) (w : World) :
    Calls Tryd.prog 30 #[.string s, .int .i64 k, .string O] w fun e w' => e = .returned (.int .i64 M) ∧ ∃ n, w' = w.drewN n := by
  have k1 : IntKind.i64.wrap (2 * (k : Int)) = 2 * (k : Int) := IntWalk.i64_in _ (by omega)
  have k2 : IntKind.i64.wrap (2 * (k : Int) + 1) = 2 * (k : Int) + 1 := IntWalk.i64_in _ (by omega)
  have q1 : (0 : Int) ≤ 2 * (k : Int) := by omega
  have q2 : (0 : Int) ≤ 2 * (k : Int) + 1 := by omega
  have q3 : 2 * (k : Int) < (s.size : Int) := by omega
  have q4 : 2 * (k : Int) + 1 < (s.size : Int) := by omega
  have q5 : (2 * (k : Int)).toNat = 2 * k := by omega
  have q6 : (2 * (k : Int) + 1).toNat = 2 * k + 1 := by omega
  go_enter Tryd.func30, Tryd.ntmps30
  go_wp2_with fail
  go_loopg [7, 8] 2 (fun g nv iv wr => ∃ (j : Nat) (m : Int), g = 2 - j ∧ iv = .int .i64 j ∧ nv = .int .i64 m ∧ (∃ q, wr = w.drewN q) ∧ ((j = 0 ∧ m = 0) ∨ (j = 1 ∧ m = if r1 then 1 else 0) ∨ (j = 2 ∧ m = (if r1 then 1 else 0) + if r2 then 1 else 0)))
  case atStart => exact ⟨0, 0, rfl, rfl, rfl, ⟨0, rfl⟩, .inl ⟨rfl, rfl⟩⟩
  case round =>
    obtain ⟨j, m, hg, rfl, rfl, ⟨q, rfl⟩, hj⟩ := hrel
    rcases hj with ⟨rfl, rfl⟩ | ⟨rfl, hm⟩ | ⟨rfl, hm⟩
    · have HG := Lib.hid hg
      clear hg
      cases h : (((s[2 * k]).toNat : Int) != 63)
      · go_wp2_with fail
        go_quiet (fail)
        go_wp2_with fail
        go_roundg (2 - 1)
        case measure => have := HG.out; omega
        case rel => exact ⟨1, _, rfl, rfl, rfl, by first | exact ⟨_, rfl⟩ | exact ⟨_, World.drewN_drewN _ _ _⟩, .inr (.inl ⟨rfl, by rw [← d1.out, h, Bool.false_and]; first | rfl | simp⟩)⟩
      · cases h2 : (((s[2 * k]).toNat : Int) != ((O[0]).toNat : Int))
        · go_wp2_with fail
          go_quiet (fail)
          go_wp2_with fail
          go_roundg (2 - 1)
          case measure => have := HG.out; omega
          case rel => exact ⟨1, _, rfl, rfl, rfl, by first | exact ⟨_, rfl⟩ | exact ⟨_, World.drewN_drewN _ _ _⟩, .inr (.inl ⟨rfl, by rw [← d1.out, h, h2]; first | rfl | simp⟩)⟩
        · go_wp2_with fail
          go_quiet (fail)
          go_wp2_with fail
          go_roundg (2 - 1)
          case measure => have := HG.out; omega
          case rel => exact ⟨1, _, rfl, rfl, rfl, by first | exact ⟨_, rfl⟩ | exact ⟨_, World.drewN_drewN _ _ _⟩, .inr (.inl ⟨rfl, by rw [← d1.out, h, h2]; first | rfl | simp⟩)⟩
    · have HG := Lib.hid hg
      clear hg
      have hmr : 0 ≤ m ∧ m ≤ 1 := by rw [hm]; cases r1 <;> decide
      have HM := Lib.hid hm
      clear hm
      cases h : (((s[2 * k + 1]).toNat : Int) != 63)
      · go_wp2_with fail
        go_quiet (fail)
        go_wp2_with fail
        go_roundg (2 - 2)
        case measure => have := HG.out; omega
        case rel => exact ⟨2, _, rfl, rfl, rfl, by first | exact ⟨_, rfl⟩ | exact ⟨_, World.drewN_drewN _ _ _⟩, .inr (.inr ⟨rfl, by rw [HM.out, ← d2.out, h, Bool.false_and]; first | rfl | simp⟩)⟩
      · cases h2 : (((s[2 * k + 1]).toNat : Int) != ((O[1]).toNat : Int))
        · go_wp2_with fail
          go_quiet (fail)
          go_wp2_with fail
          go_roundg (2 - 2)
          case measure => have := HG.out; omega
          case rel => exact ⟨2, _, rfl, rfl, rfl, by first | exact ⟨_, rfl⟩ | exact ⟨_, World.drewN_drewN _ _ _⟩, .inr (.inr ⟨rfl, by rw [HM.out, ← d2.out, h, h2]; first | rfl | simp⟩)⟩
        · go_wp2_with fail
          go_quiet (fail)
          go_wp2_with fail
          go_roundg (2 - 2)
          case measure => have := HG.out; omega
          case rel => exact ⟨2, _, rfl, rfl, rfl, by first | exact ⟨_, rfl⟩ | exact ⟨_, World.drewN_drewN _ _ _⟩, .inr (.inr ⟨rfl, by rw [HM.out, ← d2.out, h, h2]; first | rfl | simp⟩)⟩
    · have hmM : m = M := by rw [hm, hM.out]
      clear hm
      subst hmM
      go_wp2_with fail
      go_ret
      exact ⟨rfl, _, rfl⟩

/-- The mismatch of two cells and an output. -/
theorem rmis_q (s : ByteArray) (k : Nat) (hk : 2 * k + 1 < s.size) (hs : s.size ≤ 4000) (p q u : Bool) (w : World) :
    Calls Tryd.prog 30 #[.string s, .int .i64 k, .string ⟨#[Conv.ch ((u ^^ p) ^^ q), Conv.ch (u ^^ q)]⟩] w fun e w' => e = .returned (.int .i64 (Vit.mis s[2 * k] s[2 * k + 1] p q u)) ∧ ∃ n, w' = w.drewN n :=
  rmis_any s ⟨#[Conv.ch ((u ^^ p) ^^ q), Conv.ch (u ^^ q)]⟩ k hk hs rfl _ _ (Lib.hid rfl) (Lib.hid rfl) _ (by
    show _ = _
    rw [Vit.mis, mis1_walk s[2 * k] _ _ rfl, mis1_walk s[2 * k + 1] _ _ rfl]
    rfl) w
end Go.Proofs.YtnklgppfggkeoaaDoor
