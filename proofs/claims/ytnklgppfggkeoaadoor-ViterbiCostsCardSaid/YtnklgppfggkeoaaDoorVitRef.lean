/-
  The reference's checks.
-/
import Derived.Test.YtnklgppfggkeoaaDoorVitDec
import Derived.Test.YtnklgppfggkeoaaDoorRCheck
namespace Go.Proofs.YtnklgppfggkeoaaDoor
open Go.RowKit

theorem rvcheck_any (s : ByteArray) (w : World) (hs : s.size ≤ 9223372036854775807) :
    Calls Tryd.prog 27 #[.string s] w fun e w' => e = .returned (.int .i64 (vErr s.data.toList)) ∧ Below w.heap.size w w' := by
  have hl := toList_length s
  have hc : ∀ w, Calls Tryd.prog 39 #[.string s] w fun e w' => e = .returned (.int .i64 (Cells.err s.data.toList)) ∧ Below w.heap.size w w' := fun w => (rcheck_any s w hs).mono fun e w' h => ⟨h.1, h.2 ▸ Below.refl _ _⟩
  cases hok : Cells.ok s.data.toList
  · have e1 : Cells.err s.data.toList = 3 := by unfold Cells.err; rw [hok]; rfl
    have e2 : vErr s.data.toList = 3 := by unfold vErr; rw [if_neg (by rw [hok]; decide)]
    rw [e1] at hc
    rw [e2]
    have HC := Lib.hid hc
    clear hc e1 e2 hok
    go_enter Tryd.func27, Tryd.ntmps27
    go_wp2_with fail
    refine (HC.out _).mono ?_
    rintro e w1 ⟨rfl, hb1⟩
    go_wp2_with fail
    go_ret
    exact ⟨rfl, hb1⟩
  · have e1 : Cells.err s.data.toList = 0 := by unfold Cells.err; rw [hok]; rfl
    rw [e1] at hc
    have HC := Lib.hid hc
    by_cases h2 : s.size % 2 = 0 ∧ 4 ≤ s.size
    · have e2 : vErr s.data.toList = 0 := by unfold vErr; rw [if_pos hok, if_pos (by rw [hl]; exact h2)]
      rw [e2]
      have hn : ((s.size : Int) % 2 != 0) = false := by rw [bne_eq_false_iff_eq]; omega
      have h4 : 4 ≤ s.size := h2.2
      clear hc e1 e2 hok h2
      go_enter Tryd.func27, Tryd.ntmps27
      go_wp2_with fail
      refine (HC.out _).mono ?_
      rintro e w1 ⟨rfl, hb1⟩
      go_wp2_with fail
      go_ret
      exact ⟨rfl, hb1⟩
    · have e2 : vErr s.data.toList = 4 := by unfold vErr; rw [if_pos hok, if_neg (by rw [hl]; exact h2)]
      rw [e2]
      have hn : (((s.size : Int) % 2 != 0) = true) ∨ (((s.size : Int) % 2 != 0) = false ∧ (s.size : Int) < 4) := by
        by_cases e : s.size % 2 = 0
        · right
          refine ⟨by rw [bne_eq_false_iff_eq]; omega, by omega⟩
        · left
          rw [bne_iff_ne]
          omega
      clear hc e1 e2 hok h2
      rcases hn with hn | ⟨hn, hn2⟩
      all_goals
        go_enter Tryd.func27, Tryd.ntmps27
        go_wp2_with fail
        refine (HC.out _).mono ?_
        rintro e w1 ⟨rfl, hb1⟩
        go_wp2_with fail
        go_ret
        exact ⟨rfl, hb1⟩

end Go.Proofs.YtnklgppfggkeoaaDoor
