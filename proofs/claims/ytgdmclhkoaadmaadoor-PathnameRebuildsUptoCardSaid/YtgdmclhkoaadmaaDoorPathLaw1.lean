/-
  The laws Order, Under and Subtrees of paths, walked.
-/
import Derived.Test.YtgdmclhkoaadmaaDoorPathAwake
namespace Go.Proofs.YtgdmclhkoaadmaaDoor
open Go.RowKit

theorem cmp_facts (a b : List UInt8) : (Path.cmp a b = -1 ∨ Path.cmp a b = 0 ∨ Path.cmp a b = 1) ∧ Path.cmp b a = - Path.cmp a b ∧ (Path.cmp a b == 0) = (a == b) := by
  have h := Path.cmpL_range (Path.els a) (Path.els b)
  refine ⟨by unfold Path.cmp; omega, Path.cmpL_swap _ _, ?_⟩
  rw [Bool.eq_iff_iff, beq_iff_eq, beq_iff_eq]
  constructor
  · intro e
    exact Sep.els_inj (q := 47) (Path.cmpL_eq e)
  · rintro rfl
    exact Path.cmpL_self _

set_option maxHeartbeats 2000000 in
theorem law_order (a0 a1 a2 : ByteArray) (_w0 : a0.size ≤ 140737488351232) (_w1 : a1.size ≤ 140737488351232) (_w2 : a2.size ≤ 140737488351232) (w : World) :
    Calls Tryd.prog 4 #[.string a0, .string a1, .string a2] w fun e w' => e = .returned (.bool true) ∧ Below w.heap.size w w' := by
  by_cases h0 : 200 < (a0.size : Int)
  · go_enter Tryd.func4, Tryd.ntmps4
    go_wp2_with (go_at_call 11; refine (awake31_any _).mono ?_; rintro e w1 ⟨rfl, hb1⟩)
    go_ret
    exact ⟨rfl, hb1⟩
  by_cases h1 : 200 < (a1.size : Int)
  · go_enter Tryd.func4, Tryd.ntmps4
    go_wp2_with (go_at_call 11; refine (awake31_any _).mono ?_; rintro e w1 ⟨rfl, hb1⟩)
    go_ret
    exact ⟨rfl, hb1⟩
  by_cases h2 : 200 < (a2.size : Int)
  · go_enter Tryd.func4, Tryd.ntmps4
    go_wp2_with (go_at_call 11; refine (awake31_any _).mono ?_; rintro e w1 ⟨rfl, hb1⟩)
    go_ret
    exact ⟨rfl, hb1⟩
  have cab := fun w => pcompare_any a0 a1 w (by omega) (by omega)
  have cbc := fun w => pcompare_any a1 a2 w (by omega) (by omega)
  have cba := fun w => pcompare_any a1 a0 w (by omega) (by omega)
  have cac := fun w => pcompare_any a0 a2 w (by omega) (by omega)
  obtain ⟨hN, hS, hZ⟩ := cmp_facts a0.data.toList a1.data.toList
  obtain ⟨hM, _, _⟩ := cmp_facts a1.data.toList a2.data.toList
  have hT := Path.cmpL_trans (a := Path.els a0.data.toList) (b := Path.els a1.data.toList) (c := Path.els a2.data.toList)
  change Path.cmp a0.data.toList a1.data.toList ≤ 0 → Path.cmp a1.data.toList a2.data.toList ≤ 0 → Path.cmp a0.data.toList a2.data.toList = min (Path.cmp a0.data.toList a1.data.toList) (Path.cmp a1.data.toList a2.data.toList) at hT
  rw [← Lib.toList_data a0, ← Lib.toList_data a1] at hZ
  rw [hS] at cba
  rw [Lib.toList_data, Lib.toList_data] at hZ
  rw [← Lib.toList_data a0, ← Lib.toList_data a1, ← Lib.toList_data a2] at *
  generalize Path.cmp a0.toList a1.toList = N at *
  generalize Path.cmp a1.toList a2.toList = M at *
  generalize Path.cmp a0.toList a2.toList = S at *
  rcases hN with rfl | rfl | rfl
  all_goals
    have hz := hZ.symm
    rcases hM with rfl | rfl | rfl
  all_goals
    first
      | (have hs := hT (by decide) (by decide)
         rw [hs] at cac
         clear hs)
      | skip
    clear hT hZ hS
    go_enter Tryd.func4, Tryd.ntmps4
    go_wp2_with fail
    refine (cab _).mono ?_
    rintro e w1 ⟨rfl, hb1⟩
    go_wp2_with fail
    refine (cbc _).mono ?_
    rintro e w2 ⟨rfl, hb2⟩
    go_wp2_with fail
    refine (cba _).mono ?_
    rintro e w3 ⟨rfl, hb3⟩
    have hb4 := bchain (bchain hb1 hb2) hb3
    clear hb1 hb2 hb3
    go_wp2_with fail
    first
      | (refine (awake31_any _).mono ?_
         rintro e w4 ⟨rfl, hb5⟩
         go_wp2_with fail
         go_ret
         exact ⟨rfl, bchain hb4 hb5⟩)
      | (refine (cac _).mono ?_
         rintro e w4 ⟨rfl, hb5⟩
         go_wp2_with fail
         refine (awake31_any _).mono ?_
         rintro e w5 ⟨rfl, hb6⟩
         go_wp2_with fail
         go_ret
         exact ⟨rfl, bchain (bchain hb4 hb5) hb6⟩)
end Go.Proofs.YtgdmclhkoaadmaaDoor
