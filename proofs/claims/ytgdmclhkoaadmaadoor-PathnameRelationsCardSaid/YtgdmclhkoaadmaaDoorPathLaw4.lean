/-
  The laws Checks, Joins and Relations of paths, walked.
-/
import Derived.Test.YtgdmclhkoaadmaaDoorPathRef3
import Derived.Test.YtgdmclhkoaadmaaDoorPathRef4
namespace Go.Proofs.YtgdmclhkoaadmaaDoor
open Go.RowKit

set_option maxHeartbeats 2000000 in
theorem law_checks (a0 : ByteArray) (_w0 : a0.size ≤ 140737488351232) (w : World) :
    Calls Tryd.prog 3 #[.string a0] w fun e w' => e = .returned (.bool true) ∧ Below w.heap.size w w' := by
  by_cases h0 : 300 < (a0.size : Int)
  · go_enter Tryd.func3, Tryd.ntmps3
    go_wp2_with (go_at_call 11; refine (awake31_any _).mono ?_; rintro e w1 ⟨rfl, hb1⟩)
    go_ret
    exact ⟨rfl, hb1⟩
  have caw := fun w => awake31_any w
  have csp := fun w => psplit_any a0 w (by omega)
  have crs := fun w => rsplit31_any a0 w (by omega)
  have cpp := fun w => parent_any a0 w (by omega)
  have crp := fun w => rparent_any a0 w (by omega)
  have cck := fun w => pcheck_any a0 w (by omega)
  have crk := fun w => rcheck31_any a0 w (by omega)
  have hz := Path.comps_le a0
  generalize Path.err a0.data.toList = E at *
  generalize Path.comps a0.data.toList = xs at *
  generalize (⟨(Path.parentV a0.data.toList).toArray⟩ : ByteArray) = V at *
  generalize Path.parentE a0.data.toList = F at *
  have hV : (V.toList == V.toList) = true := beq_self_eq_true _
  have hE : (E == E) = true := beq_self_eq_true _
  have hF : (F == F) = true := beq_self_eq_true _
  go_enter Tryd.func3, Tryd.ntmps3
  go_wp2_with fail
  refine (csp _).mono ?_
  rintro e w1 ⟨v1, rfl, ho1, hb1⟩
  obtain ⟨ao1, cap1, rfl, _⟩ := ho1.form
  rw [strsL_length] at ho1 ⊢
  go_wp2_with fail
  refine (crs _).mono ?_
  rintro e w2 ⟨v2, rfl, ho2, hb2⟩
  obtain ⟨ao2, cap2, rfl, _⟩ := ho2.form
  rw [strsL_length] at ho2 ⊢
  have s1 := (ho1.below hb2 (Nat.le_refl _)).read
  have s2 := ho2.read
  have hb3 := bchain hb1 hb2
  clear ho1 ho2 hb1 hb2
  go_wp2_with fail
  refine (cpp _).mono ?_
  rintro e w3 ⟨rfl, hb4⟩
  replace s1 := s1.below hb4
  replace s2 := s2.below hb4
  have hb5 := bchain hb3 hb4
  clear hb3 hb4
  go_wp2_with fail
  refine (crp _).mono ?_
  rintro e w4 ⟨rfl, hb4⟩
  replace s1 := s1.below hb4
  replace s2 := s2.below hb4
  have hb6 := bchain hb5 hb4
  clear hb5 hb4
  go_wp2_with fail
  refine (cck _).mono ?_
  rintro e w5 ⟨rfl, hb4⟩
  replace s1 := s1.below hb4
  replace s2 := s2.below hb4
  have hb7 := bchain hb6 hb4
  clear hb6 hb4
  go_wp2_with fail
  refine (crk _).mono ?_
  rintro e w6 ⟨rfl, hb4⟩
  replace s1 := s1.below hb4
  replace s2 := s2.below hb4
  have hb8 := bchain hb7 hb4
  clear hb7 hb4
  have hsm := same31_any ao1 ao2 xs.length cap1 xs.length cap2 xs xs w6 s1 s2 (by omega) (by omega)
  rw [beq_self_eq_true] at hsm
  clear s1 s2
  go_wp2_with fail
  refine hsm.mono ?_
  rintro e w7 ⟨rfl, q, rfl⟩
  go_wp2_with fail
  refine (caw _).mono ?_
  rintro e w8 ⟨rfl, hb9⟩
  go_wp2_with fail
  go_ret
  exact ⟨rfl, bchain (below_drewN hb8 q) hb9⟩

set_option maxHeartbeats 2000000 in
theorem law_joins (a0 a1 : ByteArray) (_w0 : a0.size ≤ 140737488351232) (_w1 : a1.size ≤ 140737488351232) (w : World) :
    Calls Tryd.prog 5 #[.string a0, .string a1] w fun e w' => e = .returned (.bool true) ∧ Below w.heap.size w w' := by
  by_cases h0 : 300 < (a0.size : Int)
  · go_enter Tryd.func5, Tryd.ntmps5
    go_wp2_with (go_at_call 11; refine (awake31_any _).mono ?_; rintro e w1 ⟨rfl, hb1⟩)
    go_ret
    exact ⟨rfl, hb1⟩
  by_cases h1 : 300 < (a1.size : Int)
  · go_enter Tryd.func5, Tryd.ntmps5
    go_wp2_with (go_at_call 11; refine (awake31_any _).mono ?_; rintro e w1 ⟨rfl, hb1⟩)
    go_ret
    exact ⟨rfl, hb1⟩
  have caw := fun w => awake31_any w
  have cj := fun w => pjoin_any a0 a1 w (by omega)
  have cr := fun w => rjoin_any a0 a1 w (by omega) (by omega)
  generalize (⟨(Path.joinV a0.data.toList a1.data.toList).toArray⟩ : ByteArray) = V at *
  generalize Path.joinE a0.data.toList a1.data.toList = F at *
  have hV : (V.toList == V.toList) = true := beq_self_eq_true _
  have hF : (F == F) = true := beq_self_eq_true _
  go_enter Tryd.func5, Tryd.ntmps5
  go_wp2_with fail
  refine (cj _).mono ?_
  rintro e w1 ⟨rfl, hb1⟩
  go_wp2_with fail
  refine (cr _).mono ?_
  rintro e w2 ⟨rfl, hb2⟩
  go_wp2_with fail
  refine (caw _).mono ?_
  rintro e w8 ⟨rfl, hb9⟩
  go_wp2_with fail
  go_ret
  exact ⟨rfl, bchain (bchain hb1 hb2) hb9⟩

set_option maxHeartbeats 2000000 in
theorem law_relations (a0 a1 : ByteArray) (_w0 : a0.size ≤ 140737488351232) (_w1 : a1.size ≤ 140737488351232) (w : World) :
    Calls Tryd.prog 7 #[.string a0, .string a1] w fun e w' => e = .returned (.bool true) ∧ Below w.heap.size w w' := by
  by_cases h0 : 300 < (a0.size : Int)
  · go_enter Tryd.func7, Tryd.ntmps7
    go_wp2_with (go_at_call 11; refine (awake31_any _).mono ?_; rintro e w1 ⟨rfl, hb1⟩)
    go_ret
    exact ⟨rfl, hb1⟩
  by_cases h1 : 300 < (a1.size : Int)
  · go_enter Tryd.func7, Tryd.ntmps7
    go_wp2_with (go_at_call 11; refine (awake31_any _).mono ?_; rintro e w1 ⟨rfl, hb1⟩)
    go_ret
    exact ⟨rfl, hb1⟩
  have caw := fun w => awake31_any w
  have cu := fun w => under_any a0 a1 w (by omega) (by omega)
  have ru := fun w => runder_any a0 a1 w (by omega) (by omega)
  have cc := fun w => pcompare_any a0 a1 w (by omega) (by omega)
  have rc := fun w => rcompare_any a0 a1 w (by omega) (by omega)
  generalize Path.under a0.data.toList a1.data.toList = U at *
  generalize Path.cmp a0.data.toList a1.data.toList = C at *
  have hU : (U == U) = true := beq_self_eq_true _
  have hC : (C == C) = true := beq_self_eq_true _
  go_enter Tryd.func7, Tryd.ntmps7
  go_wp2_with fail
  refine (cu _).mono ?_
  rintro e w1 ⟨rfl, hb1⟩
  go_wp2_with fail
  refine (ru _).mono ?_
  rintro e w2 ⟨rfl, hb2⟩
  go_wp2_with fail
  refine (cc _).mono ?_
  rintro e w3 ⟨rfl, hb3⟩
  go_wp2_with fail
  refine (rc _).mono ?_
  rintro e w4 ⟨rfl, hb4⟩
  have hb5 := bchain (bchain (bchain hb1 hb2) hb3) hb4
  clear hb1 hb2 hb3 hb4
  go_wp2_with fail
  refine (caw _).mono ?_
  rintro e w8 ⟨rfl, hb9⟩
  go_wp2_with fail
  go_ret
  exact ⟨rfl, bchain hb5 hb9⟩
end Go.Proofs.YtgdmclhkoaadmaaDoor
