/-
  The law ConvcodeEncodes, walked.
-/
import Derived.Test.YtokjmcndjhdhfaaDoorConvLaw1
import Derived.Test.YtokjmcndjhdhfaaDoorConvRefE
namespace Go.Proofs.YtokjmcndjhdhfaaDoor
open Go.RowKit

theorem law_encodes_0 (a0 : ByteArray) (h : (2000 < (a0.size : Int) ∧ (a0.size : Int) ≤ 65536) ∨ 70000 < (a0.size : Int)) (w : World) :
    Calls Tryd.prog 8 #[.string a0] w fun e w' => e = .returned (.bool true) ∧ Below w.heap.size w w' := by
  rcases h with ⟨h1, h2⟩ | h
  · go_enter Tryd.func8, Tryd.ntmps8
    go_wp2_with (go_at_call 11; refine (alive_any _).mono ?_; rintro e w1 ⟨rfl, hb1⟩)
    go_ret
    exact ⟨rfl, hb1⟩
  · have h1 : ¬ (a0.size : Int) ≤ 65536 := by omega
    have h2 : 2000 < (a0.size : Int) := by omega
    go_enter Tryd.func8, Tryd.ntmps8
    go_wp2_with (go_at_call 11; refine (alive_any _).mono ?_; rintro e w1 ⟨rfl, hb1⟩)
    go_ret
    exact ⟨rfl, hb1⟩

set_option maxHeartbeats 2000000 in
theorem law_encodes_1 (a0 : ByteArray) (h : (a0.size : Int) ≤ 2000 ∨ (65536 < (a0.size : Int) ∧ (a0.size : Int) ≤ 70000)) (w : World) :
    Calls Tryd.prog 8 #[.string a0] w fun e w' => e = .returned (.bool true) ∧ Below w.heap.size w w' := by
  have z0 : a0.size ≤ 9223372036854775807 := by omega
  have h1 := fun w => encode_any a0 w z0
  have h2 := fun w => rencode_any a0 w z0
  have h3 := fun w => weight_any a0 w z0
  have h4 := fun w => rweight_any a0 w z0
  generalize Conv.weight (Conv.encX a0.data.toList) = N at *
  generalize (⟨(Conv.encX a0.data.toList).toArray⟩ : ByteArray) = X at *
  generalize Conv.encE a0.data.toList = E at *
  have H1 := Lib.hid h1
  have H2 := Lib.hid h2
  have H3 := Lib.hid h3
  have H4 := Lib.hid h4
  clear h1 h2 h3 h4
  have hX : (X.toList == X.toList) = true := by simp
  rcases h with h | ⟨h, h'⟩
  all_goals
    go_enter Tryd.func8, Tryd.ntmps8
    go_wp2_with (go_at_call 11; refine (alive_any _).mono ?_; rintro e w1 ⟨rfl, hb1⟩)
    refine (H1.out _).mono ?_
    rintro e w2 ⟨rfl, hb2⟩
    go_wp2_with fail
    refine (H2.out _).mono ?_
    rintro e w3 ⟨rfl, hb3⟩
    have hc3 := bchain (bchain hb1 hb2) hb3
    clear hb1 hb2 hb3
    go_wp2_with fail
    refine (H3.out _).mono ?_
    rintro e w4 ⟨rfl, hb4⟩
    go_wp2_with fail
    refine (H4.out _).mono ?_
    rintro e w5 ⟨rfl, hb5⟩
    have hc5 := bchain (bchain hc3 hb4) hb5
    clear hc3 hb4 hb5
    go_wp2_with fail
    go_ret
    exact ⟨rfl, hc5⟩

theorem law_encodes (a0 : ByteArray) (_w0 : a0.size ≤ 140737488351232) (w : World) :
    Calls Tryd.prog 8 #[.string a0] w fun e w' => e = .returned (.bool true) ∧ Below w.heap.size w w' := by
  by_cases h : (2000 < (a0.size : Int) ∧ (a0.size : Int) ≤ 65536) ∨ 70000 < (a0.size : Int)
  · exact law_encodes_0 a0 h w
  · exact law_encodes_1 a0 (by omega) w
end Go.Proofs.YtokjmcndjhdhfaaDoor
