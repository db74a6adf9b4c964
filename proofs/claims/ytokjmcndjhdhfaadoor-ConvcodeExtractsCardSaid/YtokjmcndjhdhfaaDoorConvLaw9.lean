/-
  The law ConvcodeExtracts, walked.
-/
import Derived.Test.YtokjmcndjhdhfaaDoorConvExtA
import Derived.Test.YtokjmcndjhdhfaaDoorConvRefX
namespace Go.Proofs.YtokjmcndjhdhfaaDoor
open Go.RowKit

set_option maxHeartbeats 1000000 in
theorem law_extracts (a0 : ByteArray) (w0 : a0.size ≤ 140737488351232) (w : World) :
    Calls Tryd.prog 3 #[.string a0] w fun e w' => e = .returned (.bool true) ∧ Below w.heap.size w w' := by
  by_cases hA : 2000 < (a0.size : Int)
  · go_enter Tryd.func3, Tryd.ntmps3
    go_wp2_with (go_at_call 11; refine (alive_any _).mono ?_; rintro e w1 ⟨rfl, hb1⟩)
    go_ret
    exact ⟨rfl, hb1⟩
  · have h1 := fun w => extract_all a0 w (by omega)
    have h2 := fun w => rextract_any a0 w (by omega)
    generalize (⟨(Conv.ansX a0.data.toList).toArray⟩ : ByteArray) = X at *
    generalize Conv.ansE a0.data.toList = E at *
    have H1 := Lib.hid h1
    have H2 := Lib.hid h2
    clear h1 h2
    have hX : (X.toList == X.toList) = true := by simp
    go_enter Tryd.func3, Tryd.ntmps3
    go_wp2_with (go_at_call 11; refine (alive_any _).mono ?_; rintro e w1 ⟨rfl, hb1⟩)
    refine (H1.out _).mono ?_
    rintro e w2 ⟨rfl, hb2⟩
    go_wp2_with fail
    refine (H2.out _).mono ?_
    rintro e w3 ⟨rfl, hb3⟩
    go_wp2_with fail
    go_ret
    exact ⟨rfl, bchain (bchain hb1 hb2) hb3⟩
end Go.Proofs.YtokjmcndjhdhfaaDoor
