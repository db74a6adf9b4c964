/-
  The law ViterbiResult.
-/
import Derived.Test.YtnklgppfggkeoaaDoorVitRefD
import Derived.Test.YtnklgppfggkeoaaDoorVitLaw1
namespace Go.Proofs.YtnklgppfggkeoaaDoor
open Go.RowKit

theorem rdecode_any (s : ByteArray) (w : World) (hs : s.size ≤ 4000) :
    Calls Tryd.prog 13 #[.string s] w fun e w' => e = .returned (.tuple #[.string ⟨(Vit.decX s.data.toList).toArray⟩, .int .i64 (Vit.decN s.data.toList), .bool (Vit.decO s.data.toList), .int .i64 (vErr s.data.toList)]) ∧ Below w.heap.size w w' := by
  have hl := toList_length s
  by_cases h : vErr s.data.toList = 0
  · obtain ⟨e1, e2, e3⟩ := Vit.dec_ok h
    obtain ⟨h1, h2, h3⟩ := Vit.err_zero h
    rw [e1, e2, e3, h]
    exact rdecode_ok s (s.size / 2) (by omega) (by omega) (by omega) h w
  · obtain ⟨e1, e2, e3⟩ := Vit.dec_bad h
    rw [e1, e2, e3]
    exact rdecode_bad s w (by omega) h

set_option maxHeartbeats 1000000 in
theorem law_result (s : ByteArray) (_hs : s.size ≤ 140737488351232) (w : World) : Calls Tryd.prog 3 #[.string s] w fun e w' => e = .returned (.bool true) ∧ Below w.heap.size w w' := by
  have caw := fun w => awake_any w
  by_cases hbig : 1000 < s.size
  · go_enter Tryd.func3, Tryd.ntmps3
    go_wp2_with fail
    refine (caw _).mono ?_
    rintro e w1 ⟨rfl, hb1⟩
    go_wp2_with fail
    go_ret
    exact ⟨rfl, hb1⟩
  have h1 := fun w => decode_any s w (by omega)
  have h2 := fun w => rdecode_any s w (by omega)
  generalize (⟨(Vit.decX s.data.toList).toArray⟩ : ByteArray) = X at *
  generalize Vit.decN s.data.toList = N at *
  generalize Vit.decO s.data.toList = O at *
  generalize vErr s.data.toList = E at *
  go_enter Tryd.func3, Tryd.ntmps3
  go_wp2_with fail
  refine (h1 _).mono ?_
  rintro e w1 ⟨rfl, hb1⟩
  go_wp2_with fail
  refine (h2 _).mono ?_
  rintro e w2 ⟨rfl, hb2⟩
  go_wp2_with fail
  refine (caw _).mono ?_
  rintro e w3 ⟨rfl, hb3⟩
  go_wp2_with fail
  go_ret
  exact ⟨rfl, bchain (bchain hb1 hb2) hb3⟩
end Go.Proofs.YtnklgppfggkeoaaDoor
