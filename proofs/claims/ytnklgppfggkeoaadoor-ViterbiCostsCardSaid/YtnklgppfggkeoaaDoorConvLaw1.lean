/-
  Encode and Weight in one form; the chapter's example; xor; the law ConvcodeShift.
-/
import Derived.Test.YtnklgppfggkeoaaDoorConvExt
import Derived.Test.YtnklgppfggkeoaaDoorConvEncP
namespace Go.Proofs.YtnklgppfggkeoaaDoor
open Go.RowKit

theorem encode_any (s : ByteArray) (w : World) (hs : s.size ≤ 9223372036854775807) :
    Calls Tryd.prog 21 #[.string s] w fun e w' => e = .returned (.tuple #[.string ⟨(Conv.encX s.data.toList).toArray⟩, .int .i64 (Conv.encE s.data.toList)]) ∧ Below w.heap.size w w' := by
  have hl := toList_length s
  by_cases h : s.size ≤ 65536
  · cases hk : Conv.ok s.data.toList
    · obtain ⟨e1, e2⟩ := Conv.enc_bad (by rw [hl]; exact h) hk
      rw [e1, e2]
      exact encode_bad s w h hk
    · obtain ⟨e1, e2⟩ := Conv.enc_ok (by rw [hl]; exact h) hk
      rw [e1, e2]
      exact encode_ok s w h hk
  · obtain ⟨e1, e2⟩ := Conv.enc_long (by rw [hl]; exact h)
    rw [e1, e2]
    exact encode_long s w (by omega) hs

end Go.Proofs.YtnklgppfggkeoaaDoor
