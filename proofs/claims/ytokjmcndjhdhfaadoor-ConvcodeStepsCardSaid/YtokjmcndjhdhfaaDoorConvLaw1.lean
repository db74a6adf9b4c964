/-
  Encode and Weight in one form; the chapter's example; xor; the law ConvcodeShift.
-/
import Derived.Test.YtokjmcndjhdhfaaDoorConvExt
import Derived.Test.YtokjmcndjhdhfaaDoorConvEncP
namespace Go.Proofs.YtokjmcndjhdhfaaDoor
open Go.RowKit

theorem encode_any (s : ByteArray) (w : World) (hs : s.size ≤ 9223372036854775807) :
    Calls Tryd.prog 16 #[.string s] w fun e w' => e = .returned (.tuple #[.string ⟨(Conv.encX s.data.toList).toArray⟩, .int .i64 (Conv.encE s.data.toList)]) ∧ Below w.heap.size w w' := by
  have hl := toList_length s
  by_cases h : s.size ≤ 65536
  · cases hk : Conv.ok s.data.toList
    · obtain ⟨e1, e2⟩ := Conv.enc_bad (by rw [hl]; exact h) hk
      rw [e1, e2]
      exact encode_bad s w h hk
    · obtain ⟨e1, e2⟩ := Conv.enc_ok (by rw [hl]; exact h) hk
      rw [e1, e2]
      exact encode_ok s w h hk
  · obtain ⟨e1, e2⟩ := Conv.enc_long (by rw [hl]; exact h)
    rw [e1, e2]
    exact encode_long s w (by omega) hs

theorem weight_any (s : ByteArray) (w : World) (hs : s.size ≤ 9223372036854775807) :
    Calls Tryd.prog 19 #[.string s] w fun e w' => e = .returned (.tuple #[.int .i64 (Conv.weight (Conv.encX s.data.toList)), .int .i64 (Conv.encE s.data.toList)]) ∧ Below w.heap.size w w' := by
  go_enter Tryd.func19, Tryd.ntmps19
  go_wp2_with fail
  refine (encode_any s _ hs).mono ?_
  rintro e w1 ⟨rfl, hb1⟩
  go_wp2_with fail
  refine (Tryd.strings_Count_one _ 49 w1).mono ?_
  rintro e w2 ⟨rfl, rfl⟩
  go_wp2_with fail
  go_ret2
  exact ⟨rfl, hb1⟩

set_option maxHeartbeats 1000000 in
theorem alive_any (w : World) : Calls Tryd.prog 11 #[] w fun e w' => e = .returned (.bool true) ∧ Below w.heap.size w w' := by
  have x1 : Conv.encX (⟨#[49]⟩ : ByteArray).data.toList = [49, 49, 49, 48, 49, 49] := by decide +kernel
  have x2 : Conv.encE (⟨#[49]⟩ : ByteArray).data.toList = 0 := by decide +kernel
  have x3 : Conv.encX (⟨#[]⟩ : ByteArray).data.toList = [48, 48, 48, 48] := by decide +kernel
  have x4 : Conv.encE (⟨#[]⟩ : ByteArray).data.toList = 0 := by decide +kernel
  have x5 : Conv.extX (⟨#[49, 49, 49, 48, 49, 49]⟩ : ByteArray).data.toList = [49] := by decide +kernel
  have x6 : Conv.extE (⟨#[49, 49, 49, 48, 49, 49]⟩ : ByteArray).data.toList = 0 := by decide +kernel
  have h1 := fun w => encode_any ⟨#[49]⟩ w (by decide)
  have h2 := fun w => encode_any ⟨#[]⟩ w (by decide)
  have h3 := fun w => extract_any ⟨#[49, 49, 49, 48, 49, 49]⟩ w (by decide) (by decide +kernel) (by decide) (by decide)
  have h4 := fun w => next_any 2 0 true false false w (by decide) (by decide)
  rw [x1, x2] at h1
  rw [x3, x4] at h2
  rw [x5, x6] at h3
  have H1 := Lib.hid h1
  have H2 := Lib.hid h2
  have H3 := Lib.hid h3
  have H4 := Lib.hid h4
  clear h1 h2 h3 h4 x1 x2 x3 x4 x5 x6
  go_enter Tryd.func11, Tryd.ntmps11
  go_wp2_with fail
  refine (H1.out _).mono ?_
  rintro e w1 ⟨rfl, hb1⟩
  go_wp2_with fail
  refine (H2.out _).mono ?_
  rintro e w2 ⟨rfl, hb2⟩
  go_wp2_with fail
  refine (H3.out _).mono ?_
  rintro e w3 ⟨rfl, hb3⟩
  go_wp2_with fail
  refine (H4.out _).mono ?_
  rintro e w4 ⟨rfl, rfl⟩
  have c1 : Conv.st false true = 1 := rfl
  go_wp2_with fail
  go_ret
  exact ⟨rfl, bchain (bchain hb1 hb2) hb3⟩
end Go.Proofs.YtokjmcndjhdhfaaDoor
