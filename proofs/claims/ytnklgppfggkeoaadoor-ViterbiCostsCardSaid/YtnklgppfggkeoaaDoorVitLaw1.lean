/-
  Decode at any string; the chapter's examples; the law ViterbiExtract.
-/
import Derived.Test.YtnklgppfggkeoaaDoorVitDec
import Derived.Test.YtnklgppfggkeoaaDoorConvExtA
import Derived.Test.YtnklgppfggkeoaaDoorCellsC
namespace Go.Proofs.YtnklgppfggkeoaaDoor
open Go.RowKit

namespace Vit
def decX (c : List UInt8) : List UInt8 := if vErr c = 0 then bits c else []
def decN (c : List UInt8) : Int := if vErr c = 0 then cost c else 0
def decO (c : List UInt8) : Bool := if vErr c = 0 then paths c == 1 else false
theorem dec_ok {c : List UInt8} (h : vErr c = 0) : decX c = bits c ∧ decN c = cost c ∧ decO c = (paths c == 1) := by
  unfold decX decN decO
  rw [if_pos h, if_pos h, if_pos h]
  exact ⟨rfl, rfl, rfl⟩
theorem dec_bad {c : List UInt8} (h : vErr c ≠ 0) : decX c = [] ∧ decN c = 0 ∧ decO c = false := by
  unfold decX decN decO
  rw [if_neg h, if_neg h, if_neg h]
  exact ⟨rfl, rfl, rfl⟩
theorem err_zero {c : List UInt8} (h : vErr c = 0) : Cells.ok c = true ∧ c.length % 2 = 0 ∧ 4 ≤ c.length := by
  unfold vErr at h
  split at h
  · split at h
    · exact ⟨by assumption, by omega, by omega⟩
    · cases h
  · cases h
theorem err_ok {c : List UInt8} (h1 : Cells.ok c = true) (h2 : c.length % 2 = 0 ∧ 4 ≤ c.length) : vErr c = 0 := by
  unfold vErr
  rw [if_pos h1, if_pos h2]
theorem bits_length (c : List UInt8) (h : vErr c = 0) : (bits c).length ≤ c.length := by
  obtain ⟨h1, h2, h3⟩ := err_zero h
  obtain ⟨_, _, m3, _⟩ := main c (c.length / 2) (by omega) (by omega)
  omega
end Vit

theorem decode_any (s : ByteArray) (w : World) (hs : s.size ≤ 4000) :
    Calls Tryd.prog 12 #[.string s] w fun e w' => e = .returned (.tuple #[.string ⟨(Vit.decX s.data.toList).toArray⟩, .int .i64 (Vit.decN s.data.toList), .bool (Vit.decO s.data.toList), .int .i64 (vErr s.data.toList)]) ∧ Below w.heap.size w w' := by
  have hl := toList_length s
  by_cases h : vErr s.data.toList = 0
  · obtain ⟨e1, e2, e3⟩ := Vit.dec_ok h
    obtain ⟨h1, h2, h3⟩ := Vit.err_zero h
    rw [e1, e2, e3, h]
    exact decode_ok s (s.size / 2) (by omega) (by omega) (by omega) h w
  · obtain ⟨e1, e2, e3⟩ := Vit.dec_bad h
    rw [e1, e2, e3]
    exact decode_bad s w (by omega) h

set_option maxHeartbeats 1000000 in
theorem awake_any (w : World) : Calls Tryd.prog 11 #[] w fun e w' => e = .returned (.bool true) ∧ Below w.heap.size w w' := by
  have h1 := fun w => decode_any ⟨#[49, 49, 48, 48, 49, 49]⟩ w (by decide)
  have h2 := fun w => decode_any ⟨#[63, 63, 63, 63, 63, 63]⟩ w (by decide)
  have x1 : Vit.decX (⟨#[49, 49, 48, 48, 49, 49]⟩ : ByteArray).data.toList = [49] := by decide +kernel
  have x2 : Vit.decN (⟨#[49, 49, 48, 48, 49, 49]⟩ : ByteArray).data.toList = 1 := by decide +kernel
  have x3 : Vit.decO (⟨#[49, 49, 48, 48, 49, 49]⟩ : ByteArray).data.toList = true := by decide +kernel
  have x4 : vErr (⟨#[49, 49, 48, 48, 49, 49]⟩ : ByteArray).data.toList = 0 := by decide +kernel
  have y1 : Vit.decX (⟨#[63, 63, 63, 63, 63, 63]⟩ : ByteArray).data.toList = [48] := by decide +kernel
  have y2 : Vit.decN (⟨#[63, 63, 63, 63, 63, 63]⟩ : ByteArray).data.toList = 0 := by decide +kernel
  have y3 : Vit.decO (⟨#[63, 63, 63, 63, 63, 63]⟩ : ByteArray).data.toList = false := by decide +kernel
  have y4 : vErr (⟨#[63, 63, 63, 63, 63, 63]⟩ : ByteArray).data.toList = 0 := by decide +kernel
  rw [x1, x2, x3, x4] at h1
  rw [y1, y2, y3, y4] at h2
  have H1 := Lib.hid h1
  have H2 := Lib.hid h2
  clear h1 h2 x1 x2 x3 x4 y1 y2 y3 y4
  go_enter Tryd.func11, Tryd.ntmps11
  go_wp2_with fail
  refine (H1.out _).mono ?_
  rintro e w1 ⟨rfl, hb1⟩
  go_wp2_with fail
  refine (H2.out _).mono ?_
  rintro e w2 ⟨rfl, hb2⟩
  go_wp2_with fail
  go_ret
  exact ⟨rfl, bchain hb1 hb2⟩
attribute [irreducible] Vit.decX Vit.decN Vit.decO
end Go.Proofs.YtnklgppfggkeoaaDoor
