/-
  What Encode and Weight answer. Plain lists.
-/
import Derived.Test.YtnklgppfggkeoaaDoorConvPlain
namespace Go.Proofs.YtnklgppfggkeoaaDoor
namespace Conv
def encX (s : List UInt8) : List UInt8 := if s.length ≤ 65536 ∧ ok s = true then code s else []
def encE (s : List UInt8) : Int := if s.length ≤ 65536 then (if ok s = true then 0 else 3) else 6
theorem enc_ok {s : List UInt8} (h : s.length ≤ 65536) (hk : ok s = true) : encX s = code s ∧ encE s = 0 := by simp [encX, encE, h, hk]
theorem enc_bad {s : List UInt8} (h : s.length ≤ 65536) (hk : ok s = false) : encX s = [] ∧ encE s = 3 := by simp [encX, encE, h, hk]
theorem enc_long {s : List UInt8} (h : ¬ s.length ≤ 65536) : encX s = [] ∧ encE s = 6 := by simp [encX, encE, h]
theorem encX_length (s : List UInt8) : (encX s).length ≤ 131076 := by
  unfold encX
  split
  · rename_i h
    rw [code_length]
    omega
  · simp
theorem encE_zero {s : List UInt8} (h : encE s = 0) : s.length ≤ 65536 ∧ ok s = true := by
  unfold encE at h
  split at h
  · split at h
    · exact ⟨by assumption, by assumption⟩
    · cases h
  · cases h
def weight (s : List UInt8) : Nat := s.count 49
end Conv
attribute [irreducible] Conv.encX Conv.encE
end Go.Proofs.YtnklgppfggkeoaaDoor
