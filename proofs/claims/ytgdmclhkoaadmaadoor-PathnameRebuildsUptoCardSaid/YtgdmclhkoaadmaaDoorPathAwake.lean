/-
  The walk of the examples of the chapter on paths.
-/
import Derived.Test.YtgdmclhkoaadmaaDoorPathCmp
namespace Go.Proofs.YtgdmclhkoaadmaaDoor
open Go.RowKit

set_option maxHeartbeats 2000000 in
theorem awake31_any (w : World) : Calls Tryd.prog 11 #[] w fun e w' => e = .returned (.bool true) ∧ Below w.heap.size w w' := by
  have hs := fun w => psplit_any ⟨#[97, 47, 98, 45, 49]⟩ w (by decide)
  have hp := fun w => parent_any ⟨#[97, 47, 98, 45, 49]⟩ w (by decide)
  have hc := fun w => pcompare_any ⟨#[97, 47, 98]⟩ ⟨#[97, 45, 98]⟩ w (by decide) (by decide)
  have e1 : Path.err (⟨#[97, 47, 98, 45, 49]⟩ : ByteArray).data.toList = 0 := by decide +kernel
  have e2 : Path.comps (⟨#[97, 47, 98, 45, 49]⟩ : ByteArray).data.toList = [[97], [98, 45, 49]] := by decide +kernel
  have e3 : Path.parentV (⟨#[97, 47, 98, 45, 49]⟩ : ByteArray).data.toList = [97] := by decide +kernel
  have e4 : Path.parentE (⟨#[97, 47, 98, 45, 49]⟩ : ByteArray).data.toList = 0 := by decide +kernel
  have e5 : Path.cmp (⟨#[97, 47, 98]⟩ : ByteArray).data.toList (⟨#[97, 45, 98]⟩ : ByteArray).data.toList = -1 := by decide +kernel
  rw [e1, e2] at hs
  rw [e3, e4] at hp
  rw [e5] at hc
  clear e1 e2 e3 e4 e5
  go_enter Tryd.func11, Tryd.ntmps11
  go_wp2_with fail
  refine (hs _).mono ?_
  rintro e w1 ⟨v, rfl, ho, hb⟩
  obtain ⟨ao, cap, rfl, hao⟩ := ho.form
  obtain ⟨g, rfl⟩ := hao (by decide)
  have e6 : (strsL [[97], [98, 45, 49]]).length = 2 := rfl
  rw [e6] at ho ⊢
  go_wp2_with fail
  refine (hp _).mono ?_
  rintro e w2 ⟨rfl, hb2⟩
  have ho2 := ho.below hb2 (Nat.le_refl _)
  have c0 : w2.cell? ⟨g, 0, none⟩ = some (.string ⟨#[97]⟩) := ho2.cell 0 _ rfl
  have c1 : w2.cell? ⟨g, 1, none⟩ = some (.string ⟨#[98, 45, 49]⟩) := ho2.cell 1 _ rfl
  go_wp2_with fail
  refine (hc _).mono ?_
  rintro e w3 ⟨rfl, hb3⟩
  go_wp2_with fail
  go_ret
  exact ⟨rfl, bchain (bchain hb hb2) hb3⟩
end Go.Proofs.YtgdmclhkoaadmaaDoor
