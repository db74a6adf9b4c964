/-
  The walks of allowed, component, and of the program's test of a list of components.
-/
import Derived.Test.YtgdmclhkoaadmaaDoorProg
import Derived.Test.YtgdmclhkoaadmaaDoorShelf
import Derived.Test.YtgdmclhkoaadmaaDoorStr
import Derived.Test.YtgdmclhkoaadmaaDoorPathScan
namespace Go.Proofs.YtgdmclhkoaadmaaDoor
open Go.RowKit

theorem allowed_any (r : Nat) (w : World) :
    Calls Tryd.prog 43 #[.int .i32 r] w fun e w' => e = .returned (.bool (Path.okN r)) ∧ w' = w := by
  have e1 : ((97 : Int) ≤ r) = (97 ≤ r) := by simp; omega
  have e2 : ((r : Int) ≤ 122) = (r ≤ 122) := by simp; omega
  have e3 : ((48 : Int) ≤ r) = (48 ≤ r) := by simp; omega
  have e4 : ((r : Int) ≤ 57) = (r ≤ 57) := by simp; omega
  have e5 : ((r : Int) == 46) = (r == 46) := int_beq r 46
  have e6 : ((r : Int) == 95) = (r == 95) := int_beq r 95
  have e7 : ((r : Int) == 45) = (r == 45) := int_beq r 45
  obtain ⟨b, hb⟩ : ∃ b, Path.okN r = b := ⟨_, rfl⟩
  have HB := Lib.hid hb
  rw [hb]
  clear hb
  go_enter Tryd.func43, Tryd.ntmps43
  go_wp2_with fail
  all_goals
    go_ret
    refine ⟨?_, rfl⟩
    rw [← HB.out]
    unfold Path.okN
    simp [*] <;> omega
theorem notAllowed (w : World) : PredAt Tryd.prog 42 #[] encR (fun r => !Path.okN r) w := fun W r _ => by
  unfold FnGives
  go_enter Tryd.func42, Tryd.ntmps42
  go_wp2_with (go_at_call 43; refine (allowed_any r _).mono ?_; rintro e w' ⟨rfl, rfl⟩)
  go_ret
  exact ⟨rfl, 0, rfl⟩
theorem containsFunc_any (s : ByteArray) (w : World) :
    Calls Tryd.prog 41 #[.string s, .func (.func 42) #[] #[]] w fun e w' => e = .returned (.bool (!s.data.toList.all Path.okByte)) ∧ Below w.heap.size w w' := by
  rw [← Path.scan]
  exact Tryd.strings_ContainsFunc 42 #[] (enters_of Tryd.func42 (by kernel_rfl) rfl) _ s w (notAllowed w)

theorem comp_parts (s : ByteArray) : Path.comp s.data.toList = (decide (1 ≤ s.size) && decide (s.size ≤ 32) && !(s.toList == [46]) && !(s.toList == [46, 46]) && s.data.toList.all Path.okByte) := by
  rw [Path.comp, toList_length, Lib.toList_data]
set_option maxHeartbeats 1000000 in
theorem component_any (s : ByteArray) (w : World) :
    Calls Tryd.prog 31 #[.string s] w fun e w' => e = .returned (.bool (Path.comp s.data.toList)) ∧ Below w.heap.size w w' := by
  obtain ⟨b, hb⟩ : ∃ b, Path.comp s.data.toList = b := ⟨_, rfl⟩
  have HB := Lib.hid hb
  rw [hb]
  clear hb
  have hc := fun w => containsFunc_any s w
  obtain ⟨a, ha⟩ : ∃ a, s.data.toList.all Path.okByte = a := ⟨_, rfl⟩
  have HA := Lib.hid ha
  rw [ha] at hc
  clear ha
  obtain ⟨d1, h1⟩ : ∃ d, (s.toList == [46]) = d := ⟨_, rfl⟩
  obtain ⟨d2, h2⟩ : ∃ d, (s.toList == [46, 46]) = d := ⟨_, rfl⟩
  have H1 := Lib.hid h1
  have H2 := Lib.hid h2
  have e1 : ((1 : Int) ≤ s.size) = (1 ≤ s.size) := by simp; omega
  have e2 : ((s.size : Int) ≤ 32) = (s.size ≤ 32) := by simp; omega
  go_enter Tryd.func31, Tryd.ntmps31
  go_wp2_with (go_at_call 41; refine (hc _).mono ?_; rintro e w' ⟨rfl, hb⟩)
  all_goals
    go_ret
    refine ⟨?_, by first | assumption | exact Below.refl _ _⟩
    rw [← HB.out, comp_parts, HA.out, H1.out, H2.out]
    simp [*]
end Go.Proofs.YtgdmclhkoaadmaaDoor
