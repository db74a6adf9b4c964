/-
  The walks of elements, of the program's test of a list, of Check and Split.
-/
import Derived.Test.YtgdmclhkoaadmaaDoorSplit
import Derived.Test.YtgdmclhkoaadmaaDoorPathComp
namespace Go.Proofs.YtgdmclhkoaadmaaDoor
open Go.RowKit

theorem isEmpty_iff (s : ByteArray) : s.toList.isEmpty = decide (s.data.toList = []) := by
  rw [Lib.toList_data, Bool.eq_iff_iff, List.isEmpty_iff, decide_eq_true_eq]
theorem elements_any (s : ByteArray) (w : World) (hs : s.size < 4294967281) :
    Calls Tryd.prog 25 #[.string s] w fun e w' => ∃ v, e = .returned v ∧ Own w' w.heap.size 9 v (strsL (Path.els s.data.toList)) ∧ Below w.heap.size w w' := by
  by_cases h : s.data.toList = []
  · obtain rfl : s = ByteArray.empty := of_toList h
    have e : Path.els (ByteArray.empty).data.toList = [] := rfl
    rw [e]
    go_enter Tryd.func25, Tryd.ntmps25
    go_wp2_with fail
    go_ret
    exact ⟨_, rfl, Own.nil _ _ _, Below.refl _ _⟩
  · have e : Path.els s.data.toList = Sep.spA 47 [] s.data.toList := Sep.els_ne h
    have h2 : s.toList.isEmpty = false := by rw [isEmpty_iff, decide_eq_false_iff_not]; exact h
    have h3 : ¬ s.toList = [] := by rw [Lib.toList_data]; exact h
    rw [e]
    clear e h
    go_enter Tryd.func25, Tryd.ntmps25
    go_wp2_with (go_at_call 36; refine (split_any s 47 _ hs).mono ?_; rintro e w' ⟨v, rfl, ho, hb⟩)
    go_ret
    exact ⟨v, rfl, ho, hb⟩

set_option maxHeartbeats 1000000 in
theorem checkClosure_any (s : ByteArray) (w : World) :
    Calls Tryd.prog 30 #[.string s] w fun e w' => e = .returned (.bool (!Path.comp s.data.toList)) ∧ Below w.heap.size w w' := by
  go_enter Tryd.func30, Tryd.ntmps30
  go_wp2_with (go_at_call 31; refine (component_any s _).mono ?_; rintro e w' ⟨rfl, hb⟩)
  go_ret
  exact ⟨rfl, hb⟩

theorem all_take_succ (p : List UInt8 → Bool) (xs : List (List UInt8)) (k : Nat) (x : List UInt8) (h : xs[k]? = some x) : (xs.take (k + 1)).all p = ((xs.take k).all p && p x) := by
  rw [List.take_add_one, h]
  simp
theorem all_of_take (p : List UInt8 → Bool) (xs : List (List UInt8)) (k : Nat) (h : (xs.take k).all p = false) : xs.all p = false := by
  rw [← List.take_append_drop k xs, List.all_append, h]
  rfl

set_option maxHeartbeats 1000000 in
theorem indexFunc_any (B : Nat) (ao : Option Addr) (n cap : Nat) (xs : List (List UInt8)) (w : World) (hown : Own w B 9 (.slice ao n cap) (strsL xs)) (hn : n ≤ 9223372036854775807) :
    Calls Tryd.prog 40 #[.slice ao n cap, .func (.func 30) #[] #[]] w fun e w' => ∃ k : Int, e = .returned (.int .i64 k) ∧ decide (0 ≤ k) = !xs.all Path.comp ∧ Below w.heap.size w w' := by
  obtain rfl : n = xs.length := by rw [hown.len, strsL_length]
  go_enter Tryd.func40, Tryd.ntmps40
  go_wp2_with fail
  go_loopw [8] (fun i wr => ∃ k : Nat, k ≤ xs.length ∧ i = .int .i64 k ∧ Hid ((xs.take k).all Path.comp = true) ∧ Below w.heap.size w wr) (fun i _ => xs.length - (intOf i).toNat)
  case atStart => exact ⟨0, Nat.zero_le _, rfl, rfl, Below.refl _ _⟩
  case round =>
    obtain ⟨k, hk, rfl, hok, hb⟩ := hrel
    by_cases hlt : k < xs.length
    · obtain ⟨x, hx⟩ : ∃ x, xs[k]? = some x := ⟨_, List.getElem?_eq_getElem (by omega)⟩
      obtain ⟨g, rfl⟩ := hown.addr (by rw [strsL_length]; omega)
      have hcell := (hown.below hb (Nat.le_refl _)).cell k _ (strsL_get xs k x hx)
      have HS := Lib.hid (all_take_succ Path.comp xs k x hx)
      have hc := fun w => checkClosure_any ⟨x.toArray⟩ w
      obtain ⟨b, hb1⟩ : ∃ b, Path.comp x = b := ⟨_, rfl⟩
      have HB := Lib.hid hb1
      have e1 : Path.comp (⟨x.toArray⟩ : ByteArray).data.toList = b := hb1
      rw [e1] at hc
      clear e1 hb1 hx
      cases b
      · go_wp2_with (go_at_call 30; refine (hc _).mono ?_; rintro e w' ⟨rfl, hb2⟩)
        go_ret
        refine ⟨k, rfl, ?_, bchain hb hb2⟩
        rw [all_of_take Path.comp xs (k + 1) (by rw [HS.out, hok.out, HB.out]; rfl)]
        simp
      · go_wp2_with fail
        refine (hc _).mono ?_
        rintro e w' ⟨rfl, hb2⟩
        go_wp2_with fail
        go_roundw
        case rel => exact ⟨k + 1, by omega, by go_num, by show _ = true; rw [HS.out, hok.out, HB.out]; rfl, bchain hb hb2⟩
        case measure => simp [intOf]; omega
    · obtain rfl : k = xs.length := by omega
      have h := hok.out
      rw [List.take_length] at h
      have H := Lib.hid h
      clear h
      go_wp2_with fail
      go_ret
      exact ⟨-1, rfl, by rw [H.out]; rfl, hb⟩

set_option maxHeartbeats 1000000 in
theorem containsBad_any (B : Nat) (ao : Option Addr) (n cap : Nat) (xs : List (List UInt8)) (w : World) (hown : Own w B 9 (.slice ao n cap) (strsL xs)) (hn : n ≤ 9223372036854775807) :
    Calls Tryd.prog 29 #[.slice ao n cap, .func (.func 30) #[] #[]] w fun e w' => e = .returned (.bool (!xs.all Path.comp)) ∧ Below w.heap.size w w' := by
  obtain ⟨b, hb⟩ : ∃ b, (!xs.all Path.comp) = b := ⟨_, rfl⟩
  have hc := indexFunc_any B ao n cap xs w hown hn
  rw [hb] at hc ⊢
  clear hb
  go_enter Tryd.func29, Tryd.ntmps29
  go_wp2_with (go_at_call 40; refine hc.mono ?_; rintro e w' ⟨k, rfl, hk, hb⟩)
  go_ret
  exact ⟨by simp_all, hb⟩

theorem els_size (s : ByteArray) : (Path.els s.data.toList).length ≤ s.size + 1 := by
  have := Sep.els_length_le (q := 47) s.data.toList
  rwa [toList_length] at this
theorem path_err (s : ByteArray) : Path.err s.data.toList = if 200 < s.size ∨ 8 < (Path.els s.data.toList).length then 6 else if (Path.els s.data.toList).all Path.comp then 0 else 7 := by
  rw [Path.err, toList_length]

set_option maxHeartbeats 1000000 in
theorem pcheck_any (s : ByteArray) (w : World) (hs : s.size < 4294967281) :
    Calls Tryd.prog 16 #[.string s] w fun e w' => e = .returned (.int .i64 (Path.err s.data.toList)) ∧ Below w.heap.size w w' := by
  have hz := els_size s
  have HE := Lib.hid (path_err s)
  obtain ⟨E, hE⟩ : ∃ E, Path.err s.data.toList = E := ⟨_, rfl⟩
  rw [hE] at HE ⊢
  clear hE
  have hel := elements_any s w hs
  generalize Path.els s.data.toList = xs at hz HE hel
  obtain ⟨b, hb⟩ : ∃ b, xs.all Path.comp = b := ⟨_, rfl⟩
  have HB := Lib.hid hb
  clear hb
  go_enter Tryd.func16, Tryd.ntmps16
  go_wp2_with fail
  refine hel.mono ?_
  rintro e w' ⟨v, rfl, ho, hb⟩
  obtain ⟨ao, cap, rfl, _⟩ := ho.form
  rw [strsL_length] at ho ⊢
  have hcb := fun w1 (h1 : Own w1 w.heap.size 9 (.slice ao xs.length cap) (strsL xs)) => containsBad_any w.heap.size ao xs.length cap xs w1 h1 (by omega)
  rw [HB.out] at hcb
  by_cases h1 : 200 < s.size ∨ 8 < xs.length
  · rw [if_pos h1] at HE
    rcases Nat.lt_or_ge 200 s.size with h2 | h2
    · go_wp2_with fail
      go_ret
      exact ⟨ret_int (HE.out).symm, hb⟩
    · have h3 : 8 < xs.length := by omega
      go_wp2_with fail
      go_ret
      exact ⟨ret_int (HE.out).symm, hb⟩
  · rw [if_neg h1, HB.out] at HE
    have h2 : ¬ 200 < s.size := by omega
    have h3 : ¬ 8 < xs.length := by omega
    clear h1
    cases b
    all_goals
      go_wp2_with fail
      refine (hcb _ ho).mono ?_
      rintro e w2 ⟨rfl, hb2⟩
      go_wp2_with fail
      go_ret
      exact ⟨ret_int (HE.out).symm, bchain hb hb2⟩
end Go.Proofs.YtgdmclhkoaadmaaDoor
