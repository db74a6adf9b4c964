/-
  The walks of the reference: Elements, Component, Check, Split, path.
-/
import Derived.Test.YtgdmclhkoaadmaaDoorPathAwake
import Derived.Test.YtgdmclhkoaadmaaDoorAppStrs
namespace Go.Proofs.YtgdmclhkoaadmaaDoor
open Go.RowKit

theorem spA_at {s : ByteArray} {k : Nat} (hk : k < s.size) (P : List UInt8) : Sep.spA 47 P (s.data.toList.drop k) = if s[k] = 47 then P :: Sep.spA 47 [] (s.data.toList.drop (k + 1)) else Sep.spA 47 (P ++ [s[k]]) (s.data.toList.drop (k + 1)) := by
  rw [drop_eq (get_of_lt s k hk), Sep.spA]
theorem extract_one (s : ByteArray) (k : Nat) (hk : k < s.size) : (s.extract k (k + 1)).data.toList = [s[k]] := by
  rw [ByteArray.data_extract, Array.toList_extract, List.extract_eq_take_drop, Nat.add_sub_cancel_left, drop_eq (get_of_lt s k hk)]
  rfl
theorem beq47 (c : UInt8) : ((c.toNat : Int) == 47) = (c == 47) := byte_beq c 47

set_option maxHeartbeats 2000000 in
theorem relements_any (s : ByteArray) (w : World) (hs : s.size ≤ 65536) :
    Calls Tryd.prog 26 #[.string s] w fun e w' => ∃ v, e = .returned v ∧ Own w' w.heap.size 9 v (strsL (Path.els s.data.toList)) ∧ Below w.heap.size w w' := by
  by_cases h : s.data.toList = []
  · obtain rfl : s = ByteArray.empty := of_toList h
    have e : Path.els (ByteArray.empty).data.toList = [] := rfl
    rw [e]
    go_enter Tryd.func26, Tryd.ntmps26
    go_wp2_with fail
    go_ret
    exact ⟨_, rfl, Own.made0 _ _ _ (Nat.le_refl _), (Below.refl _ _).alloc (Nat.le_refl _) _⟩
  have e : Path.els s.data.toList = Sep.spA 47 [] s.data.toList := Sep.els_ne h
  have h2 : s.toList.isEmpty = false := by rw [isEmpty_iff, decide_eq_false_iff_not]; exact h
  have h3 : ¬ s.toList = [] := by rw [Lib.toList_data]; exact h
  rw [e]
  obtain ⟨T, hT⟩ : ∃ T, Sep.spA 47 [] s.data.toList = T := ⟨_, rfl⟩
  have HT := Lib.hid hT
  rw [hT]
  clear e h hT
  go_enter Tryd.func26, Tryd.ntmps26
  go_wp2_with fail
  go_loopw [3, 4, 5] (fun out part i wr => ∃ (k : Nat) (P : ByteArray) (xs : List (List UInt8)), k ≤ s.size ∧ i = .int .i64 k ∧ part = .string P ∧ P.size ≤ k ∧ xs.length ≤ k ∧ Own wr w.heap.size 9 out (strsL xs) ∧ Below w.heap.size w wr ∧ Hid (xs ++ Sep.spA 47 P.data.toList (s.data.toList.drop k) = T)) (fun _ _ i _ => s.size - (intOf i).toNat)
  case atStart => exact ⟨0, ByteArray.empty, [], Nat.zero_le _, rfl, rfl, Nat.le_refl _, Nat.le_refl _, Own.made0 _ _ _ (Nat.le_refl _), (Below.refl _ _).alloc (Nat.le_refl _) _, HT⟩
  case round =>
    obtain ⟨k, P, xs, hk, rfl, rfl, hP, hx, hown, hb, hinv⟩ := hrel
    have hl : (strsL xs).length ≤ k := by rw [strsL_length]; exact hx
    by_cases hlt : k < s.size
    · have HS := Lib.hid (spA_at hlt P.data.toList)
      have HC := Lib.hid (beq47 s[k])
      cases hc : ((s[k].toNat : Int) == 47)
      · have hc2 : ¬ s[k] = 47 := by
          rw [HC.out] at hc
          exact beq_eq_false_iff_ne.1 hc
        have hz : (s.extract k (k + 1)).size = 1 := by rw [ByteArray.size_extract]; omega
        have hzP : (P ++ s.extract k (k + 1)).size = P.size + 1 := by rw [ByteArray.size_append, hz]
        have HN : Hid (xs ++ Sep.spA 47 (P ++ s.extract k (k + 1)).data.toList (s.data.toList.drop (k + 1)) = T) := by
          show _ = T
          rw [app_data, extract_one s k hlt, ← hinv.out, HS.out, if_neg hc2]
        clear hc2
        go_wp2_with fail
        go_roundw
        case rel => exact ⟨k + 1, _, xs, by omega, by go_num, rfl, by omega, by omega, hown, hb, HN⟩
        case measure => simp [intOf]; omega
      · have hc2 : s[k] = 47 := by
          rw [HC.out] at hc
          exact beq_iff_eq.1 hc
        have HN : Hid ((xs ++ [P.data.toList]) ++ Sep.spA 47 (ByteArray.empty).data.toList (s.data.toList.drop (k + 1)) = T) := by
          show _ = T
          rw [← hinv.out, HS.out, if_pos hc2, List.append_assoc]
          rfl
        clear hc2
        go_wp2_with (at_builtin; refine wpList_app1 9 23 _ 16 info_str Tryd.underlying23 rfl rfl _ _ rfl _ _ _ rfl hown _ rfl rfl (by omega) (by omega) hb.size ?_; intro v' w3 hown3 hb4 _)
        rw [strsL_snoc'] at hown3
        go_roundw
        case rel => exact ⟨k + 1, _, _, by omega, by go_num, rfl, Nat.zero_le _, by rw [List.length_append]; simp; omega, hown3, hb.trans hb4, HN⟩
        case measure => simp [intOf]; omega
    · obtain rfl : k = s.size := by omega
      have hd : s.data.toList.drop s.size = [] := List.drop_eq_nil_of_le (by rw [toList_length]; omega)
      have hN := hinv.out
      rw [hd, Sep.spA] at hN
      have HN := Lib.hid hN
      clear hN hd
      go_wp2_with (at_builtin; refine wpList_app1 9 23 _ 16 info_str Tryd.underlying23 rfl rfl _ _ rfl _ _ _ rfl hown _ rfl rfl (by omega) (by omega) hb.size ?_; intro v' w3 hown3 hb4 _)
      rw [strsL_snoc', HN.out] at hown3
      go_wp2_with fail
      go_ret
      exact ⟨_, rfl, hown3, hb.trans hb4⟩

theorem ok_byte_succ (s : ByteArray) (k : Nat) (h : k < s.size) : (s.data.toList.take (k + 1)).all Path.okByte = ((s.data.toList.take k).all Path.okByte && Path.okN s[k].toNat) := by
  rw [List.take_succ_eq_append_getElem (by rw [toList_length]; exact h)]
  simp only [List.all_append, List.all_cons, List.all_nil, Bool.and_true]
  exact congrArg _ (Path.okN_byte _)
theorem ok_byte_take (s : ByteArray) (k : Nat) (h : (s.data.toList.take k).all Path.okByte = false) : s.data.toList.all Path.okByte = false := by
  rw [← List.take_append_drop k s.data.toList, List.all_append, h]
  rfl
set_option maxHeartbeats 4000000 in
theorem rcomponent_any (s : ByteArray) (w : World) (hs : s.size ≤ 65536) :
    Calls Tryd.prog 32 #[.string s] w fun e w' => e = .returned (.bool (Path.comp s.data.toList)) ∧ w = w' := by
  obtain ⟨b, hb⟩ : ∃ b, Path.comp s.data.toList = b := ⟨_, rfl⟩
  have HB := Lib.hid hb
  rw [hb]
  clear hb
  obtain ⟨d1, h1⟩ : ∃ d, (s.toList == [46]) = d := ⟨_, rfl⟩
  obtain ⟨d2, h2⟩ : ∃ d, (s.toList == [46, 46]) = d := ⟨_, rfl⟩
  obtain ⟨c0, hc0⟩ : ∃ c0, (decide (1 ≤ s.size) && decide (s.size ≤ 32) && !d1 && !d2) = c0 := ⟨_, rfl⟩
  have hB2 : (c0 && s.data.toList.all Path.okByte) = b := by
    rw [← HB.out, comp_parts, h1, h2, ← hc0]
  have HB2 := Lib.hid hB2
  have HC0 := Lib.hid hc0
  clear HB hc0 hB2
  have e1 : ((0 : Int) < s.size) = (1 ≤ s.size) := by simp; omega
  have e2 : ((s.size : Int) ≤ 32) = (s.size ≤ 32) := by simp; omega
  go_enter Tryd.func32, Tryd.ntmps32
  go_wp2_with fail
  all_goals
    go_loop [3, 4] (fun ok i => ∃ (k : Nat) (q : Bool), k ≤ s.size ∧ i = .int .i64 k ∧ ok = .bool q ∧ Hid ((c0 && (s.data.toList.take k).all Path.okByte) = q)) (fun _ i => s.size - (intOf i).toNat)
    case atStart => exact ⟨0, _, Nat.zero_le _, rfl, rfl, by show _ = _; rw [← HC0.out]; simp [*] <;> (intros; omega)⟩
    case round =>
      obtain ⟨k, q, hk, rfl, rfl, hq⟩ := hrel
      cases q
      · go_wp2_with fail
        go_ret
        refine ⟨?_, rfl⟩
        rw [← HB2.out]
        have := hq.out
        cases c0
        · rfl
        · rw [Bool.true_and] at this
          rw [ok_byte_take s k this]
          rfl
      · by_cases hlt : k < s.size
        · have HS := Lib.hid (ok_byte_succ s k hlt)
          generalize hr : s[k].toNat = r at HS
          have f1 : ((97 : Int) ≤ r) = (97 ≤ r) := by simp; omega
          have f2 : ((r : Int) ≤ 122) = (r ≤ 122) := by simp; omega
          have f3 : ((48 : Int) ≤ r) = (48 ≤ r) := by simp; omega
          have f4 : ((r : Int) ≤ 57) = (r ≤ 57) := by simp; omega
          have f5 : ((r : Int) == 46) = (r == 46) := int_beq r 46
          have f6 : ((r : Int) == 95) = (r == 95) := int_beq r 95
          have f7 : ((r : Int) == 45) = (r == 45) := int_beq r 45
          go_wp2_with fail
          all_goals
            go_round
            case rel =>
              refine ⟨k + 1, _, by omega, by go_num, rfl, ?_⟩
              show _ = _
              have := hq.out
              rw [HS.out, ← Bool.and_assoc, this]
              unfold Path.okN
              simp [*] <;> omega
            case measure => simp [intOf]; omega
        · obtain rfl : k = s.size := by omega
          have H := hq.out
          rw [List.take_of_length_le (by rw [toList_length]; omega), HB2.out] at H
          subst H
          go_wp2_with fail
          go_ret
          exact ⟨rfl, rfl⟩
end Go.Proofs.YtgdmclhkoaadmaaDoor
