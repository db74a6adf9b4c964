/-
  The law Limits of paths, walked.
-/
import Derived.Test.YtgdmclhkoaadmaaDoorPathAwake
namespace Go.Proofs.YtgdmclhkoaadmaaDoor
open Go.RowKit

namespace Path
/-- k equal components of w bytes. -/
def LS (k w : Nat) : List UInt8 := Sep.jn 47 (List.replicate k (List.replicate w 99))
theorem LS_zero (w : Nat) : LS 0 w = [] := rfl
theorem LS_succ (k w : Nat) : LS (k + 1) w = (if k = 0 then [] else LS k w ++ [47]) ++ List.replicate w 99 := by
  unfold LS
  by_cases h : k = 0
  · subst h
    simp [Sep.jn, Sep.tl]
  · rw [if_neg h, List.replicate_succ', Sep.jn_snoc _ _ (by simpa using h)]
    simp
theorem LS_length : ∀ (k w : Nat), 1 ≤ k → (LS k w).length + 1 = k * (w + 1)
  | 0, _, h => by omega
  | k + 1, w, _ => by
    rw [LS_succ, List.length_append, List.length_replicate]
    by_cases h : k = 0
    · subst h
      simp
    · have ih := LS_length k w (by omega)
      rw [if_neg h, List.length_append, List.length_singleton, Nat.succ_mul]
      omega
theorem LS_els (k w : Nat) (hw : 1 ≤ w) : els (LS k w) = List.replicate k (List.replicate w 99) := by
  refine Sep.els_jn (fun x hx => ?_) (fun x hx => ?_)
  · rw [(List.mem_replicate.1 hx).2]
    intro c hc
    rw [(List.mem_replicate.1 hc).2]
    decide
  · rw [(List.mem_replicate.1 hx).2]
    intro e
    have := congrArg List.length e
    simp at this
    omega
theorem comp_rep (w : Nat) (hw : 1 ≤ w) : comp (List.replicate w 99) = decide (w ≤ 32) := by
  have h1 : (List.replicate w (99 : UInt8) == [46]) = false := by
    rw [beq_eq_false_iff_ne]
    intro e
    have : (99 : UInt8) ∈ [46] := by rw [← e]; exact List.mem_replicate.2 ⟨by omega, rfl⟩
    revert this
    decide
  have h2 : (List.replicate w (99 : UInt8) == [46, 46]) = false := by
    rw [beq_eq_false_iff_ne]
    intro e
    have : (99 : UInt8) ∈ [46, 46] := by rw [← e]; exact List.mem_replicate.2 ⟨by omega, rfl⟩
    revert this
    decide
  have h3 : (List.replicate w (99 : UInt8)).all okByte = true := by
    rw [List.all_eq_true]
    intro c hc
    rw [(List.mem_replicate.1 hc).2]
    decide
  unfold comp
  rw [h1, h2, h3, List.length_replicate, decide_eq_true hw]
  simp
theorem LS_err (k w : Nat) (hk : 1 ≤ k) (hw : 1 ≤ w) : err (LS k w) = if 200 < (LS k w).length ∨ 8 < k then 6 else if w ≤ 32 then 0 else 7 := by
  have h : (List.replicate k (List.replicate w (99 : UInt8))).all comp = decide (w ≤ 32) := by
    obtain ⟨j, rfl⟩ : ∃ j, k = j + 1 := ⟨k - 1, by omega⟩
    rw [Bool.eq_iff_iff, List.all_eq_true]
    constructor
    · intro h
      rw [← comp_rep w hw]
      exact h _ (by simp)
    · intro h x hx
      rw [(List.mem_replicate.1 hx).2, comp_rep w hw]
      exact h
  unfold err
  rw [LS_els k w hw, List.length_replicate, h]
  by_cases hw2 : w ≤ 32
  · rw [decide_eq_true hw2, if_pos hw2]; rfl
  · rw [decide_eq_false hw2, if_neg hw2]; rfl
theorem LS_join (k w : Nat) (hk : 1 ≤ k) (hw : 1 ≤ w) : joinP (LS k w) [120] = LS k w ++ [47, 120] := by
  unfold joinP
  rw [LS_els k w hw]
  exact Sep.jn_snoc _ _ (by simp; omega)
theorem LS_joinE (k w : Nat) (hk : 1 ≤ k) (hw : 1 ≤ w) (h : err (LS k w) = 0) : joinE (LS k w) [120] = if 200 < (LS k w).length + 2 ∨ 8 < k + 1 then 6 else 0 := by
  have h0 := (err_ok_iff.1 h).2.2
  have hc : comp [120] = true := by decide
  have he : els (joinP (LS k w) [120]) = els (LS k w) ++ [[120]] := ok_jn fun x hx => by
    rcases List.mem_append.1 hx with hx | hx
    · exact h0 x hx
    · rw [List.mem_singleton.1 hx]
      exact hc
  unfold joinE
  rw [if_neg (by omega), if_pos hc]
  unfold err
  rw [he, LS_join k w hk hw, List.length_append, List.length_append, LS_els k w hw, List.length_replicate, List.all_append]
  have ha : (List.replicate k (List.replicate w (99 : UInt8))).all comp = true := by
    rw [List.all_eq_true]
    intro x hx
    exact h0 x (by rw [LS_els k w hw]; exact hx)
  rw [ha]
  simp only [List.length_cons, List.length_nil, List.all_cons, List.all_nil, Bool.and_true, hc, if_true]
end Path

set_option maxHeartbeats 4000000 in
set_option maxRecDepth 100000 in
theorem law_limits (z0 z1 : Int) (w0 : (Lit.int .u8 z0).wf = true) (w1 : (Lit.int .u8 z1).wf = true) (w : World) :
    Calls Tryd.prog 6 #[.int .u8 z0, .int .u8 z1] w fun e w' => e = .returned (.bool true) ∧ Below w.heap.size w w' := by
  obtain ⟨n0, rfl, hn0⟩ := u8_nat w0
  obtain ⟨n1, rfl, hn1⟩ := u8_nat w1
  obtain ⟨k, hk⟩ : ∃ k, k = 1 + n0 % 9 := ⟨_, rfl⟩
  obtain ⟨v, hv⟩ : ∃ v, v = 1 + n1 % 33 := ⟨_, rfl⟩
  have ek : (1 : Int) + ((n0 : Int) % 9) = (k : Int) := by omega
  have ev : (1 : Int) + ((n1 : Int) % 33) = (v : Int) := by omega
  have k1 : 1 ≤ k := by omega
  have k9 : k ≤ 9 := by omega
  have v1 : 1 ≤ v := by omega
  have v33 : v ≤ 33 := by omega
  clear hk hv w0 w1
  go_enter Tryd.func6, Tryd.ntmps6
  go_wp2_with fail
  go_loop [7, 22] (fun s i => ∃ (j : Nat) (S : ByteArray), j ≤ k ∧ i = .int .i64 j ∧ s = .string S ∧ S.size ≤ 34 * j ∧ Hid (S.data.toList = Path.LS j v)) (fun _ i => k - (intOf i).toNat)
  case atStart => exact ⟨0, ByteArray.empty, Nat.zero_le _, rfl, rfl, Nat.le_refl _, Lib.hid rfl⟩
  case round =>
    obtain ⟨j, S, hj, rfl, rfl, hz, hS⟩ := hrel
    by_cases hlt : j < k
    · by_cases h0 : 0 < j
      · have hD : Hid ((S ++ (⟨#[47]⟩ : ByteArray)).data.toList = Path.LS j v ++ [47]) := by show _ = _; rw [app_data, hS.out]
        have hZ : (S ++ (⟨#[47]⟩ : ByteArray)).size = S.size + 1 := by rw [ByteArray.size_append]; rfl
        go_wp2_with fail
        go_loop [7, 30] (fun s i => ∃ (m : Nat) (U : ByteArray), m ≤ v ∧ i = .int .i64 m ∧ s = .string U ∧ U.size ≤ 34 * j + 1 + m ∧ Hid (U.data.toList = Path.LS j v ++ [47] ++ List.replicate m 99)) (fun _ i => v - (intOf i).toNat)
        case atStart => exact ⟨0, _, Nat.zero_le _, rfl, rfl, by omega, by show _ = _; rw [hD.out]; simp⟩
        case round =>
          obtain ⟨m, U, hm, rfl, rfl, hzU, hU⟩ := hrel
          by_cases hlt2 : m < v
          · have hD2 : Hid ((U ++ (⟨#[99]⟩ : ByteArray)).data.toList = Path.LS j v ++ [47] ++ List.replicate (m + 1) 99) := by show _ = _; rw [app_data, hU.out, List.replicate_succ', List.append_assoc]
            have hZ2 : (U ++ (⟨#[99]⟩ : ByteArray)).size = U.size + 1 := by rw [ByteArray.size_append]; rfl
            go_wp2_with fail
            go_round
            case rel => exact ⟨m + 1, _, by omega, by go_num, rfl, by omega, hD2⟩
            case measure => simp [intOf]; omega
          · obtain rfl : m = v := by omega
            have hD3 : Hid (U.data.toList = Path.LS (j + 1) m) := by show _ = _; rw [hU.out, Path.LS_succ, if_neg (by omega)]
            go_wp2_with fail
            go_round
            case rel => exact ⟨j + 1, U, by omega, by go_num, rfl, by omega, hD3⟩
            case measure => simp [intOf]; omega
      · obtain rfl : j = 0 := by omega
        have hD : Hid (S.data.toList = []) := hS
        go_wp2_with fail
        go_loop [7, 30] (fun s i => ∃ (m : Nat) (U : ByteArray), m ≤ v ∧ i = .int .i64 m ∧ s = .string U ∧ U.size ≤ m ∧ Hid (U.data.toList = List.replicate m 99)) (fun _ i => v - (intOf i).toNat)
        case atStart => exact ⟨0, _, Nat.zero_le _, rfl, rfl, by omega, by show _ = _; rw [hD.out]; simp⟩
        case round =>
          obtain ⟨m, U, hm, rfl, rfl, hzU, hU⟩ := hrel
          by_cases hlt2 : m < v
          · have hD2 : Hid ((U ++ (⟨#[99]⟩ : ByteArray)).data.toList = List.replicate (m + 1) 99) := by show _ = _; rw [app_data, hU.out, List.replicate_succ']
            have hZ2 : (U ++ (⟨#[99]⟩ : ByteArray)).size = U.size + 1 := by rw [ByteArray.size_append]; rfl
            go_wp2_with fail
            go_round
            case rel => exact ⟨m + 1, _, by omega, by go_num, rfl, by omega, hD2⟩
            case measure => simp [intOf]; omega
          · obtain rfl : m = v := by omega
            have hD3 : Hid (U.data.toList = Path.LS (0 + 1) m) := by show _ = _; rw [hU.out, Path.LS_succ, if_pos rfl, List.nil_append]
            go_wp2_with fail
            go_round
            case rel => exact ⟨0 + 1, U, by omega, by go_num, rfl, by omega, hD3⟩
            case measure => simp [intOf]; omega
    · obtain rfl : j = k := by omega
      have hlen := Path.LS_length j v k1
      have hE := Path.LS_err j v k1 v1
      have hJ := Path.LS_joinE j v k1 v1
      have hP := Path.LS_join j v k1 v1
      have hT : (Path.LS j v).length = S.size := by rw [← hS.out, toList_length]
      rw [hT] at hE hJ
      have caw := fun w => awake31_any w
      have cck := fun w => pcheck_any S w (by omega)
      have cjn := fun w => pjoin_any S ⟨#[120]⟩ w (by omega)
      rw [hS.out] at cck cjn
      have e120 : (⟨#[120]⟩ : ByteArray).data.toList = [120] := rfl
      rw [e120] at cjn
      have hJ0 : Path.err (Path.LS j v) ≠ 0 → Path.joinE (Path.LS j v) [120] = Path.err (Path.LS j v) := fun h => by rw [Path.joinE, if_pos h]
      have hV : Path.joinE (Path.LS j v) [120] = 0 → (⟨(Path.joinV (Path.LS j v) [120]).toArray⟩ : ByteArray) = S ++ ⟨#[47, 120]⟩ := fun h => by
        rw [Path.joinV, if_pos h, hP]
        refine of_toList ?_
        rw [app_data, hS.out]
      generalize (⟨(Path.joinV (Path.LS j v) [120]).toArray⟩ : ByteArray) = V at *
      generalize Path.joinE (Path.LS j v) [120] = J at *
      generalize Path.err (Path.LS j v) = E at *
      clear hP hT hlen hS e120 ek ev
      have HV := Lib.hid hV
      clear hV
      by_cases c1 : 200 < S.size
      · rw [if_pos (.inl c1)] at hE
        subst hE
        have := hJ0 (by decide)
        subst this
        clear hJ hJ0 HV
        go_wp2_with fail
        refine (cjn _).mono ?_
        rintro e w1 ⟨rfl, hb1⟩
        go_wp2_with fail
        refine (cck _).mono ?_
        rintro e w2 ⟨rfl, hb2⟩
        have hb3 := bchain hb1 hb2
        clear hb1 hb2
        go_wp2_with fail
        refine (caw _).mono ?_
        rintro e w4 ⟨rfl, hb4⟩
        go_wp2_with fail
        go_ret
        exact ⟨rfl, bchain hb3 hb4⟩
      by_cases c2 : 8 < j
      · rw [if_pos (.inr c2)] at hE
        subst hE
        have := hJ0 (by decide)
        subst this
        clear hJ hJ0 HV
        go_wp2_with fail
        refine (cjn _).mono ?_
        rintro e w1 ⟨rfl, hb1⟩
        go_wp2_with fail
        refine (cck _).mono ?_
        rintro e w2 ⟨rfl, hb2⟩
        have hb3 := bchain hb1 hb2
        clear hb1 hb2
        go_wp2_with fail
        refine (caw _).mono ?_
        rintro e w4 ⟨rfl, hb4⟩
        go_wp2_with fail
        go_ret
        exact ⟨rfl, bchain hb3 hb4⟩
      rw [if_neg (by omega)] at hE
      by_cases c3 : v ≤ 32
      rotate_left
      · rw [if_neg c3] at hE
        subst hE
        have := hJ0 (by decide)
        subst this
        clear hJ hJ0 HV
        go_wp2_with fail
        refine (cjn _).mono ?_
        rintro e w1 ⟨rfl, hb1⟩
        go_wp2_with fail
        refine (cck _).mono ?_
        rintro e w2 ⟨rfl, hb2⟩
        have hb3 := bchain hb1 hb2
        clear hb1 hb2
        go_wp2_with fail
        refine (caw _).mono ?_
        rintro e w4 ⟨rfl, hb4⟩
        go_wp2_with fail
        go_ret
        exact ⟨rfl, bchain hb3 hb4⟩
      rw [if_pos c3] at hE
      subst hE
      replace hJ := hJ rfl
      clear hJ0
      by_cases c4 : j < 8
      rotate_left
      · rw [if_pos (by omega)] at hJ
        subst hJ
        clear HV
        go_wp2_with fail
        refine (cjn _).mono ?_
        rintro e w1 ⟨rfl, hb1⟩
        go_wp2_with fail
        refine (cck _).mono ?_
        rintro e w2 ⟨rfl, hb2⟩
        have hb3 := bchain hb1 hb2
        clear hb1 hb2
        go_wp2_with fail
        refine (caw _).mono ?_
        rintro e w4 ⟨rfl, hb4⟩
        go_wp2_with fail
        go_ret
        exact ⟨rfl, bchain hb3 hb4⟩
      by_cases c5 : 200 < S.size + 2
      · rw [if_pos (by omega)] at hJ
        subst hJ
        clear HV
        go_wp2_with fail
        refine (cjn _).mono ?_
        rintro e w1 ⟨rfl, hb1⟩
        go_wp2_with fail
        refine (cck _).mono ?_
        rintro e w2 ⟨rfl, hb2⟩
        have hb3 := bchain hb1 hb2
        clear hb1 hb2
        go_wp2_with fail
        refine (caw _).mono ?_
        rintro e w4 ⟨rfl, hb4⟩
        go_wp2_with fail
        go_ret
        exact ⟨rfl, bchain hb3 hb4⟩
      rw [if_neg (by omega)] at hJ
      subst hJ
      have hV := HV.out rfl
      subst hV
      clear HV
      go_wp2_with fail
      refine (cjn _).mono ?_
      rintro e w1 ⟨rfl, hb1⟩
      go_wp2_with fail
      refine (cck _).mono ?_
      rintro e w2 ⟨rfl, hb2⟩
      have hb3 := bchain hb1 hb2
      clear hb1 hb2
      go_wp2_with fail
      refine (caw _).mono ?_
      rintro e w4 ⟨rfl, hb4⟩
      go_wp2_with fail
      go_ret
      exact ⟨rfl, bchain hb3 hb4⟩
end Go.Proofs.YtgdmclhkoaadmaaDoor
