/-
  The law ConvcodeSteps, walked.
-/
import Derived.Test.YtokjmcndjhdhfaaDoorConvLaw2
import Derived.Test.YtokjmcndjhdhfaaDoorConvPre
import Derived.Test.YtokjmcndjhdhfaaDoorConvRefE
namespace Go.Proofs.YtokjmcndjhdhfaaDoor
open Go.RowKit

theorem state_of (n : Int) : ∃ p q : Bool, n % 4 = Conv.st p q := by
  have h : n % 4 = 0 ∨ n % 4 = 1 ∨ n % 4 = 2 ∨ n % 4 = 3 := by omega
  rcases h with h | h | h | h
  · exact ⟨false, false, by rw [h]; rfl⟩
  · exact ⟨false, true, by rw [h]; rfl⟩
  · exact ⟨true, false, by rw [h]; rfl⟩
  · exact ⟨true, true, by rw [h]; rfl⟩
theorem bit_of_int (n : Int) : ∃ u : Bool, n % 2 = Conv.bn u := by
  have h : n % 2 = 0 ∨ n % 2 = 1 := by omega
  rcases h with h | h
  · exact ⟨false, by rw [h]; rfl⟩
  · exact ⟨true, by rw [h]; rfl⟩

set_option maxHeartbeats 2000000 in
theorem law_steps_0 (a0 : ByteArray) (a1 a2 : Int) (z0 : a0.size ≤ 9223372036854775807) (h : 1000 < (a0.size : Int) ∨ Conv.ok a0.data.toList = false) (s0 : -9223372036854775808 ≤ a1) (s1 : a1 ≤ 9223372036854775807) (b0 : -9223372036854775808 ≤ a2) (b1 : a2 ≤ 9223372036854775807) (w : World) :
    Calls Tryd.prog 4 #[.string a0, .int .i64 a1, .int .i64 a2] w fun e w' => e = .returned (.bool true) ∧ Below w.heap.size w w' := by
  obtain ⟨p, q, hpq⟩ := state_of a1
  obtain ⟨u, hu⟩ := bit_of_int a2
  have h1 := fun w => next_any a1 a2 p q u w hpq hu
  have h2 := fun w => rnext_any a1 a2 p q u w hpq hu s0 s1 b0 b1
  generalize (⟨#[Conv.ch ((u ^^ p) ^^ q), Conv.ch (u ^^ q)]⟩ : ByteArray) = Y at *
  generalize Conv.st u p = S at *
  have hY : (Y.toList == Y.toList) = true := by simp
  have H1 := Lib.hid h1
  have H2 := Lib.hid h2
  clear h1 h2 hpq hu
  by_cases hb : 1000 < (a0.size : Int)
  · clear h
    go_enter Tryd.func4, Tryd.ntmps4
    go_wp2_with (go_at_call 11; refine (alive_any _).mono ?_; rintro e w1 ⟨rfl, hb1⟩)
    refine (H1.out _).mono ?_
    rintro e w2 ⟨rfl, rfl⟩
    go_wp2_with fail
    refine (H2.out _).mono ?_
    rintro e w3 ⟨rfl, hb3⟩
    go_wp2_with fail
    refine (encode_any a0 _ z0).mono ?_
    rintro e w4 ⟨rfl, hb4⟩
    go_wp2_with fail
    go_ret
    exact ⟨rfl, bchain (bchain hb1 hb3) hb4⟩
  · have hl0 := toList_length a0
    obtain ⟨e1, e2⟩ := Conv.enc_bad (s := a0.data.toList) (by omega) (h.resolve_left hb)
    have E2 := Lib.hid e2
    clear e1 e2 h
    go_enter Tryd.func4, Tryd.ntmps4
    go_wp2_with (go_at_call 11; refine (alive_any _).mono ?_; rintro e w1 ⟨rfl, hb1⟩)
    refine (H1.out _).mono ?_
    rintro e w2 ⟨rfl, rfl⟩
    go_wp2_with fail
    refine (H2.out _).mono ?_
    rintro e w3 ⟨rfl, hb3⟩
    go_wp2_with fail
    refine (encode_any a0 _ z0).mono ?_
    rintro e w4 ⟨rfl, hb4⟩
    rw [E2.out]
    go_wp2_with fail
    go_ret
    exact ⟨rfl, bchain (bchain hb1 hb3) hb4⟩

set_option maxHeartbeats 1000000 in
theorem law_steps_1 (a0 : ByteArray) (a1 a2 : Int) (hb : (a0.size : Int) ≤ 1000) (hok : Conv.ok a0.data.toList = true) (s0 : -9223372036854775808 ≤ a1) (s1 : a1 ≤ 9223372036854775807) (b0 : -9223372036854775808 ≤ a2) (b1 : a2 ≤ 9223372036854775807) (w : World) :
    Calls Tryd.prog 4 #[.string a0, .int .i64 a1, .int .i64 a2] w fun e w' => e = .returned (.bool true) ∧ Below w.heap.size w w' := by
  obtain ⟨p0, q0, hpq⟩ := state_of a1
  obtain ⟨u0, hu⟩ := bit_of_int a2
  have h1 := fun w => next_any a1 a2 p0 q0 u0 w hpq hu
  have h2 := fun w => rnext_any a1 a2 p0 q0 u0 w hpq hu s0 s1 b0 b1
  generalize (⟨#[Conv.ch ((u0 ^^ p0) ^^ q0), Conv.ch (u0 ^^ q0)]⟩ : ByteArray) = Y at *
  generalize Conv.st u0 p0 = S0 at *
  have hY : (Y.toList == Y.toList) = true := by simp
  have H1 := Lib.hid h1
  have H2 := Lib.hid h2
  have z0 : a0.size ≤ 9223372036854775807 := by omega
  have hl0 := toList_length a0
  obtain ⟨e1, e2⟩ := Conv.enc_ok (s := a0.data.toList) (by omega) hok
  obtain ⟨X, hX⟩ : ∃ V : ByteArray, ⟨(Conv.encX a0.data.toList).toArray⟩ = V := ⟨_, rfl⟩
  have dX : X.data.toList = Conv.code a0.data.toList := by rw [← hX]; exact e1
  unfold Conv.code at dX
  obtain ⟨BS, hBS⟩ : ∃ V : List Bool, Conv.bitsOf a0.data.toList ++ [false, false] = V := ⟨_, rfl⟩
  have lB : BS.length = a0.size + 2 := by rw [← hBS]; simp [Conv.bitsOf, Array.length_toList]
  have hbit : ∀ k (hk : k < a0.size), BS[k]? = some (Conv.tb a0[k]) := fun k hk => by
    rw [← hBS, List.getElem?_append_left (by rw [Conv.bitsOf, List.length_map, toList_length]; exact hk), Conv.bitsOf, List.getElem?_map, get_of_lt a0 k hk]
    rfl
  have htail : ∀ k, a0.size ≤ k → k < a0.size + 2 → BS[k]? = some false := fun k h1 h2 => by
    rw [← hBS, List.getElem?_append_right (by rw [Conv.bitsOf, List.length_map, toList_length]; exact h1), Conv.bitsOf, List.length_map, toList_length]
    have h3 : k - a0.size = 0 ∨ k - a0.size = 1 := by omega
    rcases h3 with h | h <;> rw [h] <;> rfl
  have haft : Conv.after false false BS = (false, false) := by rw [← hBS]; exact Conv.after_zeros _ _ _
  rw [hBS] at dX
  have HBIT := Lib.hid hbit
  have HTAIL := Lib.hid htail
  have HAFT := Lib.hid haft
  have HOK := Lib.hid hok
  have LB := Lib.hid lB
  have HX := Lib.hid hX
  have DX := Lib.hid dX
  have E2 := Lib.hid e2
  clear h1 h2 hpq hu hbit htail haft hok lB hX dX e1 e2 hBS
  go_enter Tryd.func4, Tryd.ntmps4
  go_wp2_with (go_at_call 11; refine (alive_any _).mono ?_; rintro e w1 ⟨rfl, hb1⟩)
  refine (H1.out _).mono ?_
  rintro e w2 ⟨rfl, rfl⟩
  go_wp2_with fail
  refine (H2.out _).mono ?_
  rintro e w3 ⟨rfl, hb3⟩
  go_wp2_with fail
  refine (encode_any a0 _ z0).mono ?_
  rintro e w4 ⟨rfl, hb4⟩
  rw [E2.out, HX.out]
  have hc4 := bchain (bchain hb1 hb3) hb4
  clear hb1 hb3 hb4
  go_wp2_with fail
  go_loop [13, 14, 15] (fun at' out i => ∃ (k : Nat) (F : ByteArray), k ≤ a0.size + 2 ∧ i = .int .i64 k ∧ out = .string F ∧ Hid (F.data.toList = Conv.flat ((Conv.outs false false BS).take k)) ∧ F.size = 2 * k ∧ at' = .int .i64 (Conv.st (Conv.after false false (BS.take k)).1 (Conv.after false false (BS.take k)).2)) (fun _ _ i => a0.size + 2 - (intOf i).toNat)
  case atStart => exact ⟨0, ⟨#[]⟩, Nat.zero_le _, rfl, rfl, rfl, rfl, rfl⟩
  case round =>
    obtain ⟨k, F, hk, rfl, rfl, hF, zF, rfl⟩ := hrel
    by_cases hlt : k < a0.size + 2
    · have hltB : k < BS.length := by rw [LB.out]; exact hlt
      have hts := Conv.outs_take_succR false false BS k hltB
      have has := Conv.after_take_succR false false BS k hltB
      have hnext := fun (bit : Int) (w : World) (hbit : bit % 2 = (Conv.bn BS[k] : Nat)) => next_any (Conv.st (Conv.after false false (BS.take k)).1 (Conv.after false false (BS.take k)).2 : Nat) bit (Conv.after false false (BS.take k)).1 (Conv.after false false (BS.take k)).2 BS[k] w (by cases (Conv.after false false (BS.take k)).1 <;> cases (Conv.after false false (BS.take k)).2 <;> rfl) hbit
      generalize (Conv.after false false (BS.take k)).1 = p at *
      generalize (Conv.after false false (BS.take k)).2 = q at *
      generalize hu : BS[k] = u at *
      obtain ⟨G, hG⟩ : ∃ V : ByteArray, (⟨#[Conv.ch ((u ^^ p) ^^ q), Conv.ch (u ^^ q)]⟩ : ByteArray) = V := ⟨_, rfl⟩
      have dG : G.data.toList = [Conv.ch ((u ^^ p) ^^ q), Conv.ch (u ^^ q)] := by rw [← hG]
      have zG : G.size = 2 := by rw [← toList_length, dG]; rfl
      have zFG : (F ++ G).size = F.size + G.size := ByteArray.size_append
      have dFG : Hid ((F ++ G).data.toList = Conv.flat ((Conv.outs false false BS).take (k + 1))) := by
        refine Lib.hid ?_
        rw [app_data, hF.out, hts, Conv.flat_snoc, dG]
      have HST : Hid ((Conv.st u p : Nat) = Conv.st (Conv.after false false (BS.take (k + 1))).1 (Conv.after false false (BS.take (k + 1))).2) := by
        refine Lib.hid ?_
        rw [has]
      rw [hG] at hnext
      generalize Conv.st p q = S1 at *
      generalize Conv.st u p = S2 at *
      have HU := Lib.hid hu
      have HN := Lib.hid hnext
      have HG := Lib.hid hG
      have HzFG : (F ++ G).size = 2 * (k + 1) := by rw [zFG, zF, zG]; omega
      have HZ := Lib.hid HzFG
      clear hts has hnext hu hG dG zFG HzFG
      by_cases hlts : k < a0.size
      · have hb : Conv.isBit a0[k] = true := by
          have h := HOK.out
          unfold Conv.ok at h
          rw [List.all_eq_true] at h
          exact h _ (List.mem_of_getElem? (get_of_lt a0 k hlts))
        have hn := Conv.toNat_bit hb
        have e : Conv.tb a0[k] = u := by
          have h := HBIT.out k hlts
          rw [List.getElem?_eq_getElem hltB, HU.out] at h
          exact (Option.some.inj h).symm
        rw [e] at hn
        have hlow : (48 : Int) ≤ (a0[k].toNat : Int) := by omega
        have HM : (((a0[k].toNat : Int) - 48) % 256) % 2 = (Conv.bn u : Nat) := by rw [hn]; cases u <;> rfl
        have HH := Lib.hid HM
        clear e hn hb HM
        go_wp2_with fail
        refine (HN.out _ _ HH.out).mono ?_
        rintro e w5 ⟨rfl, rfl⟩
        go_wp2_with fail
        go_round
        case rel => exact ⟨k + 1, F ++ G, by omega, by go_num, rfl, dFG, HZ.out, by rw [HST.out]⟩
        case measure => simp [intOf]; omega
      · have HM : (0 : Int) % 2 = (Conv.bn u : Nat) := by
          have h := HTAIL.out k (by omega) hlt
          rw [List.getElem?_eq_getElem hltB, HU.out] at h
          rw [Option.some.inj h]
          rfl
        have HH := Lib.hid HM
        clear HM
        go_wp2_with fail
        refine (HN.out _ _ HH.out).mono ?_
        rintro e w5 ⟨rfl, rfl⟩
        go_wp2_with fail
        go_round
        case rel => exact ⟨k + 1, F ++ G, by omega, by go_num, rfl, dFG, HZ.out, by rw [HST.out]⟩
        case measure => simp [intOf]; omega
    · obtain rfl : k = a0.size + 2 := by omega
      have hFX : F = X := by
        refine of_toList ?_
        rw [hF.out, DX.out, List.take_of_length_le (by rw [Conv.outs_length, LB.out]; omega)]
      subst hFX
      have hFF : (F.toList == F.toList) = true := by simp
      rw [List.take_of_length_le (by rw [LB.out]; omega), HAFT.out]
      have hst : Conv.st false false = 0 := rfl
      clear hF
      go_wp2_with fail
      go_ret
      exact ⟨rfl, hc4⟩

theorem law_steps (a0 : ByteArray) (a1 a2 : Int) (w0 : a0.size ≤ 140737488351232) (w1 : (Lit.int .i64 a1).wf = true) (w2 : (Lit.int .i64 a2).wf = true) (w : World) :
    Calls Tryd.prog 4 #[.string a0, .int .i64 a1, .int .i64 a2] w fun e w' => e = .returned (.bool true) ∧ Below w.heap.size w w' := by
  obtain ⟨s0, s1⟩ := i64_in w1
  obtain ⟨b0, b1⟩ := i64_in w2
  by_cases h1 : 1000 < (a0.size : Int)
  · exact law_steps_0 a0 a1 a2 (by omega) (Or.inl h1) s0 s1 b0 b1 w
  cases hok : Conv.ok a0.data.toList
  · exact law_steps_0 a0 a1 a2 (by omega) (Or.inr hok) s0 s1 b0 b1 w
  · exact law_steps_1 a0 a1 a2 (by omega) hok s0 s1 b0 b1 w
end Go.Proofs.YtokjmcndjhdhfaaDoor
