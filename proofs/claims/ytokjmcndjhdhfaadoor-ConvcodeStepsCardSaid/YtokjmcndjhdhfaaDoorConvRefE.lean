/-
  The walks of the reference of layer 9: Encode, Weight.
-/
import Derived.Test.YtokjmcndjhdhfaaDoorConvRef
import Derived.Test.YtokjmcndjhdhfaaDoorConvEncP
namespace Go.Proofs.YtokjmcndjhdhfaaDoor
open Go.RowKit

theorem infoU8 : (Tryd.prog.info? 5).map (fun i => (i.zero, i.size, i.bytes)) = some (some (.int .u8 0), 1, 1) := by kernel_rfl
theorem isBit_walk (c : UInt8) : Conv.isBit c = !(((c.toNat : Int) != 48) && ((c.toNat : Int) != 49)) := by
  rw [bne48, bne49]
  unfold Conv.isBit bne
  cases (c == 48) <;> cases (c == 49) <;> rfl
theorem bok_succ (s : ByteArray) (k : Nat) (h : k < s.size) : Conv.ok (s.data.toList.take (k + 1)) = (Conv.ok (s.data.toList.take k) && Conv.isBit s[k]) := by
  rw [List.take_succ_eq_append_getElem (by rw [toList_length]; exact h)]
  simp only [Conv.ok, List.all_append, List.all_cons, List.all_nil, Bool.and_true]
  rfl
theorem bok_take (s : ByteArray) (k : Nat) (h : Conv.ok (s.data.toList.take k) = false) : Conv.ok s.data.toList = false := by
  rw [← List.take_append_drop k s.data.toList]
  simp only [Conv.ok, List.all_append] at h ⊢
  rw [h]
  rfl

theorem rencode_long (s : ByteArray) (w : World) (hs : 65536 < s.size) (hs2 : s.size ≤ 9223372036854775807) :
    Calls Tryd.prog 18 #[.string s] w fun e w' => e = .returned (.tuple #[.string ⟨#[]⟩, .int .i64 6]) ∧ Below w.heap.size w w' := by
  go_enter Tryd.func18, Tryd.ntmps18
  go_wp2_with fail
  go_ret2
  exact ⟨rfl, Below.refl _ _⟩

set_option maxHeartbeats 2000000 in
theorem rencode_bad (s : ByteArray) (w : World) (hs : s.size ≤ 65536) (hok : Conv.ok s.data.toList = false) :
    Calls Tryd.prog 18 #[.string s] w fun e w' => e = .returned (.tuple #[.string ⟨#[]⟩, .int .i64 3]) ∧ Below w.heap.size w w' := by
  have HOK := Lib.hid hok
  clear hok
  go_enter Tryd.func18, Tryd.ntmps18
  go_wp2_with fail
  go_loop [4] (fun i => ∃ k : Nat, k ≤ s.size ∧ i = .int .i64 k ∧ Hid (Conv.ok (s.data.toList.take k) = true)) (fun i => s.size - (intOf i).toNat)
  case atStart => exact ⟨0, Nat.zero_le _, rfl, rfl⟩
  case round =>
    obtain ⟨k, hk, rfl, hok⟩ := hrel
    by_cases hlt : k < s.size
    · have HS := Lib.hid (bok_succ s k hlt)
      have HC := Lib.hid (isBit_walk s[k])
      cases h1 : ((s[k].toNat : Int) != 48)
      · go_wp2_with fail
        go_round
        case rel => exact ⟨k + 1, by omega, by go_num, by show _ = true; rw [HS.out, hok.out, HC.out, h1]; rfl⟩
        case measure => simp [intOf]; omega
      · cases h2 : ((s[k].toNat : Int) != 49)
        · go_wp2_with fail
          go_round
          case rel => exact ⟨k + 1, by omega, by go_num, by show _ = true; rw [HS.out, hok.out, HC.out, h1, h2]; rfl⟩
          case measure => simp [intOf]; omega
        · go_wp2_with fail
          go_ret2
          exact ⟨rfl, Below.refl _ _⟩
    · exfalso
      obtain rfl : k = s.size := by omega
      have h := hok.out
      rw [List.take_of_length_le (by rw [toList_length]; omega), HOK.out] at h
      cases h

theorem u8_xor_bits (u q : Bool) : bits .xor .u8 (Conv.bn u : Nat) (Conv.bn q : Nat) = (Conv.bn (u ^^ q) : Nat) := by
  cases u <;> cases q <;> decide +kernel

set_option maxHeartbeats 2000000 in
theorem rencode_ok (s : ByteArray) (w : World) (hs : s.size ≤ 65536) (hok : Conv.ok s.data.toList = true) :
    Calls Tryd.prog 18 #[.string s] w fun e w' => e = .returned (.tuple #[.string ⟨(Conv.code s.data.toList).toArray⟩, .int .i64 0]) ∧ Below w.heap.size w w' := by
  have hmk := run_make_cap (P := Tryd.prog) 39 5 (.int .u8 0) 1 Tryd.underlying39 infoU8 rfl .i64 .i64 (2 * s.size + 4) (2 * (s.size : Int) + 4) (by omega) (by omega) (by omega)
  obtain ⟨L, hL⟩ : ∃ V : ByteArray, ⟨#[48, 48]⟩ ++ s ++ ⟨#[48, 48]⟩ = V := ⟨_, rfl⟩
  have dL : L.data.toList = ([false, false] ++ (Conv.bitsOf s.data.toList ++ [false, false])).map Conv.ch := by
    rw [← hL, app_data, app_data, List.map_append, List.map_append, Conv.bits_chR _ hok, List.append_assoc]
    rfl
  have lB : (Conv.bitsOf s.data.toList ++ [false, false]).length = s.size + 2 := by
    simp [Conv.bitsOf, Array.length_toList]
  have zL : L.size = s.size + 4 := by
    rw [← toList_length, dL, List.length_map, List.length_append, lB]
    simp
    omega
  have hcode : Conv.code s.data.toList = Conv.flat (Conv.outs false false (Conv.bitsOf s.data.toList ++ [false, false])) := rfl
  have HOK := Lib.hid hok
  have HCODE := Lib.hid hcode
  have hL4 : s.size + 4 ≤ L.size := by omega
  have hL5 : L.size ≤ s.size + 4 := by omega
  clear hok hcode zL
  generalize Conv.bitsOf s.data.toList ++ [false, false] = BS at *
  have hch : ∀ k (hk : k < L.size) (hb : k < ([false, false] ++ BS).length), L[k].toNat = 48 + Conv.bn ([false, false] ++ BS)[k] := fun k hk hb => by
    have e : L.data.toList[k]? = some (Conv.ch ([false, false] ++ BS)[k]) := by rw [dL, List.getElem?_map, List.getElem?_eq_getElem hb]; rfl
    rw [get_of_lt L k hk] at e
    have e2 : L[k] = Conv.ch ([false, false] ++ BS)[k] := Option.some.inj e
    rw [e2]
    cases ([false, false] ++ BS)[k] <;> rfl
  have HCH := Lib.hid hch
  have LB := Lib.hid lB
  clear hch lB dL
  go_enter Tryd.func18, Tryd.ntmps18
  go_wp2_with fail
  go_loop [4] (fun i => ∃ k : Nat, k ≤ s.size ∧ i = .int .i64 k) (fun i => s.size - (intOf i).toNat)
  case atStart => exact ⟨0, Nat.zero_le _, rfl⟩
  case round =>
    obtain ⟨k, hk, rfl⟩ := hrel
    by_cases hlt : k < s.size
    · have hb : Conv.isBit s[k] = true := by
        have h := HOK.out
        unfold Conv.ok at h
        rw [List.all_eq_true] at h
        exact h _ (List.mem_of_getElem? (get_of_lt s k hlt))
      rw [isBit_walk] at hb
      cases h1 : ((s[k].toNat : Int) != 48)
      · clear hb
        go_wp2_with fail
        go_round
        case rel => exact ⟨k + 1, by omega, by go_num⟩
        case measure => simp [intOf]; omega
      · cases h2 : ((s[k].toNat : Int) != 49)
        · clear hb
          go_wp2_with fail
          go_round
          case rel => exact ⟨k + 1, by omega, by go_num⟩
          case measure => simp [intOf]; omega
        · rw [h1, h2] at hb
          cases hb
    · obtain rfl : k = s.size := by omega
      go_wp2_with fail
      go_loopw [6, 7] (fun v i wr => ∃ m : Nat, 2 ≤ m ∧ m ≤ s.size + 4 ∧ i = .int .i64 m ∧ Own wr w.heap.size 5 v (bytesL (Conv.flat ((Conv.outs false false BS).take (m - 2)))) ∧ Below w.heap.size w wr) (fun _ i _ => s.size + 4 - (intOf i).toNat)
      case atStart => exact ⟨2, Nat.le_refl _, by omega, rfl, Own.made_cap w _ _ _ _ (Nat.le_refl _) (by unfold maxLen; omega) (by rw [size_madeCells]), (Below.refl _ _).alloc (Nat.le_refl _) _⟩
      case round =>
        obtain ⟨m, hm2, hm, rfl, hown, hb⟩ := hrel
        by_cases hlt2 : m < s.size + 4
        · have hm1 : m < L.size := by omega
          have hm3 : m - 1 < L.size := by omega
          have hm4 : m - 2 < L.size := by omega
          obtain ⟨j1, hj1⟩ : ∃ j : Nat, m = j + 1 := ⟨m - 1, by omega⟩
          obtain ⟨j2, hj2⟩ : ∃ j : Nat, m = j + 2 := ⟨m - 2, by omega⟩
          have lB2 : ([false, false] ++ BS).length = s.size + 4 := by
            rw [List.length_append, LB.out]
            simp
            omega
          have j1L : j1 < L.size := by omega
          have j2L : j2 < L.size := by omega
          have hc0 := HCH.out m hm1 (by omega)
          have hc1 := HCH.out j1 j1L (by omega)
          have hc2 := HCH.out j2 j2L (by omega)
          have hbs : j2 < BS.length := by rw [LB.out]; omega
          have haf := Conv.after_get BS j2 (by omega) _ _ (show ([false, false] ++ BS)[j2 + 1]? = some (([false, false] ++ BS)[j1]'(by omega)) by rw [List.getElem?_eq_getElem (by omega)]; congr 2; omega) (List.getElem?_eq_getElem (by omega))
          have hts := Conv.outs_take_succR false false BS j2 hbs
          rw [haf] at hts
          have e0 : ([false, false] ++ BS)[m]'(by omega) = BS[j2] := by
            subst hj2
            rw [List.getElem_append_right (by simp)]
            simp
          rw [← e0] at hts
          generalize ([false, false] ++ BS)[m]'(by omega) = A at *
          generalize ([false, false] ++ BS)[j1]'(by omega) = B at *
          generalize ([false, false] ++ BS)[j2]'(by omega) = C at *
          have x1 := u8_xor_bits A B
          have x2 := u8_xor_bits (A ^^ B) C
          have x3 := u8_xor_bits A C
          have q1 : IntKind.i64.wrap ((m : Int) - 1) = (j1 : Int) := by rw [IntWalk.i64_in _ (by omega)]; omega
          have q2 : IntKind.i64.wrap ((m : Int) - 2) = (j2 : Int) := by rw [IntWalk.i64_in _ (by omega)]; omega
          have HJ1 := Lib.hid hj1
          have HJ2 := Lib.hid hj2
          have p0 : IntKind.u8.wrap ((L[m].toNat : Int) - 48) = (Conv.bn A : Nat) := by rw [hc0]; cases A <;> rfl
          have p1 : IntKind.u8.wrap ((L[j1].toNat : Int) - 48) = (Conv.bn B : Nat) := by rw [hc1]; cases B <;> rfl
          have p2 : IntKind.u8.wrap ((L[j2].toNat : Int) - 48) = (Conv.bn C : Nat) := by rw [hc2]; cases C <;> rfl
          generalize (A ^^ B) = T at *
          generalize (T ^^ C) = U at *
          generalize (A ^^ C) = V at *
          have HTS := Lib.hid hts
          clear hts haf hc0 hc1 hc2 e0 hj1 hj2 lB2
          have b1 : ((Conv.bn U : Nat) : Int) ≤ 1 := by cases U <;> decide
          have b2 : ((Conv.bn V : Nat) : Int) ≤ 1 := by cases V <;> decide
          have HX1 : ∀ x : Bool, (48 + ((Conv.bn x : Nat) : Int)) = ((Conv.ch x).toNat : Nat) := by intro x; cases x <;> rfl
          have HX := Lib.hid HX1
          clear HX1
          have hlen : (bytesL (Conv.flat ((Conv.outs false false BS).take (m - 2)))).length ≤ 2 * (s.size + 4) := by
            rw [bytesL_length, Conv.flat_length, List.length_take]
            omega
          go_wp2_with fail
          go_quiet (fail)
          go_wp2_with (at_builtin; refine wpList_appN 5 39 _ 1 infoU8 Tryd.underlying39 rfl rfl _ _ rfl _ _ _ rfl (hown.drewN nq) _ [_] 2 rfl rfl ?_ (by omega) (by omega) (below_drewN hb nq).size ?_)
          · intro y hy
            rw [List.mem_cons, List.mem_singleton] at hy
            rcases hy with rfl | rfl <;> rfl
          · intro v1 w1 hown1 hb1 _
            have hb3 := (below_drewN hb nq).trans hb1
            rw [HX.out, HX.out] at hown1
            have e1 : bytesL (Conv.flat ((Conv.outs false false BS).take (m - 2))) ++ [Value.int .u8 (Conv.ch U).toNat, Value.int .u8 (Conv.ch V).toNat] = bytesL (Conv.flat ((Conv.outs false false BS).take (m + 1 - 2))) := by
              have e2 : m - 2 = j2 := by have := HJ2.out; omega
              have e3 : m + 1 - 2 = j2 + 1 := by have := HJ2.out; omega
              rw [e2, e3, HTS.out, Conv.flat_snoc]
              simp [bytesL]
            rw [e1] at hown1
            clear e1 q1 q2 p0 p1 p2 x1 x2 x3
            go_wp2_with fail
            go_roundw
            case rel => exact ⟨m + 1, by omega, by omega, by go_num, hown1, hb3⟩
            case measure => simp [intOf]; omega
        · obtain rfl : m = s.size + 4 := by omega
          rw [show s.size + 4 - 2 = s.size + 2 by omega, List.take_of_length_le (by rw [Conv.outs_length, LB.out]; omega)] at hown
          have hcv := conv_own (P := Tryd.prog) 39 5 9 Tryd.underlying39 Tryd.underlying5 Tryd.underlying9 hown
          go_wp2_with fail
          go_ret2
          exact ⟨by rw [HCODE.out]; rfl, hb⟩
theorem rencode_any (s : ByteArray) (w : World) (hs : s.size ≤ 9223372036854775807) :
    Calls Tryd.prog 18 #[.string s] w fun e w' => e = .returned (.tuple #[.string ⟨(Conv.encX s.data.toList).toArray⟩, .int .i64 (Conv.encE s.data.toList)]) ∧ Below w.heap.size w w' := by
  have hl := toList_length s
  by_cases h : s.size ≤ 65536
  · cases hk : Conv.ok s.data.toList
    · obtain ⟨e1, e2⟩ := Conv.enc_bad (by rw [hl]; exact h) hk
      rw [e1, e2]
      exact rencode_bad s w h hk
    · obtain ⟨e1, e2⟩ := Conv.enc_ok (by rw [hl]; exact h) hk
      rw [e1, e2]
      exact rencode_ok s w h hk
  · obtain ⟨e1, e2⟩ := Conv.enc_long (by rw [hl]; exact h)
    rw [e1, e2]
    exact rencode_long s w (by omega) hs

theorem weight_succ (s : ByteArray) (k : Nat) (h : k < s.size) : Conv.weight (s.data.toList.take (k + 1)) = Conv.weight (s.data.toList.take k) + if ((s[k].toNat : Int) == 49) = true then 1 else 0 := by
  rw [List.take_succ_eq_append_getElem (by rw [toList_length]; exact h), beq49]
  simp only [Conv.weight, List.count_append, List.count_singleton]
  rfl
set_option maxHeartbeats 1000000 in
theorem rweight_any (s : ByteArray) (w : World) (hs : s.size ≤ 9223372036854775807) :
    Calls Tryd.prog 20 #[.string s] w fun e w' => e = .returned (.tuple #[.int .i64 (Conv.weight (Conv.encX s.data.toList)), .int .i64 (Conv.encE s.data.toList)]) ∧ Below w.heap.size w w' := by
  have hx := Conv.encX_length s.data.toList
  obtain ⟨X, hX⟩ : ∃ V : ByteArray, ⟨(Conv.encX s.data.toList).toArray⟩ = V := ⟨_, rfl⟩
  have dX : X.data.toList = Conv.encX s.data.toList := by rw [← hX]
  rw [← dX] at hx
  rw [toList_length] at hx
  have HX := Lib.hid hX
  rw [← dX]
  clear hX dX
  generalize hE : Conv.encE s.data.toList = E at *
  have HE := Lib.hid hE
  clear hE
  go_enter Tryd.func20, Tryd.ntmps20
  go_wp2_with fail
  refine (rencode_any s _ hs).mono ?_
  rintro e w1 ⟨rfl, hb1⟩
  rw [HX.out, HE.out]
  go_wp2_with fail
  go_loop [6, 7] (fun n i => ∃ k : Nat, k ≤ X.size ∧ i = .int .i64 k ∧ n = .int .i64 (Conv.weight (X.data.toList.take k))) (fun _ i => X.size - (intOf i).toNat)
  case atStart => exact ⟨0, Nat.zero_le _, rfl, rfl⟩
  case round =>
    obtain ⟨k, hk, rfl, rfl⟩ := hrel
    have hle : Conv.weight (X.data.toList.take k) ≤ (X.data.toList.take k).length := List.count_le_length
    rw [List.length_take] at hle
    by_cases hlt : k < X.size
    · have HS := Lib.hid (weight_succ X k hlt)
      cases h1 : ((X[k].toNat : Int) == 49)
      all_goals
        go_wp2_with fail
        go_round
        case rel => exact ⟨k + 1, by omega, by go_num, by rw [HS.out, h1]; first | rfl | simp⟩
        case measure => simp [intOf]; omega
    · go_wp2_with fail
      go_ret2
      exact ⟨by rw [List.take_of_length_le (by rw [toList_length]; omega)]; rfl, hb1⟩
end Go.Proofs.YtokjmcndjhdhfaaDoor
