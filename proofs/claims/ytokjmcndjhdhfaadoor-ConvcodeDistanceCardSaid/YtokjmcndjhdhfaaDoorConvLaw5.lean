/-
  The law ConvcodeDistance, walked.
-/
import Derived.Test.YtokjmcndjhdhfaaDoorConvDist
import Derived.Test.YtokjmcndjhdhfaaDoorConvXorW
namespace Go.Proofs.YtokjmcndjhdhfaaDoor
open Go.RowKit

theorem diff_succ (a b : ByteArray) (k : Nat) (ha : k < a.size) (hb : k < b.size) : Conv.diff (a.data.toList.take (k + 1)) (b.data.toList.take (k + 1)) = Conv.diff (a.data.toList.take k) (b.data.toList.take k) + if ((a[k].toNat : Int) != (b[k].toNat : Int)) = true then 1 else 0 := by
  have h := Conv.diff_take_succ a.data.toList b.data.toList k (by rw [toList_length]; exact ha) (by rw [toList_length]; exact hb)
  rw [h]
  have e1 : a.data.toList[k]'(by rw [toList_length]; exact ha) = a[k] := rfl
  have e2 : b.data.toList[k]'(by rw [toList_length]; exact hb) = b[k] := rfl
  rw [e1, e2]
  have e3 : ((a[k].toNat : Int) != (b[k].toNat : Int)) = (a[k] != b[k]) := by
    rw [Bool.eq_iff_iff, bne_iff_ne, bne_iff_ne]
    constructor
    · intro h e
      exact h (by rw [e])
    · intro h e
      exact h (UInt8.toNat_inj.1 (by omega))
  rw [e3]

set_option maxHeartbeats 4000000 in
theorem law_distance (a0 a1 : ByteArray) (w0 : a0.size ≤ 140737488351232) (w1 : a1.size ≤ 140737488351232) (w : World) :
    Calls Tryd.prog 9 #[.string a0, .string a1] w fun e w' => e = .returned (.bool true) ∧ Below w.heap.size w w' := by
  have hl0 := toList_length a0
  have hl1 := toList_length a1
  have z0 : a0.size ≤ 9223372036854775807 := by omega
  have z1 : a1.size ≤ 9223372036854775807 := by omega
  by_cases h1 : 1000 < (a0.size : Int)
  · skip
    go_enter Tryd.func9, Tryd.ntmps9
    go_wp2_with (go_at_call 11; refine (alive_any _).mono ?_; rintro e w1 ⟨rfl, hb1⟩)
    refine (encode_any a0 _ z0).mono ?_
    rintro e w2 ⟨rfl, hb2⟩
    go_wp2_with fail
    refine (encode_any a1 _ z1).mono ?_
    rintro e w3 ⟨rfl, hb3⟩
    go_wp2_with fail
    go_ret
    exact ⟨rfl, bchain (bchain hb1 hb2) hb3⟩
  by_cases h2 : a0.size = a1.size
  rotate_left
  · have h2' : ((a0.size : Int) != (a1.size : Int)) = true := by rw [bne_iff_ne]; omega
    go_enter Tryd.func9, Tryd.ntmps9
    go_wp2_with (go_at_call 11; refine (alive_any _).mono ?_; rintro e w1 ⟨rfl, hb1⟩)
    refine (encode_any a0 _ z0).mono ?_
    rintro e w2 ⟨rfl, hb2⟩
    go_wp2_with fail
    refine (encode_any a1 _ z1).mono ?_
    rintro e w3 ⟨rfl, hb3⟩
    go_wp2_with fail
    go_ret
    exact ⟨rfl, bchain (bchain hb1 hb2) hb3⟩
  have h2' : ((a0.size : Int) != (a1.size : Int)) = false := by rw [bne_eq_false_iff_eq]; omega
  by_cases h3 : a0 = a1
  · subst h3
    go_enter Tryd.func9, Tryd.ntmps9
    go_wp2_with (go_at_call 11; refine (alive_any _).mono ?_; rintro e w1 ⟨rfl, hb1⟩)
    refine (encode_any a0 _ z0).mono ?_
    rintro e w2 ⟨rfl, hb2⟩
    go_wp2_with fail
    refine (encode_any a0 _ z0).mono ?_
    rintro e w3 ⟨rfl, hb3⟩
    go_wp2_with fail
    go_ret
    exact ⟨rfl, bchain (bchain hb1 hb2) hb3⟩
  have h3' : (a0.toList == a1.toList) = false := by
    rw [Lib.toList_data, Lib.toList_data, beq_eq_false_iff_ne]
    exact fun e => h3 (of_toList e)
  have hne : a0.data.toList ≠ a1.data.toList := fun e => h3 (of_toList e)
  cases hk0 : Conv.ok a0.data.toList
  · obtain ⟨e1, e2⟩ := Conv.enc_bad (s := a0.data.toList) (by omega) hk0
    have E2 := Lib.hid e2
    clear e1 e2 hk0
    go_enter Tryd.func9, Tryd.ntmps9
    go_wp2_with (go_at_call 11; refine (alive_any _).mono ?_; rintro e w1 ⟨rfl, hb1⟩)
    refine (encode_any a0 _ z0).mono ?_
    rintro e w2 ⟨rfl, hb2⟩
    rw [E2.out]
    go_wp2_with fail
    refine (encode_any a1 _ z1).mono ?_
    rintro e w3 ⟨rfl, hb3⟩
    go_wp2_with fail
    go_ret
    exact ⟨rfl, bchain (bchain hb1 hb2) hb3⟩
  obtain ⟨e1, e2⟩ := Conv.enc_ok (s := a0.data.toList) (by omega) hk0
  cases hk1 : Conv.ok a1.data.toList
  · obtain ⟨e3, e4⟩ := Conv.enc_bad (s := a1.data.toList) (by omega) hk1
    have E2 := Lib.hid e2
    have E4 := Lib.hid e4
    clear e1 e2 e3 e4 hk0 hk1
    go_enter Tryd.func9, Tryd.ntmps9
    go_wp2_with (go_at_call 11; refine (alive_any _).mono ?_; rintro e w1 ⟨rfl, hb1⟩)
    refine (encode_any a0 _ z0).mono ?_
    rintro e w2 ⟨rfl, hb2⟩
    rw [E2.out]
    go_wp2_with fail
    refine (encode_any a1 _ z1).mono ?_
    rintro e w3 ⟨rfl, hb3⟩
    rw [E4.out]
    go_wp2_with fail
    go_ret
    exact ⟨rfl, bchain (bchain hb1 hb2) hb3⟩
  obtain ⟨e3, e4⟩ := Conv.enc_ok (s := a1.data.toList) (by omega) hk1
  obtain ⟨X, hX⟩ : ∃ V : ByteArray, ⟨(Conv.encX a0.data.toList).toArray⟩ = V := ⟨_, rfl⟩
  obtain ⟨Y, hY⟩ : ∃ V : ByteArray, ⟨(Conv.encX a1.data.toList).toArray⟩ = V := ⟨_, rfl⟩
  obtain ⟨U, hU⟩ : ∃ V : ByteArray, ⟨(List.zipWith Conv.xr a0.data.toList a1.data.toList).toArray⟩ = V := ⟨_, rfl⟩
  have dX : X.data.toList = Conv.code a0.data.toList := by rw [← hX]; exact e1
  have dY : Y.data.toList = Conv.code a1.data.toList := by rw [← hY]; exact e3
  have dU : U.data.toList = List.zipWith Conv.xr a0.data.toList a1.data.toList := by rw [← hU]
  have zX : X.size = 2 * a0.size + 4 := by rw [← toList_length, dX, Conv.code_length, hl0]
  have zY : Y.size = 2 * a1.size + 4 := by rw [← toList_length, dY, Conv.code_length, hl1]
  have zU : U.size = a0.size := by rw [← toList_length, dU, List.length_zipWith, hl0, hl1]; omega
  obtain ⟨e5, e6⟩ := Conv.enc_ok (s := U.data.toList) (by rw [toList_length]; omega) (by rw [dU]; exact Conv.ok_xr _ _)
  have hD5 : 5 ≤ Conv.diff X.data.toList Y.data.toList := by rw [dX, dY]; exact Conv.free _ _ (by omega) hk0 hk1 hne
  have hDX : Conv.diff X.data.toList Y.data.toList ≤ X.size := by rw [← toList_length]; exact Conv.diff_le _ _
  have e7 : Conv.weight (Conv.encX U.data.toList) = Conv.diff X.data.toList Y.data.toList := by
    rw [e5, dU, dX, dY]
    exact Conv.weight_xor _ _ (by omega)
  have hasc : ∀ k (hk : k < X.size), X[k].toNat < 128 := fun k hk => by
    have hb := bit_of X (by rw [dX]; exact Conv.ok_code _) k hk
    rw [Conv.toNat_bit hb]
    cases Conv.tb X[k] <;> decide
  have ASC := Lib.hid hasc
  have HX := Lib.hid hX
  have HY := Lib.hid hY
  have HU := Lib.hid hU
  have E2 := Lib.hid e2
  have E4 := Lib.hid e4
  have E6 := Lib.hid e6
  have E7 := Lib.hid e7
  have K0 := Lib.hid hk0
  have K1 := Lib.hid hk1
  have zU1 : U.size ≤ 9223372036854775807 := by omega
  have hXY : X.size ≤ Y.size := by omega
  have hYX : Y.size ≤ X.size := by omega
  have hX2 : X.size ≤ 2004 := by omega
  have hY2 : Y.size ≤ 2004 := by omega
  clear hX hY hU dX dY dU e1 e2 e3 e4 e5 e6 e7 hk0 hk1 hasc hne zX zY zU
  go_enter Tryd.func9, Tryd.ntmps9
  go_wp2_with (go_at_call 11; refine (alive_any _).mono ?_; rintro e w1 ⟨rfl, hb1⟩)
  refine (encode_any a0 _ z0).mono ?_
  rintro e w2 ⟨rfl, hb2⟩
  rw [E2.out, HX.out]
  go_wp2_with fail
  refine (encode_any a1 _ z1).mono ?_
  rintro e w3 ⟨rfl, hb3⟩
  rw [E4.out, HY.out]
  have hc3 := bchain (bchain hb1 hb2) hb3
  clear hb1 hb2 hb3
  go_wp2_with fail
  go_loopg [9] X.size (fun g nv wr => ∃ k : Nat, g = X.size - k ∧ k ≤ X.size ∧ nv = .int .i64 (Conv.diff (X.data.toList.take k) (Y.data.toList.take k)) ∧ wr.heap[w3.heap.size]? = some (.stringIter X k) ∧ Below w3.heap.size w3 wr)
  case atStart => exact ⟨0, rfl, Nat.zero_le _, rfl, World.alloc_heap_new w3 _, (Below.refl _ w3).alloc (Nat.le_refl _) _⟩
  case round =>
    obtain ⟨k, hg, hk, rfl, hit, hb⟩ := hrel
    have HG := Lib.hid hg
    clear hg
    by_cases hlt : k < X.size
    · have hltY : k < Y.size := by omega
      have hnx : ∀ ty, (Instr.next (.pointer (some ⟨w3.heap.size, 0, none⟩)) true ty).run Tryd.prog wr = .ok (.tuple #[.bool true, .int .i64 k, .int .i32 X[k].toNat]) (wr.iterAt w3.heap.size X (k + 1)) := fun ty =>
        Lib.run_next_ascii_at wr w3.heap.size X k ty hit hlt (ASC.out k hlt)
      have hit1 := Lib.iterAt_heap wr w3.heap.size X k (k + 1) hit
      have hb1 := Lib.below_iterAt hb (Nat.le_refl w3.heap.size) X (k + 1)
      have HS := Lib.hid (diff_succ X Y k hlt hltY)
      have hle := Conv.diff_le (X.data.toList.take k) (Y.data.toList.take k)
      have hle2 : (X.data.toList.take k).length ≤ 2004 := by rw [List.length_take, toList_length]; omega
      generalize wr.iterAt w3.heap.size X (k + 1) = W1 at *
      generalize Conv.diff (X.data.toList.take k) (Y.data.toList.take k) = D at *
      cases hc : ((X[k].toNat : Int) != (Y[k].toNat : Int))
      · have HC := Lib.hid hc
        go_wp2_with fail
        go_quiet (fail)
        go_wp2_with fail
        go_roundg (X.size - (k + 1))
        case measure => have := HG.out; omega
        case rel => exact ⟨k + 1, rfl, by omega, by rw [HS.out, HC.out]; go_num, hit1, ⟨hb1.os, hb1.tape, hb1.output, hb1.size, hb1.block⟩⟩
      · have HC := Lib.hid hc
        go_wp2_with fail
        go_quiet (fail)
        go_wp2_with fail
        go_roundg (X.size - (k + 1))
        case measure => have := HG.out; omega
        case rel => exact ⟨k + 1, rfl, by omega, by rw [HS.out, HC.out]; go_num, hit1, ⟨hb1.os, hb1.tape, hb1.output, hb1.size, hb1.block⟩⟩
    · obtain rfl : k = X.size := by omega
      have hend : ∀ ty, (Instr.next (.pointer (some ⟨w3.heap.size, 0, none⟩)) true ty).run Tryd.prog wr = .ok (.tuple #[.bool false]) wr := fun ty =>
        Lib.run_next_end_at wr w3.heap.size X X.size ty hit (by omega)
      have e1 : X.data.toList.take X.size = X.data.toList := List.take_of_length_le (by rw [toList_length]; omega)
      have e2 : Y.data.toList.take X.size = Y.data.toList := List.take_of_length_le (by rw [toList_length]; omega)
      rw [e1, e2]
      clear e1 e2
      generalize hD : Conv.diff X.data.toList Y.data.toList = D at *
      go_wp2_with fail
      refine (xor_any a0 a1 _ (by omega) h2 K0.out K1.out).mono ?_
      rintro e w4 ⟨rfl, hb4⟩
      rw [HU.out]
      go_wp2_with fail
      refine (weight_any U _ zU1).mono ?_
      rintro e w5 ⟨rfl, hb5⟩
      rw [E6.out, E7.out]
      go_wp2_with fail
      go_ret
      exact ⟨rfl, bchain hc3 ((hb.trans (hb4.mono hb.size)).trans (hb5.mono (Nat.le_trans hb.size hb4.size)))⟩
end Go.Proofs.YtokjmcndjhdhfaaDoor
