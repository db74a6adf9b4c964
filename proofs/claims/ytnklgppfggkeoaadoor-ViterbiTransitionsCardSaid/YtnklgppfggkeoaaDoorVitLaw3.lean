/-
  The law ViterbiMonotonicity, walked.
-/
import Derived.Test.YtnklgppfggkeoaaDoorVitLaw1
import Derived.Test.YtnklgppfggkeoaaDoorCellsB
namespace Go.Proofs.YtnklgppfggkeoaaDoor
open Go.RowKit

theorem join_set (s I : ByteArray) (i : Nat) (x : UInt8) (hi : i < s.size) (hI : I.data.toList = [x]) : (s.extract 0 i ++ I ++ s.extract (i + 1) s.size).data.toList = s.data.toList.set i x := by
  rw [app_data, app_data, Lib.extract_data, Lib.extract_data, List.drop_zero, Nat.sub_zero, List.set_eq_take_append_cons_drop, if_pos (by rw [toList_length]; exact hi), List.append_assoc, hI]
  congr 1
  rw [List.take_of_length_le (by rw [List.length_drop, toList_length]; omega)]
  rfl
theorem cell_at (s : ByteArray) (i : Nat) (hi : i < s.size) : (s.extract i (i + 1)).data.toList = [s[i]] := by
  rw [Lib.extract_data, show i + 1 - i = 1 by omega, List.drop_eq_getElem_cons (by rw [toList_length]; exact hi)]
  rfl

theorem mono_early (a0 : ByteArray) (a1 : Nat) (h : 300 < (a0.size : Int) ∨ (a0.size : Int) < 4 ∨ ((a0.size : Int) % 2 != 0) = true) (w : World) :
    Calls Tryd.prog 4 #[.string a0, .int .u16 a1] w fun e w' => e = .returned (.bool true) ∧ Below w.heap.size w w' := by
  have hx : (300 < (a0.size : Int)) ∨ ((a0.size : Int) ≤ 300 ∧ (a0.size : Int) < 4) ∨ ((a0.size : Int) ≤ 300 ∧ 4 ≤ (a0.size : Int) ∧ ((a0.size : Int) % 2 != 0) = true) := by
    by_cases h1 : 300 < (a0.size : Int)
    · exact .inl h1
    · by_cases h2 : (a0.size : Int) < 4
      · exact .inr (.inl ⟨by omega, h2⟩)
      · refine .inr (.inr ⟨by omega, by omega, ?_⟩)
        rcases h with h | h | h
        · exact absurd h h1
        · exact absurd h h2
        · exact h
  clear h
  rcases hx with h1 | ⟨h1, h2⟩ | ⟨h1, h2, h3⟩
  all_goals
    go_enter Tryd.func4, Tryd.ntmps4
    go_wp2_with fail
    refine (awake_any _).mono ?_
    rintro e w1 ⟨rfl, hb1⟩
    go_wp2_with fail
    go_ret
    exact ⟨rfl, hb1⟩

set_option maxHeartbeats 4000000 in
theorem mono_main (a0 : ByteArray) (a1 : Nat) (hk : a1 < 65536) (h1 : (a0.size : Int) ≤ 300) (h4 : 4 ≤ (a0.size : Int)) (hev : ((a0.size : Int) % 2 != 0) = false) (w : World) :
    Calls Tryd.prog 4 #[.string a0, .int .u16 a1] w fun e w' => e = .returned (.bool true) ∧ Below w.heap.size w w' := by
  have hl := toList_length a0
  have hck := fun w => check_any a0 w (by omega)
  cases hok : Cells.ok a0.data.toList
  · have e1 : Cells.err a0.data.toList = 3 := by unfold Cells.err; rw [hok]; rfl
    rw [e1] at hck
    have HCK := Lib.hid hck
    clear hck e1 hok
    go_enter Tryd.func4, Tryd.ntmps4
    go_wp2_with fail
    refine (HCK.out _).mono ?_
    rintro e w1 ⟨rfl, hb1⟩
    go_wp2_with fail
    refine (awake_any _).mono ?_
    rintro e w2 ⟨rfl, hb2⟩
    go_wp2_with fail
    go_ret
    exact ⟨rfl, bchain hb1 hb2⟩
  · have e1 : Cells.err a0.data.toList = 0 := by unfold Cells.err; rw [hok]; rfl
    rw [e1] at hck
    have h2 : a0.size % 2 = 0 := by
      rw [bne_eq_false_iff_eq] at hev
      omega
    obtain ⟨i, hi⟩ : ∃ i : Nat, a1 % a0.size = i := ⟨_, rfl⟩
    have hiX : i < a0.size := by rw [← hi]; exact Nat.mod_lt _ (by omega)
    have hiI : (a1 : Int) % (a0.size : Int) = (i : Int) := by rw [← hi]; exact (Int.natCast_emod _ _).symm
    obtain ⟨I, hI⟩ : ∃ V : ByteArray, ⟨(Cells.invert (a0.extract i (i + 1)).data.toList).toArray⟩ = V := ⟨_, rfl⟩
    have dI : I.data.toList = [Cells.inv a0[i]] := by rw [← hI, cell_at a0 i hiX]; rfl
    have zI : I.size = 1 := by rw [← toList_length, dI]; rfl
    obtain ⟨D, hD⟩ : ∃ V : ByteArray, a0.extract 0 i ++ (⟨#[63]⟩ : ByteArray) ++ a0.extract (i + 1) a0.size = V := ⟨_, rfl⟩
    obtain ⟨F, hF⟩ : ∃ V : ByteArray, a0.extract 0 i ++ I ++ a0.extract (i + 1) a0.size = V := ⟨_, rfl⟩
    have dD : D.data.toList = a0.data.toList.set i 63 := by rw [← hD]; exact join_set a0 _ i 63 hiX rfl
    have dF : F.data.toList = a0.data.toList.set i (Cells.inv a0[i]) := by rw [← hF]; exact join_set a0 _ i _ hiX dI
    have zD : D.size = a0.size := by rw [← toList_length, dD, List.length_set, hl]
    have zF : F.size = a0.size := by rw [← toList_length, dF, List.length_set, hl]
    have hcell : Cells.isCell a0[i] = true := by
      have h := hok
      unfold Cells.ok at h
      rw [List.all_eq_true] at h
      exact h _ (List.mem_of_getElem? (get_of_lt a0 i hiX))
    have v0 : vErr a0.data.toList = 0 := Vit.err_ok hok (by omega)
    have v1 : vErr D.data.toList = 0 := Vit.err_ok (by rw [dD]; exact Conv.cells_set _ _ _ hok rfl) (by rw [toList_length]; omega)
    have v2 : vErr F.data.toList = 0 := Vit.err_ok (by rw [dF]; exact Conv.cells_set _ _ _ hok (by rw [Cells.isCell_inv]; exact hcell)) (by rw [toList_length]; omega)
    obtain ⟨x1, x2, x3⟩ := Vit.dec_ok v0
    obtain ⟨y1, y2, y3⟩ := Vit.dec_ok v1
    obtain ⟨t1, t2, t3⟩ := Vit.dec_ok v2
    have L0 : a0.data.toList.length = 2 * (a0.size / 2) := by omega
    have L1 : D.data.toList.length = 2 * (a0.size / 2) := by rw [toList_length]; omega
    have L2 : F.data.toList.length = 2 * (a0.size / 2) := by rw [toList_length]; omega
    have r1 : Vit.decN D.data.toList ≤ Vit.decN a0.data.toList := by
      rw [x2, y2]
      have := Vit.mono a0.data.toList D.data.toList (a0.size / 2) L0 L1 (by omega) 0 (fun a => by rw [dD]; exact Vit.dist_open a _ i)
      omega
    have r2 : Vit.decN a0.data.toList ≤ Vit.decN D.data.toList + 1 := by
      rw [x2, y2]
      exact Vit.mono D.data.toList a0.data.toList (a0.size / 2) L1 L0 (by omega) 1 (fun a => by rw [dD]; exact (Vit.dist_set a _ i 63).2)
    have r3 : Vit.decN F.data.toList ≤ Vit.decN a0.data.toList + 1 := by
      rw [x2, t2]
      exact Vit.mono a0.data.toList F.data.toList (a0.size / 2) L0 L2 (by omega) 1 (fun a => by rw [dF]; exact (Vit.dist_set a _ i _).1)
    have r4 : Vit.decN a0.data.toList ≤ Vit.decN F.data.toList + 1 := by
      rw [x2, t2]
      exact Vit.mono F.data.toList a0.data.toList (a0.size / 2) L2 L0 (by omega) 1 (fun a => by rw [dF]; exact (Vit.dist_set a _ i _).2)
    have r5 : 0 ≤ Vit.decN a0.data.toList ∧ Vit.decN a0.data.toList ≤ 300 := by
      rw [x2]
      obtain ⟨m1, m2, -⟩ := Vit.main a0.data.toList (a0.size / 2) L0 (by omega)
      omega
    have hd0 := fun w => decode_any a0 w (by omega)
    have hd1 := fun w => decode_any D w (by omega)
    have hd2 := fun w => decode_any F w (by omega)
    rw [v0] at hd0
    rw [v1] at hd1
    rw [v2] at hd2
    have hinv := fun w => invert_any (a0.extract i (i + 1)) w (by rw [← toList_length, cell_at a0 i hiX]; show 1 ≤ 65536; omega)
    rw [hI] at hinv
    have hEz : (a0.extract i (i + 1)).size = 1 := by rw [← toList_length, cell_at a0 i hiX]; rfl
    generalize Vit.decN a0.data.toList = N0 at *
    generalize Vit.decN D.data.toList = N1 at *
    generalize Vit.decN F.data.toList = N2 at *
    have HCK := Lib.hid hck
    have H0 := Lib.hid hd0
    have H1 := Lib.hid hd1
    have H2 := Lib.hid hd2
    have HV := Lib.hid hinv
    have ZD := Lib.hid zD
    have ZF := Lib.hid zF
    have q1 : IntKind.i64.wrap ((i : Int) + 1) = (i : Int) + 1 := IntWalk.i64_in _ (by omega)
    have q2 : (0 : Int) ≤ (i : Int) + 1 := by omega
    have q3 : ((i : Int) + 1).toNat = i + 1 := by omega
    have q4 : (i : Int) + 1 ≤ (a0.size : Int) := by omega
    have q5 : (i : Int) ≤ (a0.size : Int) := by omega
    have q6 : (0 : Int) ≤ (i : Int) := by omega
    have q7 : (i : Int) ≤ (i : Int) + 1 := by omega
    clear hck hd0 hd1 hd2 hinv hI dI dD dF zD zF hcell v0 v1 v2 x1 x2 x3 y1 y2 y3 t1 t2 t3 L0 L1 L2 hok e1 hi h2
    go_enter Tryd.func4, Tryd.ntmps4
    go_wp2_with fail
    refine (HCK.out _).mono ?_
    rintro e w1 ⟨rfl, hb1⟩
    go_wp2_with fail
    refine (H0.out _).mono ?_
    rintro e w2 ⟨rfl, hb2⟩
    have hc2 := bchain hb1 hb2
    clear hb1 hb2
    go_wp2_with fail
    try rw [hiI]
    go_region_with (go_at_call 12; refine (H1.out _).mono ?_; rintro e w3 ⟨rfl, hb3⟩; have hc3 := bchain (bdrew hc2 1) hb3)
    go_wp2_with fail
    go_region_with (first | (go_at_call 15; refine (HV.out _).mono ?_; rintro e w4 ⟨rfl, hb4⟩; have hc4 := bchain (bdrew hc3 1) hb4) | (go_at_call 12; refine (H2.out _).mono ?_; rintro e w5 ⟨rfl, hb5⟩; have hc5 := bchain hc4 hb5))
    go_wp2_with fail
    refine (awake_any _).mono ?_
    rintro e w6 ⟨rfl, hb6⟩
    go_wp2_with fail
    go_ret
    exact ⟨rfl, bchain hc5 hb6⟩

theorem law_mono (a0 : ByteArray) (a1 : Int) (_w0 : a0.size ≤ 140737488351232) (w1 : (Lit.int .u16 a1).wf = true) (w : World) :
    Calls Tryd.prog 4 #[.string a0, .int .u16 a1] w fun e w' => e = .returned (.bool true) ∧ Below w.heap.size w w' := by
  obtain ⟨k, rfl, hk⟩ := u16_nat w1
  by_cases h1 : 300 < (a0.size : Int)
  · exact mono_early a0 k (.inl h1) w
  by_cases h2 : (a0.size : Int) < 4
  · exact mono_early a0 k (.inr (.inl h2)) w
  cases h3 : ((a0.size : Int) % 2 != 0)
  · exact mono_main a0 k hk (by omega) (by omega) h3 w
  · exact mono_early a0 k (.inr (.inr h3)) w
end Go.Proofs.YtnklgppfggkeoaaDoor
