/-
  The walk of Bits; the law ViterbiCorrection.
-/
import Derived.Test.YtnklgppfggkeoaaDoorVitLaw3
import Derived.Test.YtnklgppfggkeoaaDoorArgs
namespace Go.Proofs.YtnklgppfggkeoaaDoor
open Go.RowKit

/-- The bit of a byte, as a character. -/
def bc (z : Int) : UInt8 := Conv.ch (z % 2 == 1)
theorem bc_ok (zs : List Int) : Conv.ok (zs.map bc) = true := by
  unfold Conv.ok
  rw [List.all_eq_true]
  intro c hc
  obtain ⟨z, _, rfl⟩ := List.mem_map.1 hc
  unfold bc
  cases (z % 2 == 1) <;> rfl
theorem bc_int (z : Int) : 48 + z % 2 = ((bc z).toNat : Nat) := by
  unfold bc
  have h : z % 2 = 0 ∨ z % 2 = 1 := by omega
  rcases h with h | h <;> rw [h] <;> rfl
theorem conv1v (w : World) (x : UInt8) (a : Int) (ha : a = x.toNat) :
    (convert 40 9 (.slice (some ⟨w.heap.size, 0, none⟩) 1 1)).run Tryd.prog (w.alloc (.cells #[.int .u8 a] 5)) = .ok (.string ⟨#[x]⟩) (w.alloc (.cells #[.int .u8 a] 5)) := by
  subst ha
  exact conv_row (P := Tryd.prog) 40 5 9 Tryd.underlying40 Tryd.underlying5 Tryd.underlying9 (Row.lit2 (w := w) [x] _ rfl) 1 1 rfl

set_option maxHeartbeats 1000000 in
theorem Bits_any (v : Value) (zs : List Int) (w : World) (x1 : IntsArg w .u8 v zs) (hz : zs.length ≤ 1000) :
    Calls Tryd.prog 20 #[v] w fun e w' => e = .returned (.string ⟨(zs.map bc).toArray⟩) ∧ Below w.heap.size w w' := by
  obtain ⟨ao, cap, rfl, hlc, hcm, hcell0, hwf⟩ := x1
  unfold maxLen at hcm
  go_enter Tryd.func20, Tryd.ntmps20
  go_wp2_with fail
  go_loopw [3, 8] (fun out i wr => ∃ (k : Nat) (F : ByteArray), k ≤ zs.length ∧ i = .int .i64 k ∧ out = .string F ∧ Hid (F.data.toList = (zs.take k).map bc) ∧ Below w.heap.size w wr) (fun _ i _ => zs.length - (intOf i).toNat)
  case atStart => exact ⟨0, ⟨#[]⟩, Nat.zero_le _, rfl, rfl, rfl, Below.refl _ _⟩
  case round =>
    obtain ⟨k, F, hk, rfl, rfl, hF, hb⟩ := hrel
    by_cases hlt : k < zs.length
    · obtain ⟨a, rfl, hcl⟩ := hcell0 k zs[k] (List.getElem?_eq_getElem hlt)
      have hcl2 : wr.cell? (a.add k) = some (.int .u8 zs[k]) := (hb.cell (World.block_lt_of_cell? _ _ hcl)).trans hcl
      have hwf1 := hwf zs[k] (List.getElem_mem _)
      obtain ⟨m, hm, hm8⟩ := u8_nat hwf1
      have hts : (zs.take (k + 1)).map bc = (zs.take k).map bc ++ [bc m] := by
        rw [List.take_succ_eq_append_getElem hlt, List.map_append, hm]
        rfl
      have HTS := Lib.hid hts
      rw [hm] at hcl2
      have zF : F.size ≤ 1000 := by
        rw [← toList_length, hF.out, List.length_map, List.length_take]
        omega
      have hbi := bc_int (m : Int)
      have hb2 : 0 ≤ (m : Int) % 2 ∧ (m : Int) % 2 ≤ 1 := by omega
      have hcv := conv1v wr (bc m) (48 + (m : Int) % 2) hbi
      have zF2 : (F ++ (⟨#[bc m]⟩ : ByteArray)).size = F.size + 1 := ByteArray.size_append
      have HF : Hid ((F ++ (⟨#[bc m]⟩ : ByteArray)).data.toList = (zs.take (k + 1)).map bc) := by
        refine Lib.hid ?_
        rw [app_data, hF.out, HTS.out]
      have hb3 := hb.alloc hb.size (.cells #[.int .u8 (48 + (m : Int) % 2)] 5)
      clear hts hbi hwf1 hm hcl hcell0 hwf
      go_wp2_with fail
      go_roundw
      case rel => exact ⟨k + 1, _, by omega, by go_num, rfl, HF, hb3⟩
      case measure => simp [intOf]; omega
    · obtain rfl : k = zs.length := by omega
      have hFF : F = ⟨(zs.map bc).toArray⟩ := by
        refine of_toList ?_
        rw [hF.out, List.take_length]
      clear hcell0
      go_wp2_with fail
      go_ret
      exact ⟨by rw [hFF]; rfl, hb⟩

/-- The facts of a code word with one or two cells inverted. -/
theorem corr_one (S X : ByteArray) (hS : Conv.ok S.data.toList = true) (hX : X.data.toList = Conv.code S.data.toList) (i : Nat) (hi : i < X.size) (c : List UInt8) (hc : c = X.data.toList.set i (Cells.inv X[i])) :
    vErr c = 0 ∧ Vit.decX c = S.data.toList ∧ Vit.decN c = 1 ∧ Vit.decO c = true := by
  have hi2 : i < (Conv.code S.data.toList).length := by rw [← hX, toList_length]; exact hi
  have hget : X[i] = (Conv.code S.data.toList)[i] := by
    have h1 := get_of_lt X i hi
    rw [hX, List.getElem?_eq_getElem hi2] at h1
    exact (Option.some.inj h1).symm
  have hcw := Conv.code_length S.data.toList
  have hcell : Cells.isCell X[i] = true := by
    have h := Conv.cells_of_ok _ (Conv.ok_code S.data.toList)
    unfold Cells.ok at h
    rw [List.all_eq_true] at h
    rw [hget]
    exact h _ (List.getElem_mem _)
  have v : vErr c = 0 := Vit.err_ok (by rw [hc, hX]; exact Conv.cells_set _ _ _ (Conv.cells_of_ok _ (Conv.ok_code _)) (by rw [Cells.isCell_inv]; exact hcell)) (by rw [hc, List.length_set, hX]; omega)
  obtain ⟨d1, d2, d3⟩ := Vit.dec_ok v
  obtain ⟨k1, k2, k3⟩ := Vit.inverted S.data.toList hS i hi2
  have e : c = (Conv.code S.data.toList).set i (Cells.inv (Conv.code S.data.toList)[i]) := by rw [hc, hget, hX]
  rw [d1, d2, d3, e, k1, k2, k3]
  exact ⟨by rw [← e]; exact v, rfl, rfl, rfl⟩
theorem corr_two (S X : ByteArray) (hS : Conv.ok S.data.toList = true) (hX : X.data.toList = Conv.code S.data.toList) (i k : Nat) (hi : i < X.size) (hk : k < X.size) (hne : i ≠ k) (c : List UInt8) (hc : c = (X.data.toList.set i (Cells.inv X[i])).set k (Cells.inv X[k])) :
    vErr c = 0 ∧ Vit.decX c = S.data.toList ∧ Vit.decN c = 2 ∧ Vit.decO c = true := by
  have hi2 : i < (Conv.code S.data.toList).length := by rw [← hX, toList_length]; exact hi
  have hk2 : k < (Conv.code S.data.toList).length := by rw [← hX, toList_length]; exact hk
  have hget : ∀ j (hj : j < X.size) (hj2 : j < (Conv.code S.data.toList).length), X[j] = (Conv.code S.data.toList)[j] := fun j hj hj2 => by
    have h1 := get_of_lt X j hj
    rw [hX, List.getElem?_eq_getElem hj2] at h1
    exact (Option.some.inj h1).symm
  have hcw := Conv.code_length S.data.toList
  have hcell : ∀ j (hj : j < X.size), Cells.isCell X[j] = true := fun j hj => by
    have h := Conv.cells_of_ok _ (Conv.ok_code S.data.toList)
    unfold Cells.ok at h
    rw [List.all_eq_true] at h
    rw [hget j hj (by rw [← hX, toList_length]; exact hj)]
    exact h _ (List.getElem_mem _)
  have v : vErr c = 0 := Vit.err_ok (by rw [hc, hX]; exact Conv.cells_set _ _ _ (Conv.cells_set _ _ _ (Conv.cells_of_ok _ (Conv.ok_code _)) (by rw [Cells.isCell_inv]; exact hcell i hi)) (by rw [Cells.isCell_inv]; exact hcell k hk)) (by rw [hc, List.length_set, List.length_set, hX]; omega)
  obtain ⟨d1, d2, d3⟩ := Vit.dec_ok v
  obtain ⟨k1, k2, k3⟩ := Vit.inverted2 S.data.toList hS i k hi2 hk2 hne
  have e : c = ((Conv.code S.data.toList).set i (Cells.inv (Conv.code S.data.toList)[i])).set k (Cells.inv (Conv.code S.data.toList)[k]) := by rw [hc, hget i hi hi2, hget k hk hk2, hX]
  rw [d1, d2, d3, e, k1, k2, k3]
  exact ⟨by rw [← e]; exact v, rfl, rfl, rfl⟩

set_option maxHeartbeats 8000000 in
theorem law_correction (a1 a2 : Int) (w1 : (Lit.int .u16 a1).wf = true) (w2 : (Lit.int .u16 a2).wf = true) (v0 : Value) (zs : List Int) (w : World) (x0 : IntsArg w .u8 v0 zs) :
    Calls Tryd.prog 8 #[v0, .int .u16 a1, .int .u16 a2] w fun e w' => e = .returned (.bool true) ∧ Below w.heap.size w w' := by
  obtain ⟨m1, rfl, hm1⟩ := u16_nat w1
  obtain ⟨m2, rfl, hm2⟩ := u16_nat w2
  clear w1 w2
  by_cases h1 : 100 < (zs.length : Int)
  · obtain ⟨ao, cap, rfl, hlc, hcm, hcell0, hwf⟩ := x0
    unfold maxLen at hcm
    clear hcell0 hwf
    go_enter Tryd.func8, Tryd.ntmps8
    go_wp2_with fail
    refine (awake_any _).mono ?_
    rintro e w1 ⟨rfl, hb1⟩
    go_wp2_with fail
    go_ret
    exact ⟨rfl, hb1⟩
  · have hbits := Bits_any v0 zs w x0 (by omega)
    obtain ⟨ao, cap, rfl, hlc, hcm, hcell0, hwf⟩ := x0
    unfold maxLen at hcm
    clear hcell0 hwf
    obtain ⟨S, hS⟩ : ∃ V : ByteArray, ⟨(zs.map bc).toArray⟩ = V := ⟨_, rfl⟩
    have dS : S.data.toList = zs.map bc := by rw [← hS]
    have okS : Conv.ok S.data.toList = true := by rw [dS]; exact bc_ok zs
    have zS : S.size = zs.length := by rw [← toList_length, dS, List.length_map]
    rw [hS] at hbits
    have henc := fun w => encode_any S w (by omega)
    obtain ⟨e1, e2⟩ := Conv.enc_ok (s := S.data.toList) (by rw [toList_length]; omega) okS
    obtain ⟨X, hX⟩ : ∃ V : ByteArray, ⟨(Conv.encX S.data.toList).toArray⟩ = V := ⟨_, rfl⟩
    have dX : X.data.toList = Conv.code S.data.toList := by rw [← hX]; exact e1
    have zX : X.size = 2 * S.size + 4 := by rw [← toList_length, dX, Conv.code_length, toList_length]
    rw [hX, e2] at henc
    have hXe : (X.toList == ([] : List UInt8)) = false := by
      rw [Lib.toList_data, beq_eq_false_iff_ne]
      intro h
      have := congrArg List.length h
      rw [toList_length, List.length_nil] at this
      omega
    have hXi : X.toList.isEmpty = false := by
      rw [Lib.toList_data]
      cases hd : X.data.toList with
      | nil =>
        have := congrArg List.length hd
        rw [toList_length, List.length_nil] at this
        omega
      | cons _ _ => rfl
    obtain ⟨i, hi⟩ : ∃ i : Nat, m1 % X.size = i := ⟨_, rfl⟩
    obtain ⟨k, hk⟩ : ∃ k : Nat, m2 % X.size = k := ⟨_, rfl⟩
    have hiX : i < X.size := by rw [← hi]; exact Nat.mod_lt _ (by omega)
    have hkX : k < X.size := by rw [← hk]; exact Nat.mod_lt _ (by omega)
    have hiI : (m1 : Int) % (X.size : Int) = (i : Int) := by rw [← hi]; exact (Int.natCast_emod _ _).symm
    have hkI : (m2 : Int) % (X.size : Int) = (k : Int) := by rw [← hk]; exact (Int.natCast_emod _ _).symm
    obtain ⟨I, hI⟩ : ∃ V : ByteArray, ⟨(Cells.invert (X.extract i (i + 1)).data.toList).toArray⟩ = V := ⟨_, rfl⟩
    have dI : I.data.toList = [Cells.inv X[i]] := by rw [← hI, cell_at X i hiX]; rfl
    have zI : I.size = 1 := by rw [← toList_length, dI]; rfl
    obtain ⟨F, hF⟩ : ∃ V : ByteArray, X.extract 0 i ++ I ++ X.extract (i + 1) X.size = V := ⟨_, rfl⟩
    have dF : F.data.toList = X.data.toList.set i (Cells.inv X[i]) := by rw [← hF]; exact join_set X _ i _ hiX dI
    have zF : F.size = X.size := by rw [← toList_length, dF, List.length_set, toList_length]
    have hinv := fun w => invert_any (X.extract i (i + 1)) w (by rw [← toList_length, cell_at X i hiX]; show 1 ≤ 65536; omega)
    rw [hI] at hinv
    have hEz : (X.extract i (i + 1)).size = 1 := by rw [← toList_length, cell_at X i hiX]; rfl
    have hSS : (S.toList == S.toList) = true := by simp
    have q1 : IntKind.i64.wrap ((i : Int) + 1) = (i : Int) + 1 := IntWalk.i64_in _ (by omega)
    have q2 : (0 : Int) ≤ (i : Int) + 1 := by omega
    have q3 : ((i : Int) + 1).toNat = i + 1 := by omega
    have q4 : (i : Int) + 1 ≤ (X.size : Int) := by omega
    have q5 : (i : Int) ≤ (X.size : Int) := by omega
    have q6 : (0 : Int) ≤ (i : Int) := by omega
    have q7 : (i : Int) ≤ (i : Int) + 1 := by omega
    have HB := Lib.hid hbits
    have HE := Lib.hid henc
    have HV := Lib.hid hinv
    have hXb : X.size ≤ 1000 := by omega
    have hX4 : 4 ≤ X.size := by omega
    by_cases hik : i = k
    · subst hik
      obtain ⟨d0, d1, d2, d3⟩ := corr_one S X okS dX i hiX F.data.toList dF
      have hdec := fun w => decode_any F w (by omega)
      rw [d0, d1, d2, d3] at hdec
      have eS : (⟨S.data.toList.toArray⟩ : ByteArray) = S := mk_toList S
      rw [eS] at hdec
      have HD := Lib.hid hdec
      clear hdec d0 d1 d2 d3 eS dF dI hI hinv henc hbits hX dX e1 e2 okS dS hS zS zX zF hi hk
      go_enter Tryd.func8, Tryd.ntmps8
      go_wp2_with fail
      refine HB.out.mono ?_
      rintro e w1 ⟨rfl, hb1⟩
      go_wp2_with fail
      refine (HE.out _).mono ?_
      rintro e w2 ⟨rfl, hb2⟩
      have hc2 := bchain hb1 hb2
      clear hb1 hb2
      go_wp2_with fail
      go_quiet (fail)
      have hc3 := bdrew hc2 nq
      go_wp2_with fail
      go_region_with (go_at_call 15; refine (HV.out _).mono ?_; rintro e w4 ⟨rfl, hb4⟩; have hc4 := bchain (bdrew hc3 1) hb4)
      go_wp2_with fail
      refine (HD.out _).mono ?_
      rintro e w5 ⟨rfl, hb5⟩
      go_wp2_with fail
      refine (awake_any _).mono ?_
      rintro e w6 ⟨rfl, hb6⟩
      go_wp2_with fail
      go_ret
      exact ⟨rfl, bchain (bchain hc4 hb5) hb6⟩
    · have hneI : ((i : Int) != (k : Int)) = true := by rw [bne_iff_ne]; omega
      have hkF : k < F.size := by omega
      have hFk : F[k] = X[k] := by
        have h1 := get_of_lt F k hkF
        rw [dF, List.getElem?_set, if_neg hik, get_of_lt X k hkX] at h1
        exact (Option.some.inj h1).symm
      obtain ⟨J, hJ⟩ : ∃ V : ByteArray, ⟨(Cells.invert (F.extract k (k + 1)).data.toList).toArray⟩ = V := ⟨_, rfl⟩
      have dJ : J.data.toList = [Cells.inv F[k]] := by rw [← hJ, cell_at F k hkF]; rfl
      have zJ : J.size = 1 := by rw [← toList_length, dJ]; rfl
      obtain ⟨G, hG⟩ : ∃ V : ByteArray, F.extract 0 k ++ J ++ F.extract (k + 1) F.size = V := ⟨_, rfl⟩
      have dG : G.data.toList = (X.data.toList.set i (Cells.inv X[i])).set k (Cells.inv X[k]) := by rw [← hG, join_set F _ k _ hkF dJ, dF, hFk]
      have zG : G.size = F.size := by rw [← toList_length, dG, List.length_set, List.length_set, toList_length, zF]
      have hinv2 := fun w => invert_any (F.extract k (k + 1)) w (by rw [← toList_length, cell_at F k hkF]; show 1 ≤ 65536; omega)
      rw [hJ] at hinv2
      have hEz2 : (F.extract k (k + 1)).size = 1 := by rw [← toList_length, cell_at F k hkF]; rfl
      obtain ⟨d0, d1, d2, d3⟩ := corr_two S X okS dX i k hiX hkX hik G.data.toList dG
      have hdec := fun w => decode_any G w (by omega)
      rw [d0, d1, d2, d3] at hdec
      have eS : (⟨S.data.toList.toArray⟩ : ByteArray) = S := mk_toList S
      rw [eS] at hdec
      have HD := Lib.hid hdec
      have HV2 := Lib.hid hinv2
      have hFb : F.size ≤ 1000 := by omega
      have r1 : IntKind.i64.wrap ((k : Int) + 1) = (k : Int) + 1 := IntWalk.i64_in _ (by omega)
      have r2 : (0 : Int) ≤ (k : Int) + 1 := by omega
      have r3 : ((k : Int) + 1).toNat = k + 1 := by omega
      have r4 : (k : Int) + 1 ≤ (F.size : Int) := by omega
      have r5 : (k : Int) ≤ (F.size : Int) := by omega
      have r6 : (0 : Int) ≤ (k : Int) := by omega
      have r7 : (k : Int) ≤ (k : Int) + 1 := by omega
      clear hdec d0 d1 d2 d3 eS dF dI hI hinv henc hbits hX dX e1 e2 okS dS hS zS zX zF hi hk dJ hJ hinv2 dG zG hFk hik
      go_enter Tryd.func8, Tryd.ntmps8
      go_wp2_with fail
      refine HB.out.mono ?_
      rintro e w1 ⟨rfl, hb1⟩
      go_wp2_with fail
      refine (HE.out _).mono ?_
      rintro e w2 ⟨rfl, hb2⟩
      have hc2 := bchain hb1 hb2
      clear hb1 hb2
      go_wp2_with fail
      go_quiet (fail)
      have hc3 := bdrew hc2 nq
      go_wp2_with fail
      go_region_with (go_at_call 15; refine (HV.out _).mono ?_; rintro e w4 ⟨rfl, hb4⟩; have hc4 := bchain (bdrew hc3 1) hb4)
      go_wp2_with fail
      go_region_with (go_at_call 15; refine (HV2.out _).mono ?_; rintro e w7 ⟨rfl, hb7⟩; have hc7 := bchain (bdrew hc4 1) hb7)
      go_wp2_with fail
      refine (HD.out _).mono ?_
      rintro e w5 ⟨rfl, hb5⟩
      go_wp2_with fail
      refine (awake_any _).mono ?_
      rintro e w6 ⟨rfl, hb6⟩
      go_wp2_with fail
      go_ret
      exact ⟨rfl, bchain (bchain hc7 hb5) hb6⟩
end Go.Proofs.YtnklgppfggkeoaaDoor
