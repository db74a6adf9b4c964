/-
  The walks of the reference's Under and Compare.
-/
import Derived.Test.YtgdmclhkoaadmaaDoorPathRef2
namespace Go.Proofs.YtgdmclhkoaadmaaDoor
open Go.RowKit

set_option maxHeartbeats 2000000 in
theorem runder_any (a d : ByteArray) (w : World) (ha : a.size ≤ 65536) (hd : d.size ≤ 65536) :
    Calls Tryd.prog 23 #[.string a, .string d] w fun e w' => e = .returned (.bool (Path.under a.data.toList d.data.toList)) ∧ Below w.heap.size w w' := by
  have cka := fun w => rcheck31_any a w ha
  have ckd := fun w => rcheck31_any d w hd
  have hea := fun w => relements_any a w ha
  have hed := fun w => relements_any d w hd
  have hza := els_size a
  have hzd := els_size d
  have hU : Path.under a.data.toList d.data.toList = (decide (Path.err a.data.toList = 0) && decide (Path.err d.data.toList = 0) && (decide ((Path.els d.data.toList).length ≤ (Path.els a.data.toList).length) && ((Path.els a.data.toList).take (Path.els d.data.toList).length == Path.els d.data.toList))) := by
    unfold Path.under
    rw [← prefix_beq]
  rw [hU]
  clear hU
  generalize Path.err a.data.toList = Ea at *
  generalize Path.err d.data.toList = Ed at *
  generalize Path.els a.data.toList = xs at *
  generalize Path.els d.data.toList = ys at *
  by_cases h1 : Ea = 0
  rotate_left
  · have hne : (Ea != 0) = true := bne_iff_ne.2 h1
    rw [decide_eq_false h1]
    clear h1
    go_enter Tryd.func23, Tryd.ntmps23
    go_wp2_with fail
    refine (cka _).mono ?_
    rintro e w' ⟨rfl, hb⟩
    go_wp2_with fail
    go_ret
    exact ⟨rfl, hb⟩
  subst h1
  by_cases h2 : Ed = 0
  rotate_left
  · have hne : (Ed != 0) = true := bne_iff_ne.2 h2
    rw [decide_eq_false h2]
    clear h2
    go_enter Tryd.func23, Tryd.ntmps23
    go_wp2_with fail
    refine (cka _).mono ?_
    rintro e w' ⟨rfl, hb⟩
    go_wp2_with fail
    refine (ckd _).mono ?_
    rintro e w2 ⟨rfl, hb2⟩
    go_wp2_with fail
    go_ret
    exact ⟨rfl, bchain hb hb2⟩
  subst h2
  by_cases h3 : ys.length ≤ xs.length
  rotate_left
  · rw [decide_eq_false h3]
    have h4 : (xs.length : Int) < ys.length := by omega
    go_enter Tryd.func23, Tryd.ntmps23
    go_wp2_with fail
    refine (cka _).mono ?_
    rintro e w' ⟨rfl, hb⟩
    go_wp2_with fail
    refine (ckd _).mono ?_
    rintro e w2 ⟨rfl, hb2⟩
    go_wp2_with fail
    refine (hea _).mono ?_
    rintro e w3 ⟨v, rfl, ho, hb3⟩
    obtain ⟨ao, cap, rfl, _⟩ := ho.form
    rw [strsL_length] at ho ⊢
    go_wp2_with fail
    refine (hed _).mono ?_
    rintro e w4 ⟨v2, rfl, ho2, hb4⟩
    obtain ⟨ao2, cap2, rfl, _⟩ := ho2.form
    rw [strsL_length] at ho2 ⊢
    go_wp2_with fail
    go_ret
    exact ⟨rfl, bchain (bchain (bchain hb hb2) hb3) hb4⟩
  rw [decide_eq_true h3]
  have h4 : (ys.length : Int) ≤ xs.length := by omega
  obtain ⟨r, hr⟩ : ∃ r, (xs.take ys.length == ys) = r := ⟨_, rfl⟩
  have HR := Lib.hid hr
  have hr2 : (decide (0 = (0 : Int)) && decide (0 = (0 : Int)) && (true && (xs.take ys.length == ys))) = r := by rw [hr]; rfl
  rw [hr2]
  clear hr hr2
  go_enter Tryd.func23, Tryd.ntmps23
  go_wp2_with fail
  refine (cka _).mono ?_
  rintro e w' ⟨rfl, hb⟩
  go_wp2_with fail
  refine (ckd _).mono ?_
  rintro e w2 ⟨rfl, hb2⟩
  go_wp2_with fail
  refine (hea _).mono ?_
  rintro e w3 ⟨v, rfl, ho, hb3⟩
  obtain ⟨ao, cap, rfl, hao⟩ := ho.form
  rw [strsL_length] at ho hao ⊢
  go_wp2_with fail
  refine (hed _).mono ?_
  rintro e w4 ⟨v2, rfl, ho2, hb4⟩
  obtain ⟨ao2, cap2, rfl, hao2⟩ := ho2.form
  rw [strsL_length] at ho2 hao2 ⊢
  have hr1 := (ho.below hb4 (Nat.le_refl _)).read
  have hr2 := ho2.read
  have hb5 := bchain (bchain (bchain hb hb2) hb3) hb4
  have H1 := Lib.hid hr1.2
  have H2 := Lib.hid hr2.2
  clear hb hb2 hb3 hb4 ho ho2 hr1 hr2 hao hao2
  go_wp2_with fail
  go_loopw [7] (fun i wr => ∃ k m : Nat, k ≤ ys.length ∧ i = .int .i64 k ∧ Hid ((xs.take k == ys.take k) = true) ∧ wr = w4.drewN m) (fun i _ => ys.length - (intOf i).toNat)
  case atStart => exact ⟨0, 0, Nat.zero_le _, rfl, by show _ = true; simp, rfl⟩
  case round =>
    obtain ⟨k, m, hk, rfl, hok, rfl⟩ := hrel
    by_cases hlt : k < ys.length
    · have hlt2 : k < xs.length := by omega
      obtain ⟨x, hx⟩ : ∃ x, xs[k]? = some x := ⟨_, List.getElem?_eq_getElem hlt2⟩
      obtain ⟨y, hy⟩ : ∃ y, ys[k]? = some y := ⟨_, List.getElem?_eq_getElem hlt⟩
      obtain ⟨b1, o1, rfl, hc1⟩ := H1.out k x hx
      obtain ⟨b2, o2, rfl, hc2⟩ := H2.out k y hy
      have HS := Lib.hid (take_beq hx hy)
      have HB := Lib.hid (str_beq x y)
      generalize (⟨x.toArray⟩ : ByteArray) = X at hc1 HB
      generalize (⟨y.toArray⟩ : ByteArray) = Y at hc2 HB
      clear hx hy
      cases hb : (X.toList == Y.toList)
      · have hf : (xs.take (k + 1) == ys.take (k + 1)) = false := by rw [HS.out, hok.out, ← HB.out, hb]; rfl
        have hr : r = false := by
          rw [← HR.out, beq_eq_false_iff_ne]
          rw [beq_eq_false_iff_ne] at hf
          intro e
          refine hf ?_
          have e2 := congrArg (List.take (k + 1)) e
          rwa [List.take_take, Nat.min_eq_left (by omega)] at e2
        subst hr
        clear hf
        go_wp2_with fail
        go_quiet (fail)
        go_wp2_with fail
        go_ret
        exact ⟨rfl, below_drewN (below_drewN hb5 m) nq⟩
      · go_wp2_with fail
        go_quiet (fail)
        go_wp2_with fail
        go_roundw
        case rel => exact ⟨k + 1, _, by omega, by go_num, by show _ = true; rw [HS.out, hok.out, ← HB.out, hb]; rfl, rfl⟩
        case measure => simp [intOf]; omega
    · obtain rfl : k = ys.length := by omega
      have h := hok.out
      rw [List.take_length] at h
      have hr : r = true := by rw [← HR.out]; exact h
      subst hr
      clear h
      go_wp2_with fail
      go_ret
      exact ⟨rfl, below_drewN hb5 m⟩

set_option maxHeartbeats 2000000 in
theorem rcompare_any (a b : ByteArray) (w : World) (ha : a.size ≤ 65536) (hb : b.size ≤ 65536) :
    Calls Tryd.prog 24 #[.string a, .string b] w fun e w' => e = .returned (.int .i64 (Path.cmp a.data.toList b.data.toList)) ∧ Below w.heap.size w w' := by
  have hea := fun w => relements_any a w ha
  have heb := fun w => relements_any b w hb
  have hza := els_size a
  have hzb := els_size b
  obtain ⟨C, hC⟩ : ∃ C, Path.cmp a.data.toList b.data.toList = C := ⟨_, rfl⟩
  have hC2 : Path.cmpL (Path.els a.data.toList) (Path.els b.data.toList) = C := hC
  have HC := Lib.hid hC2
  rw [hC]
  clear hC hC2
  generalize Path.els a.data.toList = xs at *
  generalize Path.els b.data.toList = ys at *
  go_enter Tryd.func24, Tryd.ntmps24
  go_wp2_with fail
  refine (hea _).mono ?_
  rintro e w' ⟨v, rfl, ho, hb1⟩
  obtain ⟨ao, cap, rfl, _⟩ := ho.form
  rw [strsL_length] at ho ⊢
  go_wp2_with fail
  refine (heb _).mono ?_
  rintro e w2 ⟨v2, rfl, ho2, hb2⟩
  obtain ⟨ao2, cap2, rfl, _⟩ := ho2.form
  rw [strsL_length] at ho2 ⊢
  have H1 := Lib.hid (ho.below hb2 (Nat.le_refl _)).read.2
  have H2 := Lib.hid ho2.read.2
  have hb5 := bchain hb1 hb2
  clear hb1 hb2 ho ho2
  go_wp2_with fail
  go_loopw [7] (fun i wr => ∃ k m : Nat, k ≤ xs.length ∧ k ≤ ys.length ∧ i = .int .i64 k ∧ Hid (Path.cmpL (xs.drop k) (ys.drop k) = C) ∧ wr = w2.drewN m) (fun i _ => xs.length - (intOf i).toNat)
  case atStart => exact ⟨0, 0, Nat.zero_le _, Nat.zero_le _, rfl, HC, rfl⟩
  case round =>
    obtain ⟨k, m, hk, hk2, rfl, hok, rfl⟩ := hrel
    by_cases hlt : k < xs.length
    · by_cases hlt2 : k < ys.length
      · obtain ⟨x, hx⟩ : ∃ x, xs[k]? = some x := ⟨_, List.getElem?_eq_getElem hlt⟩
        obtain ⟨y, hy⟩ : ∃ y, ys[k]? = some y := ⟨_, List.getElem?_eq_getElem hlt2⟩
        obtain ⟨b1, o1, rfl, hc1⟩ := H1.out k x hx
        obtain ⟨b2, o2, rfl, hc2⟩ := H2.out k y hy
        have hok2 := hok.out
        rw [drop_eq hx, drop_eq hy, Path.cmpL] at hok2
        have hE := cmpE_walk x y
        have hX : (⟨x.toArray⟩ : ByteArray).toList = x := by rw [Lib.toList_data]
        have hY : (⟨y.toArray⟩ : ByteArray).toList = y := by rw [Lib.toList_data]
        rw [← hX, ← hY] at hE
        generalize (⟨x.toArray⟩ : ByteArray) = X at hc1 hX hE
        generalize (⟨y.toArray⟩ : ByteArray) = Y at hc2 hY hE
        rw [hX, hY] at hE
        rw [← hX, ← hY] at hE hok2
        clear hx hy hX hY
        cases hl : Op.bytesLess X.toList Y.toList
        · cases he : (X.toList == Y.toList)
          · have hr : C = 1 := by
              rw [← hok2, hE, hl, he]
              rfl
            subst hr
            clear hok2 hE
            go_wp2_with fail
            go_quiet (fail)
            go_wp2_with fail
            go_quiet (fail)
            go_wp2_with fail
            go_ret
            exact ⟨rfl, below_drewN (below_drewN (below_drewN hb5 m) _) _⟩
          · have hz : Path.cmpE X.toList Y.toList = 0 := by rw [hE, hl, he]; rfl
            rw [if_pos hz] at hok2
            have HK := Lib.hid hok2
            clear hok2 hE hz
            go_wp2_with fail
            go_quiet (fail)
            go_wp2_with fail
            go_quiet (fail)
            go_wp2_with fail
            go_roundw
            case rel => exact ⟨k + 1, _, by omega, by omega, by go_num, HK, rfl⟩
            case measure => simp [intOf]; omega
        · have hr : C = -1 := by
            rw [← hok2, hE, hl]
            rfl
          subst hr
          clear hok2 hE
          go_wp2_with fail
          go_quiet (fail)
          go_wp2_with fail
          go_ret
          exact ⟨rfl, below_drewN (below_drewN hb5 m) _⟩
      · have hd : ys.drop k = [] := List.drop_eq_nil_of_le (by omega)
        obtain ⟨x, hx⟩ : ∃ x, xs[k]? = some x := ⟨_, List.getElem?_eq_getElem hlt⟩
        have hok2 := hok.out
        rw [drop_eq hx, hd, Path.cmpL] at hok2
        subst hok2
        clear hd hx
        go_wp2_with fail
        go_ret
        exact ⟨rfl, below_drewN hb5 m⟩
    · have hd : xs.drop k = [] := List.drop_eq_nil_of_le (by omega)
      obtain rfl : k = xs.length := by omega
      have hok2 := hok.out
      rw [hd] at hok2
      by_cases hlt2 : xs.length < ys.length
      · obtain ⟨y, hy⟩ : ∃ y, ys[xs.length]? = some y := ⟨_, List.getElem?_eq_getElem hlt2⟩
        rw [drop_eq hy, Path.cmpL] at hok2
        subst hok2
        clear hd hy
        go_wp2_with fail
        go_ret
        exact ⟨rfl, below_drewN hb5 m⟩
      · have hd2 : ys.drop xs.length = [] := List.drop_eq_nil_of_le (by omega)
        rw [hd2, Path.cmpL] at hok2
        subst hok2
        clear hd hd2
        go_wp2_with fail
        go_ret
        exact ⟨rfl, below_drewN hb5 m⟩
end Go.Proofs.YtgdmclhkoaadmaaDoor
