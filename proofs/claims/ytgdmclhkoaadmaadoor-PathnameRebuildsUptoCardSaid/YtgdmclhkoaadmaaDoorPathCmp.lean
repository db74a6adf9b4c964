/-
  The walks of Under and Compare of paths.
-/
import Derived.Test.YtgdmclhkoaadmaaDoorPathFns
namespace Go.Proofs.YtgdmclhkoaadmaaDoor
open Go.RowKit

theorem prefix_beq (m l : List (List UInt8)) : m.isPrefixOf l = (decide (m.length ≤ l.length) && (l.take m.length == m)) := by
  rw [Bool.eq_iff_iff, Bool.and_eq_true, decide_eq_true_eq, beq_iff_eq, List.isPrefixOf_iff_prefix]
  constructor
  · rintro ⟨t, rfl⟩
    simp
  · rintro ⟨_, h⟩
    exact ⟨l.drop m.length, (congrArg (· ++ l.drop m.length) h.symm).trans (List.take_append_drop _ _)⟩

set_option maxHeartbeats 2000000 in
theorem under_any (a d : ByteArray) (w : World) (ha : a.size < 4294967281) (hd : d.size < 4294967281) :
    Calls Tryd.prog 22 #[.string a, .string d] w fun e w' => e = .returned (.bool (Path.under a.data.toList d.data.toList)) ∧ Below w.heap.size w w' := by
  have hsa := fun w => psplit_any a w ha
  have hsd := fun w => psplit_any d w hd
  have hza := Path.comps_le a
  have hzd := Path.comps_le d
  have hU : Path.under a.data.toList d.data.toList = (decide (Path.err a.data.toList = 0) && decide (Path.err d.data.toList = 0) && (decide ((Path.comps d.data.toList).length ≤ (Path.comps a.data.toList).length) && ((Path.comps a.data.toList).take (Path.comps d.data.toList).length == Path.comps d.data.toList))) := by
    unfold Path.under
    rw [← prefix_beq]
    by_cases h1 : Path.err a.data.toList = 0
    · by_cases h2 : Path.err d.data.toList = 0
      · rw [Path.comps, if_pos h2, Path.comps, if_pos h1]
      · simp [h2]
    · simp [h1]
  rw [hU]
  clear hU
  generalize Path.err a.data.toList = Ea at *
  generalize Path.err d.data.toList = Ed at *
  generalize Path.comps a.data.toList = xs at *
  generalize Path.comps d.data.toList = ys at *
  by_cases h1 : Ea = 0
  rotate_left
  · have hne : (Ea == 0) = false := beq_eq_false_iff_ne.2 h1
    rw [decide_eq_false h1]
    clear h1
    go_enter Tryd.func22, Tryd.ntmps22
    go_wp2_with fail
    refine (hsa _).mono ?_
    rintro e w' ⟨v, rfl, ho, hb⟩
    go_wp2_with fail
    refine (hsd _).mono ?_
    rintro e w2 ⟨v2, rfl, ho2, hb2⟩
    go_wp2_with fail
    go_ret
    exact ⟨rfl, bchain hb hb2⟩
  subst h1
  by_cases h2 : Ed = 0
  rotate_left
  · have hne : (Ed == 0) = false := beq_eq_false_iff_ne.2 h2
    rw [decide_eq_false h2]
    clear h2
    go_enter Tryd.func22, Tryd.ntmps22
    go_wp2_with fail
    refine (hsa _).mono ?_
    rintro e w' ⟨v, rfl, ho, hb⟩
    go_wp2_with fail
    refine (hsd _).mono ?_
    rintro e w2 ⟨v2, rfl, ho2, hb2⟩
    go_wp2_with fail
    go_ret
    exact ⟨rfl, bchain hb hb2⟩
  subst h2
  by_cases h3 : ys.length ≤ xs.length
  rotate_left
  · rw [decide_eq_false h3]
    have h4 : (xs.length : Int) < ys.length := by omega
    go_enter Tryd.func22, Tryd.ntmps22
    go_wp2_with fail
    refine (hsa _).mono ?_
    rintro e w' ⟨v, rfl, ho, hb⟩
    obtain ⟨ao, cap, rfl, _⟩ := ho.form
    rw [strsL_length] at ho ⊢
    go_wp2_with fail
    refine (hsd _).mono ?_
    rintro e w2 ⟨v2, rfl, ho2, hb2⟩
    obtain ⟨ao2, cap2, rfl, _⟩ := ho2.form
    rw [strsL_length] at ho2 ⊢
    go_wp2_with fail
    go_ret
    exact ⟨rfl, bchain hb hb2⟩
  rw [decide_eq_true h3]
  have h4 : (ys.length : Int) ≤ xs.length := by omega
  obtain ⟨r, hr⟩ : ∃ r, (xs.take ys.length == ys) = r := ⟨_, rfl⟩
  have HR := Lib.hid hr
  have hr2 : (decide (0 = (0 : Int)) && decide (0 = (0 : Int)) && (true && (xs.take ys.length == ys))) = r := by rw [hr]; rfl
  rw [hr2]
  clear hr hr2
  go_enter Tryd.func22, Tryd.ntmps22
  go_wp2_with fail
  refine (hsa _).mono ?_
  rintro e w' ⟨v, rfl, ho, hb⟩
  obtain ⟨ao, cap, rfl, hao⟩ := ho.form
  rw [strsL_length] at ho hao ⊢
  have hcap := ho.cap
  go_wp2_with fail
  refine (hsd _).mono ?_
  rintro e w2 ⟨v2, rfl, ho2, hb2⟩
  obtain ⟨ao2, cap2, rfl, _⟩ := ho2.form
  rw [strsL_length] at ho2 ⊢
  have hread := (ho.below hb2 (Nat.le_refl _)).read.take ys.length h3
  have heq := equal_any ao ao2 ys.length cap ys.length cap2 (xs.take ys.length) ys w2 hread ho2.read (by omega) (by omega)
  rw [HR.out] at heq
  by_cases h0 : 0 < xs.length
  · obtain ⟨g, rfl⟩ := hao h0
    go_wp2_with fail
    refine heq.mono ?_
    rintro e w3 ⟨rfl, q, rfl⟩
    go_wp2_with fail
    go_ret
    exact ⟨rfl, bdrew (bchain hb hb2) q⟩
  · obtain rfl : xs = [] := List.eq_nil_of_length_eq_zero (by omega)
    obtain rfl : ys = [] := List.eq_nil_of_length_eq_zero (by simp at h3; exact List.length_eq_zero_iff.2 h3)
    rcases ho.2 with ⟨e, _⟩ | ⟨g, cap', cur, e, _⟩
    all_goals
      injection e with e1 e2 e3
      subst e1
      try subst e3
      go_wp2_with fail
      refine heq.mono ?_
      rintro e w3 ⟨rfl, q, rfl⟩
      go_wp2_with fail
      go_ret
      exact ⟨rfl, bdrew (bchain hb hb2) q⟩

theorem isNaN_any (s : ByteArray) (w : World) :
    Calls Tryd.prog 44 #[.string s] w fun e w' => e = .returned (.bool false) ∧ w' = w := by
  have h : (s.toList == s.toList) = true := beq_self_eq_true _
  go_enter Tryd.func44, Tryd.ntmps44
  go_wp2_with fail
  go_ret
  exact ⟨by simp, rfl⟩

theorem cmpE_walk (x y : List UInt8) : Path.cmpE x y = if Op.bytesLess x y then -1 else if x == y then 0 else 1 := by
  unfold Path.cmpE
  cases h1 : Op.bytesLess x y
  · cases h2 : x == y
    · cases h3 : Op.bytesLess y x
      · rw [Path.less_tri x y h1 h3, beq_self_eq_true] at h2
        cases h2
      · rfl
    · rw [beq_iff_eq.1 h2, Path.less_irrefl]
      rfl
  · rfl
set_option maxHeartbeats 1000000 in
theorem cmpS_any (x y : ByteArray) (w : World) :
    Calls Tryd.prog 34 #[.string x, .string y] w fun e w' => e = .returned (.int .i64 (Path.cmpE x.data.toList y.data.toList)) ∧ w' = w := by
  have hx := fun w => isNaN_any x w
  have hy := fun w => isNaN_any y w
  have HC := Lib.hid (cmpE_walk x.data.toList y.data.toList)
  generalize Path.cmpE x.data.toList y.data.toList = C at HC ⊢
  rw [← Lib.toList_data x, ← Lib.toList_data y] at HC
  cases h1 : Op.bytesLess x.toList y.toList
  · cases h2 : x.toList == y.toList
    all_goals
      rw [h1, h2] at HC
      go_enter Tryd.func34, Tryd.ntmps34
      go_wp2_with fail
      refine (hx _).mono ?_
      rintro e w' ⟨rfl, rfl⟩
      go_wp2_with fail
      refine (hy _).mono ?_
      rintro e w' ⟨rfl, rfl⟩
      go_wp2_with fail
      go_ret
      exact ⟨ret_int (HC.out).symm, rfl⟩
  · rw [h1] at HC
    go_enter Tryd.func34, Tryd.ntmps34
    go_wp2_with fail
    refine (hx _).mono ?_
    rintro e w' ⟨rfl, rfl⟩
    go_wp2_with fail
    refine (hy _).mono ?_
    rintro e w' ⟨rfl, rfl⟩
    go_wp2_with fail
    go_ret
    exact ⟨ret_int (HC.out).symm, rfl⟩

theorem drop_eq {α : Type} {xs : List α} {k : Nat} {x : α} (h : xs[k]? = some x) : xs.drop k = x :: xs.drop (k + 1) := by
  obtain ⟨h1, h2⟩ := List.getElem?_eq_some_iff.1 h
  rw [List.drop_eq_getElem_cons h1, h2]
set_option maxHeartbeats 1000000 in
theorem compareFunc_any (a1 a2 : Option Addr) (n1 c1 n2 c2 : Nat) (xs ys : List (List UInt8)) (w : World) (h1 : Strs w a1 n1 xs) (h2 : Strs w a2 n2 ys) (hn : n1 ≤ 9223372036854775807) (hn2 : n2 ≤ 9223372036854775807) :
    Calls Tryd.prog 33 #[.slice a1 n1 c1, .slice a2 n2 c2, .func (.func 34) #[] #[]] w fun e w' => e = .returned (.int .i64 (Path.cmpL xs ys)) ∧ w = w' := by
  obtain ⟨rfl, h1⟩ := h1
  obtain ⟨rfl, h2⟩ := h2
  have H1 := Lib.hid h1
  have H2 := Lib.hid h2
  clear h1 h2
  obtain ⟨C, hC⟩ : ∃ C, Path.cmpL xs ys = C := ⟨_, rfl⟩
  have HC := Lib.hid hC
  rw [hC]
  clear hC
  go_enter Tryd.func33, Tryd.ntmps33
  go_wp2_with fail
  go_loop [13] (fun i => ∃ k : Nat, k ≤ xs.length ∧ k ≤ ys.length ∧ i = .int .i64 k ∧ Hid (Path.cmpL (xs.drop k) (ys.drop k) = C)) (fun i => xs.length - (intOf i).toNat)
  case atStart => exact ⟨0, Nat.zero_le _, Nat.zero_le _, rfl, HC⟩
  case round =>
    obtain ⟨k, hk, hk2, rfl, hok⟩ := hrel
    by_cases hlt : k < xs.length
    · obtain ⟨x, hx⟩ : ∃ x, xs[k]? = some x := ⟨_, List.getElem?_eq_getElem hlt⟩
      obtain ⟨b1, o1, rfl, hc1⟩ := H1.out k x hx
      have HX := Lib.hid (drop_eq hx)
      clear hx
      by_cases hlt2 : k < ys.length
      · obtain ⟨y, hy⟩ : ∃ y, ys[k]? = some y := ⟨_, List.getElem?_eq_getElem hlt2⟩
        obtain ⟨b2, o2, rfl, hc2⟩ := H2.out k y hy
        have HY := Lib.hid (drop_eq hy)
        clear hy
        have hc := fun w => cmpS_any ⟨x.toArray⟩ ⟨y.toArray⟩ w
        have e1 : Path.cmpE (⟨x.toArray⟩ : ByteArray).data.toList (⟨y.toArray⟩ : ByteArray).data.toList = Path.cmpE x y := rfl
        rw [e1] at hc
        clear e1
        have hok2 := hok.out
        rw [HX.out, HY.out, Path.cmpL] at hok2
        generalize Path.cmpE x y = E at hc hok2
        by_cases hE : E = 0
        · rw [if_pos hE] at hok2
          have HK := Lib.hid hok2
          subst hE
          clear hok2
          go_wp2_with fail
          refine (hc _).mono ?_
          rintro e w' ⟨rfl, rfl⟩
          go_wp2_with fail
          go_round
          case rel => exact ⟨k + 1, by omega, by omega, by go_num, HK⟩
          case measure => simp [intOf]; omega
        · rw [if_neg hE] at hok2
          have HK := Lib.hid hok2
          have hne : (E != 0) = true := bne_iff_ne.2 hE
          clear hok2 hE
          go_wp2_with fail
          refine (hc _).mono ?_
          rintro e w' ⟨rfl, rfl⟩
          go_wp2_with fail
          go_ret
          exact ⟨ret_int HK.out, rfl⟩
      · have hd : ys.drop k = [] := List.drop_eq_nil_of_le (by omega)
        have hok2 := hok.out
        rw [HX.out, hd, Path.cmpL] at hok2
        have HK := Lib.hid hok2
        clear hok2 hd
        go_wp2_with fail
        go_ret
        exact ⟨ret_int HK.out, rfl⟩
    · have hd : xs.drop k = [] := List.drop_eq_nil_of_le (by omega)
      obtain rfl : k = xs.length := by omega
      have hok2 := hok.out
      rw [hd] at hok2
      by_cases hlt2 : xs.length < ys.length
      · obtain ⟨y, hy⟩ : ∃ y, ys[xs.length]? = some y := ⟨_, List.getElem?_eq_getElem hlt2⟩
        rw [drop_eq hy, Path.cmpL] at hok2
        have HK := Lib.hid hok2
        clear hok2 hd hy
        go_wp2_with fail
        go_ret
        exact ⟨ret_int HK.out, rfl⟩
      · have hd2 : ys.drop xs.length = [] := List.drop_eq_nil_of_le (by omega)
        rw [hd2, Path.cmpL] at hok2
        have HK := Lib.hid hok2
        clear hok2 hd hd2
        go_wp2_with fail
        go_ret
        exact ⟨ret_int HK.out, rfl⟩

set_option maxHeartbeats 1000000 in
theorem pcompare_any (a b : ByteArray) (w : World) (ha : a.size < 4294967281) (hb : b.size < 4294967281) :
    Calls Tryd.prog 19 #[.string a, .string b] w fun e w' => e = .returned (.int .i64 (Path.cmp a.data.toList b.data.toList)) ∧ Below w.heap.size w w' := by
  have hea := fun w => elements_any a w ha
  have heb := fun w => elements_any b w hb
  have hza := els_size a
  have hzb := els_size b
  obtain ⟨C, hC⟩ : ∃ C, Path.cmp a.data.toList b.data.toList = C := ⟨_, rfl⟩
  have hC2 : Path.cmpL (Path.els a.data.toList) (Path.els b.data.toList) = C := hC
  have HC := Lib.hid hC2
  rw [hC]
  clear hC hC2
  generalize Path.els a.data.toList = xs at *
  generalize Path.els b.data.toList = ys at *
  go_enter Tryd.func19, Tryd.ntmps19
  go_wp2_with fail
  refine (hea _).mono ?_
  rintro e w' ⟨v, rfl, ho, hb1⟩
  obtain ⟨ao, cap, rfl, _⟩ := ho.form
  rw [strsL_length] at ho ⊢
  go_wp2_with fail
  refine (heb _).mono ?_
  rintro e w2 ⟨v2, rfl, ho2, hb2⟩
  obtain ⟨ao2, cap2, rfl, _⟩ := ho2.form
  rw [strsL_length] at ho2 ⊢
  have hcf := compareFunc_any ao ao2 xs.length cap ys.length cap2 xs ys w2 (ho.below hb2 (Nat.le_refl _)).read ho2.read (by omega) (by omega)
  rw [HC.out] at hcf
  go_wp2_with fail
  refine hcf.mono ?_
  rintro e w3 ⟨rfl, rfl⟩
  go_wp2_with fail
  go_ret
  exact ⟨rfl, bchain hb1 hb2⟩
end Go.Proofs.YtgdmclhkoaadmaaDoor
