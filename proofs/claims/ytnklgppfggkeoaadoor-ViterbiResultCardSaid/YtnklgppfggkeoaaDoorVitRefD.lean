/-
  The reference's Decode.
-/
import Derived.Test.YtnklgppfggkeoaaDoorVitRefT
import Derived.Test.YtnklgppfggkeoaaDoorVitRefP
import Derived.Test.YtnklgppfggkeoaaDoorVitDec
namespace Go.Proofs.YtnklgppfggkeoaaDoor
open Go.RowKit

theorem rdecode_bad (s : ByteArray) (w : World) (hs : s.size ≤ 9223372036854775807) (h : vErr s.data.toList ≠ 0) :
    Calls Tryd.prog 13 #[.string s] w fun e w' => e = .returned (.tuple #[.string ⟨#[]⟩, .int .i64 0, .bool false, .int .i64 (vErr s.data.toList)]) ∧ Below w.heap.size w w' := by
  have hc := fun w => rvcheck_any s w hs
  generalize vErr s.data.toList = E at *
  have HC := Lib.hid hc
  have hb : (E != 0) = true := by rw [bne_iff_ne]; exact h
  clear hc h
  go_enter Tryd.func13, Tryd.ntmps13
  go_wp2_with fail
  refine (HC.out _).mono ?_
  rintro e w1 ⟨rfl, hb1⟩
  go_wp2_with fail
  refine bodyPost_ret (v := .tuple #[.string ⟨#[]⟩, .int .i64 0, .bool false, .int .i64 E]) (by simp [results, Tryd.results13, go_sem]) rfl ⟨rfl, hb1⟩

/-- The bit that the reference takes. -/
theorem step_pick {a b : Vit.Suf} (ha : 0 ≤ a.1) : (Vit.worse a b = true ∧ (Vit.step a b).1 ≠ a.1) ∨ (Vit.worse a b = false ∧ (Vit.step a b).1 = a.1) := by
  unfold Vit.step Vit.worse
  by_cases h : a.1 < 0 ∨ (0 ≤ b.1 ∧ b.1 < a.1)
  · left
    rw [decide_eq_true h, if_pos rfl]
    exact ⟨rfl, by omega⟩
  · right
    rw [decide_eq_false h, if_neg (by decide)]
    refine ⟨rfl, ?_⟩
    split <;> rfl

set_option maxHeartbeats 4000000 in
set_option maxRecDepth 100000 in
theorem rdecode_ok (s : ByteArray) (n : Nat) (hs : s.size = 2 * n) (hn : n ≤ 2000) (hn2 : 2 ≤ n) (hE : vErr s.data.toList = 0) (w : World) :
    Calls Tryd.prog 13 #[.string s] w fun e w' => e = .returned (.tuple #[.string ⟨(Vit.bits s.data.toList).toArray⟩, .int .i64 (Vit.cost s.data.toList), .bool (Vit.paths s.data.toList == 1), .int .i64 0]) ∧ Below w.heap.size w w' := by
  have c59 : Tryd.prog.cellsOf 59 = 2 := by kernel_rfl
  have c60 : Tryd.prog.cellsOf 60 = 8 := by kernel_rfl
  have hl : s.data.toList.length = 2 * n := by rw [toList_length, hs]
  have hc := fun w => rvcheck_any s w (by omega)
  rw [hE] at hc
  have HC := Lib.hid hc
  have hst := fun w => rtable_any s n hs hn w
  have HST := Lib.hid hst
  have infoB : (Tryd.prog.info? 5).map (fun i => (i.zero, i.size, i.bytes)) = some (some (.int .u8 0), 1, 1) := by kernel_rfl
  have hdiv : (s.size : Int) / 2 = (n : Int) := by omega
  have HS := Lib.hid hs
  have HL := Lib.hid hl
  have HI := Lib.hid infoB
  clear hs hl hc hst hE infoB
  go_enter Tryd.func13, Tryd.ntmps13
  go_wp2_with fail
  refine (HC.out _).mono ?_
  rintro e w1 ⟨rfl, hb1⟩
  go_wp2_with fail
  refine (HST.out _).mono ?_
  rintro e w2 ⟨rfl, htab, hb2⟩
  generalize hg : w1.heap.size = g at *
  have HG0 := Lib.hid hg
  clear hg
  go_wp2_with fail
  have hgw2 : g < w2.heap.size := (Array.getElem?_eq_some_iff.1 htab).1
  go_loopg [8, 9, 10] (n - 2) (fun gh bv sv iv wr => ∃ (j : Nat) (l : List Bool) (p q : Bool), gh = n - 2 - j ∧ j ≤ n - 2 ∧ iv = .int .i64 j ∧ sv = .int .i64 (Conv.st p q : Nat) ∧ l.length = j ∧
    Hid (Vit.path false false s.data.toList (n - 2) = l ++ Vit.path p q (s.data.toList.drop (2 * j)) (n - 2 - j)) ∧ Own wr w2.heap.size 5 bv (bytesL (l.map Conv.ch)) ∧ Below w2.heap.size w2 wr)
  case atStart => exact ⟨0, [], false, false, rfl, Nat.zero_le _, rfl, rfl, rfl, rfl, Own.made0 w2 _ _ (Nat.le_refl _), (Below.refl _ _).alloc (Nat.le_refl _) _⟩
  case round =>
    obtain ⟨j, l, p, q, hg, hj, rfl, rfl, hll, hpath, hown, hb⟩ := hrel
    have HG := Lib.hid hg
    clear hg
    by_cases hlt : j < n - 2
    · have hltI : (j : Int) < (n : Int) - 2 := by omega
      have hj1 : 2 * j + 1 < s.size := by have := HS.out; omega
      have hj0 : 2 * j < s.size := by omega
      have htw : Tab wr g 60 s.data.toList := htab.below hb hgw2
      have hdl : (s.data.toList.drop (2 * (j + 1))).length = 2 * (n - (j + 1)) := by rw [List.length_drop, HL.out]; omega
      have hsm := small_dp (n - (j + 1)) (s.data.toList.drop (2 * (j + 1))) hdl (by omega)
      have hgd := Vit.good_dp (n - (j + 1)) (s.data.toList.drop (2 * (j + 1))) hdl
      have hdj : Vit.dp (s.data.toList.drop (2 * j)) = Vit.before s[2 * j] s[2 * j + 1] (Vit.dp (s.data.toList.drop (2 * (j + 1)))) := by
        have h1 : 2 * j < s.data.toList.length := by rw [toList_length]; exact hj0
        have h2 : 2 * j + 1 < s.data.toList.length := by rw [toList_length]; exact hj1
        rw [List.drop_eq_getElem_cons h1, List.drop_eq_getElem_cons h2]
        rfl
      have hpr := path_round s.data.toList (n - 2) j l p q s[2 * j] s[2 * j + 1] hlt (get_of_lt s _ hj0) (get_of_lt s _ hj1) hpath.out
      have hm := fun w => rmis_q s j hj1 (by have := HS.out; omega) p q false w
      have hmb := Vit.mis_bd s[2 * j] s[2 * j + 1] p q false
      have hx1 : ∀ W : World, Tab W g 60 s.data.toList → W.cell? ⟨g, (j + 1) * 8 + Conv.st false p * 2, none⟩ = some (.int .i64 ((Vit.dp (s.data.toList.drop (2 * (j + 1)))).get false p).1) := fun W hW =>
        hW.cell n (j + 1) _ HL.out (by omega) (by have := st_lt false p; omega) _ (by rw [Array.getElem?_toList]; exact (stgC_at _ false p).1)
      have hx2 : ∀ W : World, Tab W g 60 s.data.toList → W.cell? ⟨g, j * 8 + Conv.st p q * 2, none⟩ = some (.int .i64 ((Vit.dp (s.data.toList.drop (2 * j))).get p q).1) := fun W hW =>
        hW.cell n j _ HL.out (by omega) (by have := st_lt p q; omega) _ (by rw [Array.getElem?_toList]; exact (stgC_at _ p q).1)
      rw [hdj] at hx2
      simp only [Vit.get_before, Vit.one] at hx2
      obtain ⟨T, hT⟩ : ∃ T, Vit.dp (s.data.toList.drop (2 * (j + 1))) = T := ⟨_, rfl⟩
      rw [hT] at hsm hgd hpr hx1 hx2
      have hgf := hgd false p
      have hsf := hsm false p
      have hbr : 0 ≤ (T.get false p).1 → Vit.branch s[2 * j] s[2 * j + 1] T p q false = ((T.get false p).1 + Vit.mis s[2 * j] s[2 * j + 1] p q false, (T.get false p).2) := fun h => Vit.branch_some h
      have hbn : (T.get false p).1 < 0 → Vit.branch s[2 * j] s[2 * j + 1] T p q false = (-1, 0) := fun h => Vit.branch_none (by rcases hgf with h2 | h2; exact h2; omega)
      have hsb : -1 ≤ (Vit.step (Vit.branch s[2 * j] s[2 * j + 1] T p q false) (Vit.branch s[2 * j] s[2 * j + 1] T p q true)).1 ∧ (Vit.step (Vit.branch s[2 * j] s[2 * j + 1] T p q false) (Vit.branch s[2 * j] s[2 * j + 1] T p q true)).1 ≤ 100000 := by
        have h := small_dp (n - j) (s.data.toList.drop (2 * j)) (by rw [List.length_drop, HL.out]; omega) (by omega) p q
        rw [hdj, hT, Vit.get_before] at h
        exact ⟨h.1, h.2.1⟩
      obtain ⟨a, hA2⟩ : ∃ a, Vit.branch s[2 * j] s[2 * j + 1] T p q false = a := ⟨_, rfl⟩
      obtain ⟨b, hB2⟩ : ∃ b, Vit.branch s[2 * j] s[2 * j + 1] T p q true = b := ⟨_, rfl⟩
      rw [hA2] at hpr hx2 hbr hbn hsb
      rw [hB2] at hpr hx2 hsb
      have hpick := fun h => step_pick (a := a) (b := b) h
      clear hA2 hB2 hT hdj hdl hsm hgd hgf hpath
      generalize (T.get false p).1 = n0 at *
      generalize (T.get false p).2 = m0 at *
      generalize Vit.mis s[2 * j] s[2 * j + 1] p q false = M at *
      generalize (Vit.step a b).1 = rc at *
      have N0 := Lib.hid fun (w : World) => rnext_any (Conv.st p q) 0 p q false w (st_mod p q) rfl (by omega) (by have := st_lt p q; omega) (by omega) (by omega)
      have N1 := Lib.hid fun (w : World) => rnext_any (Conv.st p q) 1 p q true w (st_mod p q) rfl (by omega) (by have := st_lt p q; omega) (by omega) (by omega)
      have HX1 := Lib.hid hx1
      have HX2 := Lib.hid hx2
      have HPR := Lib.hid hpr
      have HLL := Lib.hid hll
      have HM := Lib.hid hm
      have hs0 := st_lt p q
      have hs1 := st_lt false p
      have hs2 := st_lt true p
      have q1 : IntKind.i64.wrap ((j : Int) + 1) = (j : Int) + 1 := IntWalk.i64_in _ (by omega)
      have q2 : (0 : Int) ≤ (j : Int) + 1 := by omega
      have q3 : (j : Int) + 1 < (n : Int) + 1 := by omega
      have q4 : ((j : Int) + 1).toNat = j + 1 := by omega
      have hlen : (bytesL (l.map Conv.ch)).length ≤ 2000 := by rw [bytesL_length, List.length_map]; omega
      clear hx1 hx2 hpr hll hm
      generalize (#[Conv.ch ((false ^^ p) ^^ q), Conv.ch (false ^^ q)] : Array UInt8) = OO at *
      generalize hi0 : Conv.st p q = i0 at *
      generalize hi1 : Conv.st false p = i1 at *
      generalize hi2 : Conv.st true p = i2 at *
      have HI1 := Lib.hid hi1
      have HI2 := Lib.hid hi2
      clear hi0 hi1 hi2
      go_wp2_with fail
      refine (N0.out _).mono ?_
      rintro e w5 ⟨rfl, hb5⟩
      have htw5 := htw.below hb5 (Array.getElem?_eq_some_iff.1 htw).1
      have hown5 := hown.below hb5 (Nat.le_refl _)
      have hbw5 := hb.trans (hb5.mono hb.size)
      have y1 := HX1.out _ htw5
      have y2 := HX2.out _ htw5
      clear hown htw hb5 hb
      by_cases t1 : n0 < 0
      · have hw : Vit.worse a b = true := by rw [hbn t1]; unfold Vit.worse; rw [decide_eq_true_iff]; exact .inl (by decide)
        have HP2 := Lib.hid (HPR.out true hw)
        clear hw hbr hbn hpick
        go_wp2_with fail
        go_quiet (exact Calls.quiet_of (HM.out _))
        have htw6 : Own (w5.drewN nq) w2.heap.size 5 u8 (bytesL (l.map Conv.ch)) := hown5
        have hbw6 := below_drewN hbw5 nq
        clear hown5 hbw5 htw5 y1 y2
        generalize w5.drewN nq = W6 at *
        go_wp2_with fail
        refine (N1.out _).mono ?_
        rintro e w7 ⟨rfl, hb7⟩
        have hown7 := htw6.below hb7 (Nat.le_refl _)
        have hbw7 := hbw6.trans (hb7.mono hbw6.size)
        go_wp2_with (at_builtin; refine wpList_app1 5 40 _ 1 HI.out Tryd.underlying40 rfl rfl _ _ rfl _ _ _ rfl hown7 _ rfl rfl (by omega) (by omega) hbw7.size ?_; intro v1 w8 hown8 hb8 _)
        have hb9 := hbw7.trans hb8
        have e9 : bytesL (l.map Conv.ch) ++ [Value.int .u8 49] = bytesL ((l ++ [true]).map Conv.ch) := by simp [bytesL, Conv.ch]
        rw [e9] at hown8
        have hll2 : (l ++ [true]).length = j + 1 := by rw [List.length_append, HLL.out]; rfl
        clear e9
        go_wp2_with fail
        go_roundg (n - 2 - (j + 1))
        case measure => have := HG.out; omega
        case rel => exact ⟨j + 1, l ++ [true], true, p, rfl, by omega, by go_num, by rw [HI2.out], hll2, HP2, hown8, hb9⟩
      · have ha := hbr (by omega)
        have t2 : decide (n0 < 0) = false := decide_eq_false (by omega)
        have hpk := hpick (by rw [ha]; simp only; omega)
        rw [ha] at hpk
        simp only at hpk
        rw [← ha] at hpk
        clear hbr hbn hpick ha
        rcases hpk with ⟨hw, hne⟩ | ⟨hw, he⟩
        · have HP2 := Lib.hid (HPR.out true hw)
          have hne2 : (M + n0 != rc) = true := by rw [bne_iff_ne]; omega
          clear hw hne
          go_wp2_with fail
          go_quiet (exact Calls.quiet_of (HM.out _))
          have htw6 : Own (w5.drewN nq) w2.heap.size 5 u8 (bytesL (l.map Conv.ch)) := hown5
          have hbw6 := below_drewN hbw5 nq
          clear hown5 hbw5 htw5 y1 y2
          generalize w5.drewN nq = W6 at *
          go_wp2_with fail
          refine (N1.out _).mono ?_
          rintro e w7 ⟨rfl, hb7⟩
          have hown7 := htw6.below hb7 (Nat.le_refl _)
          have hbw7 := hbw6.trans (hb7.mono hbw6.size)
          go_wp2_with (at_builtin; refine wpList_app1 5 40 _ 1 HI.out Tryd.underlying40 rfl rfl _ _ rfl _ _ _ rfl hown7 _ rfl rfl (by omega) (by omega) hbw7.size ?_; intro v1 w8 hown8 hb8 _)
          have hb9 := hbw7.trans hb8
          have e9 : bytesL (l.map Conv.ch) ++ [Value.int .u8 49] = bytesL ((l ++ [true]).map Conv.ch) := by simp [bytesL, Conv.ch]
          rw [e9] at hown8
          have hll2 : (l ++ [true]).length = j + 1 := by rw [List.length_append, HLL.out]; rfl
          clear e9
          go_wp2_with fail
          go_roundg (n - 2 - (j + 1))
          case measure => have := HG.out; omega
          case rel => exact ⟨j + 1, l ++ [true], true, p, rfl, by omega, by go_num, by rw [HI2.out], hll2, HP2, hown8, hb9⟩
        · have HP2 := Lib.hid (HPR.out false hw)
          have hne2 : (M + n0 != rc) = false := by rw [bne_eq_false_iff_eq]; omega
          clear hw he
          go_wp2_with fail
          go_quiet (exact Calls.quiet_of (HM.out _))
          have htw6 : Own (w5.drewN nq) w2.heap.size 5 u8 (bytesL (l.map Conv.ch)) := hown5
          have hbw6 := below_drewN hbw5 nq
          clear hown5 hbw5 htw5 y1 y2
          generalize w5.drewN nq = W6 at *
          go_wp2_with (at_builtin; refine wpList_app1 5 40 _ 1 HI.out Tryd.underlying40 rfl rfl _ _ rfl _ _ _ rfl htw6 _ rfl rfl (by omega) (by omega) hbw6.size ?_; intro v1 w8 hown8 hb8 _)
          have hb9 := hbw6.trans hb8
          have e9 : bytesL (l.map Conv.ch) ++ [Value.int .u8 48] = bytesL ((l ++ [false]).map Conv.ch) := by simp [bytesL, Conv.ch]
          rw [e9] at hown8
          have hll2 : (l ++ [false]).length = j + 1 := by rw [List.length_append, HLL.out]; rfl
          clear e9
          go_wp2_with fail
          go_roundg (n - 2 - (j + 1))
          case measure => have := HG.out; omega
          case rel => exact ⟨j + 1, l ++ [false], false, p, rfl, by omega, by go_num, by rw [HI1.out], hll2, HP2, hown8, hb9⟩
    · obtain rfl : j = n - 2 := by omega
      have hp := hpath.out
      rw [Nat.sub_self, path_zero, List.append_nil] at hp
      have hbits : Vit.bits s.data.toList = l.map Conv.ch := by
        have hd : s.data.toList.length / 2 = n := by have := HL.out; omega
        unfold Vit.bits
        rw [hd, hp]
      have HBITS := Lib.hid hbits
      obtain ⟨ao, cap, hv, _⟩ := hown.form
      subst hv
      generalize (bytesL (l.map Conv.ch)).length = NN at hown
      have hcv := conv_own (P := Tryd.prog) 40 5 9 Tryd.underlying40 Tryd.underlying5 Tryd.underlying9 hown
      have hcv2 := conv_own (P := Tryd.prog) 40 5 9 Tryd.underlying40 Tryd.underlying5 Tryd.underlying9 (show Own wr.drew _ _ _ _ from hown)
      have htw : Tab wr g 60 s.data.toList := htab.below hb hgw2
      obtain ⟨T, hT⟩ : ∃ T, Vit.dp s.data.toList = T := ⟨_, rfl⟩
      have x0 := htw.cell n 0 0 HL.out (by omega) (by omega) (.int .i64 T.a.1) (by rw [Nat.mul_zero, List.drop_zero, hT]; rfl)
      have x1 := htw.cell n 0 1 HL.out (by omega) (by omega) (.int .i64 T.a.2) (by rw [Nat.mul_zero, List.drop_zero, hT]; rfl)
      rw [show 0 * 8 + 0 = 0 by omega] at x0
      rw [show 0 * 8 + 1 = 1 by omega] at x1
      have hcost : Vit.cost s.data.toList = T.a.1 := by unfold Vit.cost; rw [hT]
      have hpaths : Vit.paths s.data.toList = T.a.2 := by unfold Vit.paths; rw [hT]
      have HC1 := Lib.hid hcost
      have HP1 := Lib.hid hpaths
      have hg1 : w.heap.size ≤ g := by have h1 := hb1.size; have h2 := HG0.out; omega
      have hbb := (hb1.trans (hb2.mono hg1)).trans (hb.mono (by omega))
      clear hp hbits hT hcost hpaths hpath hll
      generalize T.a.1 = C at *
      generalize T.a.2 = PP at *
      go_wp2_with fail
      go_region_held3 (fun w' => w'.cell? ⟨g, 0, none⟩ = some (.int .i64 C) ∧ w'.cell? ⟨g, 1, none⟩ = some (.int .i64 PP) ∧ (convert 40 9 (.slice ao NN cap)).run Tryd.prog w' = .ok (.string ⟨(l.map Conv.ch).toArray⟩) w') (go_keep) (fail)
      all_goals
        go_wp2_with fail
        refine bodyPost_ret (v := .tuple #[.string ⟨(l.map Conv.ch).toArray⟩, .int .i64 C, .bool (PP == 1), .int .i64 0]) (by simp [results, Tryd.results13, go_sem]) rfl ⟨by rw [HBITS.out, HC1.out, HP1.out], bdrew hbb 1⟩
end Go.Proofs.YtnklgppfggkeoaaDoor
