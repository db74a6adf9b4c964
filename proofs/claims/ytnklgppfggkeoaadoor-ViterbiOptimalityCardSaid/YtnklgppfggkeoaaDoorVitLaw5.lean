/-
  The law ViterbiOptimality, walked.
-/
import Derived.Test.YtnklgppfggkeoaaDoorVitLaw4
namespace Go.Proofs.YtnklgppfggkeoaaDoor
open Go.RowKit

namespace Vit
theorem lt_irrefl (t : List Bool) : ¬ lt t t := by
  induction t with
  | nil => exact id
  | cons u t ih =>
    rintro (⟨h1, h2⟩ | ⟨_, h⟩)
    · rw [h1] at h2
      cases h2
    · exact ih h
theorem lt_cancel (t : List Bool) : ∀ (a b : List Bool), a.length = b.length → lt (a ++ t) (b ++ t) → lt a b
  | [], [], _, h => absurd h (lt_irrefl t)
  | u :: a, v :: b, hl, h => by
    rcases h with h | ⟨h1, h2⟩
    · exact .inl h
    · exact .inr ⟨h1, lt_cancel t a b (by simpa using hl) h2⟩
  | [], _ :: _, hl, _ => by simp at hl
  | _ :: _, [], hl, _ => by simp at hl
theorem lt_less : ∀ (a b : List Bool), lt a b → Op.bytesLess (b.map Conv.ch) (a.map Conv.ch) = false
  | u :: a, v :: b, h => by
    rcases h with ⟨rfl, rfl⟩ | ⟨rfl, h⟩
    · simp [Op.bytesLess, Conv.ch]
    · have := lt_less a b h
      simp only [List.map_cons, Op.bytesLess]
      rw [this]
      cases u <;> decide
  | [], _, h => h.elim
  | _ :: _, [], h => h.elim
theorem rival (c : List UInt8) (n : Nat) (hc : c.length = 2 * n) (hn : 2 ≤ n) (r : List UInt8) (hr : Conv.ok r = true) (hl : r.length = n - 2) :
    cost c < (Cells.dist (Conv.code r) c : Int) ∨ r = bits c ∨ ((Cells.dist (Conv.code r) c : Int) = cost c ∧ (paths c == 1) = false ∧ Op.bytesLess r (bits c) = false ∧ r ≠ bits c) := by
  have hn2 : c.length / 2 - 2 = n - 2 := by omega
  obtain ⟨m1, m2, m3, m4, m5, m6, m7⟩ := main c n hc hn
  have e0 : (Conv.bitsOf r).map Conv.ch = r := by
    unfold Conv.ok at hr
    rw [List.all_eq_true] at hr
    unfold Conv.bitsOf
    rw [List.map_map]
    exact (List.map_congr_left fun c hc => Conv.ch_tb (hr c hc)).trans (List.map_id r)
  have hlb : (Conv.bitsOf r).length = n - 2 := by simp [Conv.bitsOf, hl]
  have hlp : (path false false c (n - 2)).length = n - 2 := by
    have := m3
    rw [bits, hn2, List.length_map] at this
    exact this
  by_cases e : Conv.bitsOf r = path false false c (n - 2)
  · right; left
    rw [bits, hn2, ← e, e0]
  · have h := m6 (Conv.bitsOf r) hlb e
    rw [e0] at h
    rcases h with h | ⟨h, h2, h3⟩
    · exact .inl h
    · right; right
      refine ⟨h, by rw [h2]; rfl, ?_, fun e2 => e ?_⟩
      · have h4 := lt_less _ _ (lt_cancel _ _ _ (by rw [hlp, hlb]) h3)
        rw [e0] at h4
        rw [bits, hn2]
        exact h4
      · rw [e2, bits, hn2, Conv.bitsOf_map]
end Vit
theorem IntsArg.take {w : World} {k : IntKind} {ao : Option Addr} {cap : Nat} {zs : List Int} (h : IntsArg w k (.slice ao zs.length cap) zs) (m : Nat) (hm : m ≤ zs.length) : IntsArg w k (.slice ao m cap) (zs.take m) := by
  obtain ⟨ao', cap', e, hl, hmx, hc, hw⟩ := h
  injection e with e1 _ e3
  subst e1
  subst e3
  refine ⟨ao, cap, by rw [List.length_take, Nat.min_eq_left hm], by rw [List.length_take]; omega, hmx, fun i n hi => ?_, fun n hn => hw n (List.mem_of_mem_take hn)⟩
  have him : i < m := by
    have := (List.getElem?_eq_some_iff.1 hi).1
    rw [List.length_take] at this
    omega
  rw [List.getElem?_take, if_pos him] at hi
  exact hc i n hi

theorem opt_early (a0 : ByteArray) (v : Value) (h : 400 < (a0.size : Int) ∨ (a0.size : Int) < 4 ∨ ((a0.size : Int) % 2 != 0) = true) (hz : a0.size ≤ 140737488351232) (w : World) :
    Calls Tryd.prog 9 #[.string a0, v] w fun e w' => e = .returned (.bool true) ∧ Below w.heap.size w w' := by
  have hx : (400 < (a0.size : Int)) ∨ ((a0.size : Int) ≤ 400 ∧ (a0.size : Int) < 4) ∨ ((a0.size : Int) ≤ 400 ∧ 4 ≤ (a0.size : Int) ∧ ((a0.size : Int) % 2 != 0) = true) := by
    by_cases h1 : 400 < (a0.size : Int)
    · exact .inl h1
    · by_cases h2 : (a0.size : Int) < 4
      · exact .inr (.inl ⟨by omega, h2⟩)
      · refine .inr (.inr ⟨by omega, by omega, ?_⟩)
        rcases h with h | h | h
        · exact absurd h h1
        · exact absurd h h2
        · exact h
  clear h
  rcases hx with h1 | ⟨h1, h2⟩ | ⟨h1, h2, h3⟩
  all_goals
    go_enter Tryd.func9, Tryd.ntmps9
    go_wp2_with fail
    refine (awake_any _).mono ?_
    rintro e w1 ⟨rfl, hb1⟩
    go_wp2_with fail
    go_ret
    exact ⟨rfl, hb1⟩

set_option maxHeartbeats 8000000 in
theorem opt_main (a0 : ByteArray) (ao : Option Addr) (cap : Nat) (zs : List Int) (w : World) (x1 : IntsArg w .u8 (.slice ao zs.length cap) zs) (h1 : (a0.size : Int) ≤ 400) (h4 : 4 ≤ (a0.size : Int)) (hev : ((a0.size : Int) % 2 != 0) = false) :
    Calls Tryd.prog 9 #[.string a0, .slice ao zs.length cap] w fun e w' => e = .returned (.bool true) ∧ Below w.heap.size w w' := by
  have hl := toList_length a0
  have hck := fun w => check_any a0 w (by omega)
  obtain ⟨ao', cap', e0, hlc, hcm, hcell0, _⟩ := id x1
  injection e0 with ea _ ec
  subst ea
  subst ec
  unfold maxLen at hcm
  have h2 : a0.size % 2 = 0 := by
    rw [bne_eq_false_iff_eq] at hev
    omega
  cases hok : Cells.ok a0.data.toList
  · have e1 : Cells.err a0.data.toList = 3 := by unfold Cells.err; rw [hok]; rfl
    rw [e1] at hck
    have HCK := Lib.hid hck
    clear hck e1 hok x1 hcell0 h2
    go_enter Tryd.func9, Tryd.ntmps9
    go_wp2_with fail
    refine (HCK.out _).mono ?_
    rintro e w1 ⟨rfl, hb1⟩
    go_wp2_with fail
    refine (awake_any _).mono ?_
    rintro e w2 ⟨rfl, hb2⟩
    go_wp2_with fail
    go_ret
    exact ⟨rfl, bchain hb1 hb2⟩
  · have e1 : Cells.err a0.data.toList = 0 := by unfold Cells.err; rw [hok]; rfl
    rw [e1] at hck
    have HCK := Lib.hid hck
    obtain ⟨n, hN⟩ : ∃ n, a0.size = 2 * n := ⟨a0.size / 2, by omega⟩
    have hdiv : (a0.size : Int) / 2 = (n : Int) := by omega
    have hn2 : 2 ≤ n := by omega
    have hn200 : n ≤ 200 := by omega
    by_cases hsh : (zs.length : Int) < (n : Int) - 2
    · have HN := Lib.hid hN
      clear hck e1 hok x1 hcell0 h2 hN
      go_enter Tryd.func9, Tryd.ntmps9
      go_wp2_with fail
      refine (HCK.out _).mono ?_
      rintro e w1 ⟨rfl, hb1⟩
      go_wp2_with fail
      refine (awake_any _).mono ?_
      rintro e w2 ⟨rfl, hb2⟩
      go_wp2_with fail
      go_ret
      exact ⟨rfl, bchain hb1 hb2⟩
    · have L0 : a0.data.toList.length = 2 * n := by rw [hl, hN]
      have v0 : vErr a0.data.toList = 0 := Vit.err_ok hok (by omega)
      obtain ⟨d1, d2, d3⟩ := Vit.dec_ok v0
      obtain ⟨m1, m2, m3, m4, -⟩ := Vit.main a0.data.toList n L0 hn2
      have hdec := fun w => decode_any a0 w (by omega)
      rw [v0, d1, d2, d3] at hdec
      obtain ⟨S, hS⟩ : ∃ V : ByteArray, ⟨(Vit.bits a0.data.toList).toArray⟩ = V := ⟨_, rfl⟩
      have dS : S.data.toList = Vit.bits a0.data.toList := by rw [← hS]
      have zS : S.size = n - 2 := by rw [← toList_length, dS, m3]
      have okS : Conv.ok S.data.toList = true := by rw [dS]; exact Vit.ok_bits _
      rw [hS] at hdec
      have henc := fun w => encode_any S w (by omega)
      obtain ⟨f1, f2⟩ := Conv.enc_ok (s := S.data.toList) (by rw [toList_length]; omega) okS
      obtain ⟨X, hX⟩ : ∃ V : ByteArray, ⟨(Conv.encX S.data.toList).toArray⟩ = V := ⟨_, rfl⟩
      have dX : X.data.toList = Conv.code S.data.toList := by rw [← hX]; exact f1
      have zX : X.size = 2 * n := by rw [← toList_length, dX, Conv.code_length, toList_length, zS]; omega
      rw [hX, f2] at henc
      have hdist := fun w => dist_any X a0 w (by omega) (by omega)
      have okX : (Cells.ok X.data.toList && Cells.ok a0.data.toList) = true := by rw [dX, Conv.cells_of_ok _ (Conv.ok_code _), hok]; rfl
      rw [Cells.distV_ok okX (by rw [toList_length, L0, zX]), Cells.distE_ok okX (by rw [toList_length, L0, zX]), dX, dS, m4] at hdist
      obtain ⟨R, hR⟩ : ∃ V : ByteArray, ⟨((zs.take (n - 2)).map bc).toArray⟩ = V := ⟨_, rfl⟩
      have dR : R.data.toList = (zs.take (n - 2)).map bc := by rw [← hR]
      have zR : R.size = n - 2 := by rw [← toList_length, dR, List.length_map, List.length_take]; omega
      have okR : Conv.ok R.data.toList = true := by rw [dR]; exact bc_ok _
      have hbits := fun (w' : World) (hb : Below w.heap.size w w') => Bits_any _ (zs.take (n - 2)) w' ((x1.take (n - 2) (by omega)).below hb) (by rw [List.length_take]; omega)
      rw [hR] at hbits
      have henc2 := fun w => encode_any R w (by omega)
      obtain ⟨g1, g2⟩ := Conv.enc_ok (s := R.data.toList) (by rw [toList_length]; omega) okR
      obtain ⟨Y, hY⟩ : ∃ V : ByteArray, ⟨(Conv.encX R.data.toList).toArray⟩ = V := ⟨_, rfl⟩
      have dY : Y.data.toList = Conv.code R.data.toList := by rw [← hY]; exact g1
      have zY : Y.size = 2 * n := by rw [← toList_length, dY, Conv.code_length, toList_length, zR]; omega
      rw [hY, g2] at henc2
      have hdist2 := fun w => dist_any Y a0 w (by omega) (by omega)
      have okY : (Cells.ok Y.data.toList && Cells.ok a0.data.toList) = true := by rw [dY, Conv.cells_of_ok _ (Conv.ok_code _), hok]; rfl
      rw [Cells.distV_ok okY (by rw [toList_length, L0, zY]), Cells.distE_ok okY (by rw [toList_length, L0, zY]), dY] at hdist2
      have hriv := Vit.rival a0.data.toList n L0 hn2 R.data.toList okR (by rw [toList_length, zR])
      have hle := Vit.least a0.data.toList n L0 hn2 R.data.toList okR (by rw [toList_length, zR])
      rw [← dS] at hriv
      generalize (Cells.dist (Conv.code R.data.toList) a0.data.toList : Int) = x at *
      generalize Vit.cost a0.data.toList = C at *
      generalize (Vit.paths a0.data.toList == 1) = O at *
      have hSS : (S.toList == S.toList) = true := by simp
      have hszb : ((S.size : Int) != (n : Int) - 2) = false := by rw [bne_eq_false_iff_eq]; omega
      have hnn : ((n : Int) - 2).toNat = n - 2 := by omega
      have hsl : (0 : Int) ≤ (n : Int) - 2 := by omega
      have hsl2 : (n : Int) - 2 ≤ (cap : Int) := by omega
      have HD := Lib.hid hdec
      have HE := Lib.hid henc
      have HDI := Lib.hid hdist
      have HBI := Lib.hid hbits
      have HE2 := Lib.hid henc2
      have HDI2 := Lib.hid hdist2
      have hfin : (C < x) ∨ (R.toList == S.toList) = true ∨ (x = C ∧ (R.toList == S.toList) = false ∧ O = false ∧ Op.bytesLess R.toList S.toList = false) := by
        rcases hriv with h | h | ⟨h, h5, h6, h7⟩
        · exact .inl h
        · exact .inr (.inl (by rw [Lib.toList_data, Lib.toList_data, h]; simp))
        · exact .inr (.inr ⟨h, by rw [Lib.toList_data, Lib.toList_data, beq_eq_false_iff_ne]; exact h7, h5, by rw [Lib.toList_data, Lib.toList_data]; exact h6⟩)
      clear hck hdec henc hdist hbits henc2 hdist2 hriv hX hY hR hS dX dY dR dS okX okY okS okR f1 f2 g1 g2 d1 d2 d3 v0 L0 m3 m4 hok e1 hN h2 hl zS zX zR zY x1 hcell0
      go_enter Tryd.func9, Tryd.ntmps9
      go_wp2_with fail
      refine (HCK.out _).mono ?_
      rintro e w1 ⟨rfl, hb1⟩
      go_wp2_with fail
      refine (HD.out _).mono ?_
      rintro e w2 ⟨rfl, hb2⟩
      have hc2 := bchain hb1 hb2
      clear hb1 hb2
      go_wp2_with fail
      refine (HE.out _).mono ?_
      rintro e w3 ⟨rfl, hb3⟩
      go_wp2_with fail
      refine (HDI.out _).mono ?_
      rintro e w4 ⟨rfl, hb4⟩
      have hc4 := bchain (bchain hc2 hb3) hb4
      clear hc2 hb3 hb4
      go_wp2_with fail
      refine (HBI.out _ hc4).mono ?_
      rintro e w5 ⟨rfl, hb5⟩
      go_wp2_with fail
      refine (HE2.out _).mono ?_
      rintro e w6 ⟨rfl, hb6⟩
      have hc6 := bchain (bchain hc4 hb5) hb6
      clear hc4 hb5 hb6
      go_wp2_with fail
      refine (HDI2.out _).mono ?_
      rintro e w7 ⟨rfl, hb7⟩
      have hc7 := bchain hc6 hb7
      clear hc6 hb7
      have hlt : ¬ x < C := by omega
      rcases hfin with h | h | ⟨rfl, h5, rfl, h7⟩
      · go_wp2_with fail
        refine (awake_any _).mono ?_
        rintro e w8 ⟨rfl, hb8⟩
        go_wp2_with fail
        go_ret
        exact ⟨rfl, bchain hc7 hb8⟩
      · by_cases hlt2 : C < x
        all_goals
          go_wp2_with fail
          refine (awake_any _).mono ?_
          rintro e w8 ⟨rfl, hb8⟩
          go_wp2_with fail
          go_ret
          exact ⟨rfl, bchain hc7 hb8⟩
      · go_wp2_with fail
        refine (awake_any _).mono ?_
        rintro e w8 ⟨rfl, hb8⟩
        go_wp2_with fail
        go_ret
        exact ⟨rfl, bchain hc7 hb8⟩

theorem law_optimality (a0 : ByteArray) (w0 : a0.size ≤ 140737488351232) (v1 : Value) (zs : List Int) (w : World) (x1 : IntsArg w .u8 v1 zs) :
    Calls Tryd.prog 9 #[.string a0, v1] w fun e w' => e = .returned (.bool true) ∧ Below w.heap.size w w' := by
  by_cases h1 : 400 < (a0.size : Int)
  · exact opt_early a0 v1 (.inl h1) w0 w
  by_cases h2 : (a0.size : Int) < 4
  · exact opt_early a0 v1 (.inr (.inl h2)) w0 w
  cases h3 : ((a0.size : Int) % 2 != 0)
  · obtain ⟨ao, cap, rfl, h⟩ := id x1
    exact opt_main a0 ao cap zs w x1 (by omega) (by omega) h3
  · exact opt_early a0 v1 (.inr (.inr h3)) w0 w
end Go.Proofs.YtnklgppfggkeoaaDoor
