/-
  The walk of the reference of layer 9: Extract.
-/
import Derived.Test.YtokjmcndjhdhfaaDoorConvRefE
import Derived.Test.YtokjmcndjhdhfaaDoorRCheck
import Derived.StillTailTactics
namespace Go.Proofs.YtokjmcndjhdhfaaDoor
open Go.RowKit

namespace Conv
def b01 (b : Bool) : UInt8 := if b then 1 else 0
theorem b01_xor (x : UInt8) (q : Bool) (h : isBit x = true) : bits .xor .u8 (IntKind.u8.wrap ((x.toNat : Int) - 48)) ((b01 q).toNat : Nat) = ((b01 (tb x ^^ q)).toNat : Nat) := by
  have hn := toNat_bit h
  rw [hn]
  cases tb x <;> cases q <;> decide +kernel
theorem isBit_of (x : UInt8) (h : Cells.isCell x = true) (h2 : ((x.toNat : Int) == 63) = false) : isBit x = true := by
  rw [beq63] at h2
  unfold Cells.isCell at h
  rw [h2, Bool.or_false] at h
  exact h
end Conv

theorem rext_1 (s : ByteArray) (w : World) (hs : s.size ≤ 9223372036854775807) (hok : Cells.ok s.data.toList = false) :
    Calls Tryd.prog 13 #[.string s] w fun e w' => e = .returned (.tuple #[.string ⟨#[]⟩, .int .i64 3]) ∧ Below w.heap.size w w' := by
  have h := fun w => rcheck_any s w hs
  have e : Cells.err s.data.toList = 3 := by unfold Cells.err; rw [hok]; rfl
  rw [e] at h
  have H := Lib.hid h
  clear h e hok
  go_enter Tryd.func13, Tryd.ntmps13
  go_wp2_with fail
  refine (H.out _).mono ?_
  rintro e w1 ⟨rfl, rfl⟩
  go_wp2_with fail
  go_ret2
  exact ⟨rfl, Below.refl _ _⟩

theorem rext_2 (s : ByteArray) (w : World) (hs : s.size ≤ 9223372036854775807) (hok : Cells.ok s.data.toList = true) (h2 : ¬ (s.size % 2 = 0 ∧ 4 ≤ s.size)) :
    Calls Tryd.prog 13 #[.string s] w fun e w' => e = .returned (.tuple #[.string ⟨#[]⟩, .int .i64 4]) ∧ Below w.heap.size w w' := by
  have h := fun w => rcheck_any s w hs
  have e : Cells.err s.data.toList = 0 := by unfold Cells.err; rw [hok]; rfl
  rw [e] at h
  have H := Lib.hid h
  have hn : (((s.size : Int) % 2 != 0) = true) ∨ (((s.size : Int) % 2 != 0) = false ∧ (s.size : Int) < 4) := by
    by_cases e : s.size % 2 = 0
    · right
      refine ⟨by rw [bne_eq_false_iff_eq]; omega, by omega⟩
    · left
      rw [bne_iff_ne]
      omega
  clear h e hok h2
  rcases hn with hn | ⟨hn, hn2⟩
  all_goals
    go_enter Tryd.func13, Tryd.ntmps13
    go_wp2_with fail
    refine (H.out _).mono ?_
    rintro e w1 ⟨rfl, rfl⟩
    go_wp2_with fail
    go_ret2
    exact ⟨rfl, Below.refl _ _⟩

theorem conv1 (w : World) (x : UInt8) (a : Int) (ha : a = x.toNat) :
    (convert 39 9 (.slice (some ⟨w.heap.size, 0, none⟩) 1 1)).run Tryd.prog (w.alloc (.cells #[.int .u8 a] 5)) = .ok (.string ⟨#[x]⟩) (w.alloc (.cells #[.int .u8 a] 5)) := by
  subst ha
  exact conv_row (P := Tryd.prog) 39 5 9 Tryd.underlying39 Tryd.underlying5 Tryd.underlying9 (Row.lit2 (w := w) [x] _ rfl) 1 1 rfl

set_option maxHeartbeats 4000000 in
theorem rext_3 (s : ByteArray) (w : World) (hs : s.size ≤ 65536) (hok : Cells.ok s.data.toList = true) (h2 : s.size % 2 = 0 ∧ 4 ≤ s.size) :
    Calls Tryd.prog 13 #[.string s] w fun e w' => e = .returned (.tuple #[.string ⟨(Conv.ansX s.data.toList).toArray⟩, .int .i64 (Conv.ansE s.data.toList)]) ∧ Below w.heap.size w w' := by
  have hl := toList_length s
  have h := fun w => rcheck_any s w (by omega)
  have e : Cells.err s.data.toList = 0 := by unfold Cells.err; rw [hok]; rfl
  rw [e] at h
  have H := Lib.hid h
  have HOK := Lib.hid hok
  have H2 := Lib.hid h2
  have hn : ((s.size : Int) % 2 != 0) = false := by
    rw [bne_eq_false_iff_eq]
    omega
  have h4 : 4 ≤ s.size := h2.2
  obtain ⟨n, hN⟩ : ∃ n, s.size = 2 * n := ⟨s.size / 2, by omega⟩
  have HN := Lib.hid hN
  clear h e hok h2 hN
  go_enter Tryd.func13, Tryd.ntmps13
  go_wp2_with fail
  refine (H.out _).mono ?_
  rintro e w1 ⟨rfl, rfl⟩
  go_wp2_with fail
  go_loopw [4, 5] (fun v i wr => ∃ (k : Nat) (l : List Bool) (p q : Bool), k ≤ n ∧ i = .int .i64 (2 * (k : Int) + 1) ∧ l.length = k ∧ Hid (Conv.decb false false s.data.toList = l ++ Conv.decb p q (s.data.toList.drop (2 * k))) ∧
    Hid (([false, false] ++ l)[k]? = some q ∧ ([false, false] ++ l)[k + 1]? = some p) ∧ Own wr w.heap.size 5 v (bytesL (([false, false] ++ l).map Conv.b01)) ∧ Below w.heap.size w wr) (fun _ i _ => 2 * s.size + 1 - (intOf i).toNat)
  case atStart =>
    refine ⟨0, [], false, false, Nat.zero_le _, rfl, rfl, rfl, ⟨rfl, rfl⟩, ?_, (Below.refl _ _).alloc (Nat.le_refl _) _⟩
    exact Own.lit w _ _ #[.int .u8 0, .int .u8 0] 2 (Nat.le_refl _) (by decide) rfl
  case round =>
    obtain ⟨k, l, p, q, hk, rfl, hll, hd, hpq, hown, hb⟩ := hrel
    by_cases hlt : k < n
    · have hk1 : 2 * k + 1 < s.size := by have := HN.out; omega
      have hk0 : 2 * k < s.size := by omega
      have hc : Cells.isCell s[2 * k + 1] = true := by
        have h := HOK.out
        unfold Cells.ok at h
        rw [List.all_eq_true] at h
        exact h _ (List.mem_of_getElem? (get_of_lt s _ hk1))
      have HC := Lib.hid hc
      clear hc
      cases h63 : ((s[2 * k + 1].toNat : Int) == 63)
      · have hbit := Conv.isBit_of _ HC.out h63
        have hx := Conv.b01_xor s[2 * k + 1] q hbit
        obtain ⟨ao, cap, hv, hga⟩ := hown.form
        have hxl : (bytesL (([false, false] ++ l).map Conv.b01)).length = k + 2 := by
          rw [bytesL_length, List.length_map, List.length_append, hll]
          simp
          omega
        rw [hxl] at hv hga
        subst hv
        obtain ⟨g, rfl⟩ := hga (by omega)
        have hcell := hown.cell k (.int .u8 (Conv.b01 q).toNat) (by rw [bytesL, List.getElem?_map, List.getElem?_map, hpq.out.1]; rfl)
        generalize hXS : bytesL (([false, false] ++ l).map Conv.b01) = XS at hown hxl
        have HXS := Lib.hid hXS
        clear hXS
        have q1 : IntKind.i64.wrap (k : Int) = (k : Int) := IntWalk.i64_in _ (by omega)
        have q0 : (0 : Int) ≤ (k : Int) := by omega
        have q3 : (k : Int) < (k : Int) + 2 := by omega
        have q4 : (0 : Int) ≤ 2 * (k : Int) + 1 := by omega
        have q5 : 2 * (k : Int) + 1 < (s.size : Int) := by omega
        have q6 : (2 * (k : Int) + 1).toNat = 2 * k + 1 := by omega
        have HXL := Lib.hid hxl
        have HBIT := Lib.hid hbit
        have HLL := Lib.hid hll
        clear hxl hbit hll
        go_wp2_with fail
        go_region_law ((refine step_app1 5 39 _ 1 infoU8 Tryd.underlying39 rfl rfl _ _ rfl _ _ _ rfl hown _ rfl rfl rfl (by rw [HXL.out]; omega) (by rw [HXL.out]; omega) hb.size ?_; intro v1 w2 hown1 hb1 _))
        all_goals
          have hb2 := hb.trans hb1
          have e1 : XS ++ [Value.int .u8 (Conv.b01 (Conv.tb s[2 * k + 1] ^^ q)).toNat] = bytesL (([false, false] ++ (l ++ [Conv.tb s[2 * k + 1] ^^ q])).map Conv.b01) := by
            rw [← HXS.out]
            simp [bytesL]
          rw [e1] at hown1
          have HD := Lib.hid (Conv.decb_step s.data.toList k l p q _ _ (get_of_lt s _ hk0) (get_of_lt s _ hk1) hd.out)
          clear e1 hd hx hcell
          generalize (Conv.tb s[2 * k + 1] ^^ q) = u at *
          have HP : Hid (([false, false] ++ (l ++ [u]))[k + 1]? = some p ∧ ([false, false] ++ (l ++ [u]))[k + 1 + 1]? = some u) := by
            refine Lib.hid ⟨?_, ?_⟩
            · rw [← List.append_assoc, List.getElem?_append_left (by have := HLL.out; simp; omega)]
              exact hpq.out.2
            · have := HLL.out
              rw [← List.append_assoc, List.getElem?_append_right (by simp; omega)]
              simp [this]
          have HL1 : (l ++ [u]).length = k + 1 := by rw [List.length_append, HLL.out]; rfl
          clear hpq
          go_wp2_with fail
          go_roundw
          case rel => exact ⟨k + 1, l ++ [u], u, p, by omega, by go_num, HL1, HD, HP, hown1, hb2⟩
          case measure => simp [intOf]; omega
      · have h63' : s.data.toList.contains 63 = true := by
          rw [beq63, beq_iff_eq] at h63
          rw [List.contains_iff_mem]
          exact List.mem_of_getElem? (by rw [get_of_lt s _ hk1, h63])
        obtain ⟨e1, e2⟩ := Conv.ans_open HOK.out (by rw [hl]; exact H2.out) h63'
        have E1 := Lib.hid e1
        have E2 := Lib.hid e2
        clear e1 e2 h63' hd hpq hown
        go_wp2_with fail
        go_ret2
        exact ⟨by rw [E1.out, E2.out]; rfl, hb⟩
    · obtain rfl : k = n := by omega
      have hgt : s.size ≤ 2 * k := by have := HN.out; omega
      have hdec := Conv.decb_end s.data.toList k l p q (by rw [hl]; exact HN.out) hd.out
      have HD := Lib.hid hdec
      clear hd hdec hpq
      obtain ⟨ao, cap, hv, hga⟩ := hown.form
      have hxl : (bytesL (([false, false] ++ l).map Conv.b01)).length = k + 2 := by
        rw [bytesL_length, List.length_map, List.length_append, hll]
        simp
        omega
      rw [hxl] at hv hga
      subst hv
      obtain ⟨g, rfl⟩ := hga (by omega)
      have hk2 : 2 ≤ k := by have := HN.out; omega
      have hkb : k ≤ 65536 := by have := HN.out; omega
      have hget : ∀ j (hj : j < l.length), (bytesL (([false, false] ++ l).map Conv.b01))[j + 2]? = some (.int .u8 (Conv.b01 l[j]).toNat) := fun j hj => by
        rw [bytesL, List.getElem?_map, List.getElem?_map, List.getElem?_append_right (by simp)]
        simp [hj]
      have HG := Lib.hid hget
      generalize bytesL (([false, false] ++ l).map Conv.b01) = XS at hown hxl HG
      have HXL := Lib.hid hxl
      have HLL := Lib.hid hll
      clear hget hxl hll
      go_wp2_with fail
      go_loopw [6, 7] (fun bv i w2 => ∃ (m : Nat) (F : ByteArray), m ≤ k - 2 ∧ i = .int .i64 ((m : Int) + 2) ∧ bv = .string F ∧ Hid (F.data.toList = (l.take m).map Conv.ch) ∧ Own w2 w.heap.size 5 (.slice (some ⟨g, 0, none⟩) (k + 2) cap) XS ∧ Below w.heap.size w w2) (fun _ i _ => k + 2 - (intOf i).toNat)
      case atStart => exact ⟨0, ⟨#[]⟩, Nat.zero_le _, rfl, rfl, rfl, hown, hb⟩
      case round =>
        obtain ⟨m, F, hm, rfl, rfl, hF, hown2, hb2⟩ := hrel
        by_cases hlt2 : m < k - 2
        · have hml : m < l.length := by rw [HLL.out]; omega
          have hcell := hown2.cell (m + 2) _ (HG.out m hml)
          have hts : (l.take (m + 1)).map Conv.ch = (l.take m).map Conv.ch ++ [Conv.ch l[m]] := by
            rw [List.take_succ_eq_append_getElem hml, List.map_append]
            rfl
          have HTS := Lib.hid hts
          clear hts
          generalize l[m] = u at *
          have hu1 : ((Conv.b01 u).toNat : Int) ≤ 1 := by cases u <;> decide
          have hcv := conv1 wr (Conv.ch u) (48 + ((Conv.b01 u).toNat : Int)) (by cases u <;> rfl)
          have HF : Hid ((F ++ (⟨#[Conv.ch u]⟩ : ByteArray)).data.toList = (l.take (m + 1)).map Conv.ch) := by
            refine Lib.hid ?_
            rw [app_data, hF.out, HTS.out]
          have hown3 := hown2.alloc (.cells #[.int .u8 (48 + ((Conv.b01 u).toNat : Int))] 5)
          have hb3 := hb2.alloc hb2.size (.cells #[.int .u8 (48 + ((Conv.b01 u).toNat : Int))] 5)
          have zF : F.size ≤ 65536 := by
            rw [← toList_length, hF.out, List.length_map, List.length_take]
            omega
          have zF2 : (F ++ (⟨#[Conv.ch u]⟩ : ByteArray)).size = F.size + 1 := ByteArray.size_append
          go_wp2_with fail
          go_roundw
          case rel => exact ⟨m + 1, _, by omega, by go_num, rfl, HF, hown3, hb3⟩
          case measure => simp [intOf]; omega
        · have hF1 : F.data.toList = Conv.bitsX l := by
            rw [hF.out, show m = k - 2 by omega, Conv.bitsX, HLL.out]
          have hF2 : F.size = k - 2 := by rw [← toList_length, hF1, Conv.bitsX_length, HLL.out]
          have hFok : Conv.ok F.data.toList = true := by rw [hF1]; exact Conv.ok_bitsX l
          obtain ⟨e1, e2⟩ := Conv.enc_ok (s := F.data.toList) (by rw [toList_length]; omega) hFok
          have h18 := fun w => rencode_any F w (by omega)
          obtain ⟨Y, hY⟩ : ∃ V : ByteArray, ⟨(Conv.encX F.data.toList).toArray⟩ = V := ⟨_, rfl⟩
          have dY : Y.data.toList = Conv.code (Conv.bitsX l) := by rw [← hY, ← hF1]; exact e1
          rw [hY, e2] at h18
          have H18 := Lib.hid h18
          by_cases hcmp : Y.data.toList = s.data.toList
          · obtain ⟨a1, a2⟩ := Conv.ref_yes s.data.toList l (by rw [HLL.out]; omega) (by rw [← dY]; exact hcmp)
            have hF3 : (⟨(Conv.ansX s.data.toList).toArray⟩ : ByteArray) = F := by rw [a1, ← hF1]
            have hc : (Y.toList == s.toList) = true := by rw [Lib.toList_data, Lib.toList_data, hcmp]; simp
            have A2 := Lib.hid a2
            have F3 := Lib.hid hF3
            clear hF hF1 hFok e1 e2 h18 hY dY hcmp a1 a2 hF3
            go_wp2_with fail
            refine (H18.out _).mono ?_
            rintro e w5 ⟨rfl, hb5⟩
            go_wp2_with fail
            go_ret2
            exact ⟨by rw [A2.out, F3.out]; rfl, hb2.trans (hb5.mono hb2.size)⟩
          · obtain ⟨a1, a2⟩ := Conv.ref_no s.data.toList l HD.out HOK.out (by rw [hl]; exact H2.out) (by omega) (by rw [← dY]; exact hcmp)
            have hc : (Y.toList == s.toList) = false := by rw [Lib.toList_data, Lib.toList_data, beq_eq_false_iff_ne]; exact hcmp
            have A1 := Lib.hid a1
            have A2 := Lib.hid a2
            clear hF hF1 hFok e1 e2 h18 hY dY hcmp a1 a2
            go_wp2_with fail
            refine (H18.out _).mono ?_
            rintro e w5 ⟨rfl, hb5⟩
            go_wp2_with fail
            go_ret2
            exact ⟨by rw [A1.out, A2.out]; rfl, hb2.trans (hb5.mono hb2.size)⟩

theorem rextract_any (s : ByteArray) (w : World) (hs : s.size ≤ 65536) :
    Calls Tryd.prog 13 #[.string s] w fun e w' => e = .returned (.tuple #[.string ⟨(Conv.ansX s.data.toList).toArray⟩, .int .i64 (Conv.ansE s.data.toList)]) ∧ Below w.heap.size w w' := by
  have hl := toList_length s
  cases hok : Cells.ok s.data.toList
  · obtain ⟨e1, e2⟩ := Conv.ans_syntax hok
    rw [e1, e2]
    exact rext_1 s w (by omega) hok
  · by_cases h2 : s.size % 2 = 0 ∧ 4 ≤ s.size
    · exact rext_3 s w hs hok h2
    · obtain ⟨e1, e2⟩ := Conv.ans_short hok (by rw [hl]; exact h2)
      rw [e1, e2]
      exact rext_2 s w (by omega) hok h2
end Go.Proofs.YtokjmcndjhdhfaaDoor
