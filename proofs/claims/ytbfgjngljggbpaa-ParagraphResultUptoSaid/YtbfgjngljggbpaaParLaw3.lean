/-
  The reference's Parts; the law Minimal of paragraphs, walked.
-/
import Derived.Test.YtbfgjngljggbpaaParLaw1
namespace Go.Proofs.Ytbfgjngljggbpaa
open Go.RowKit

set_option maxHeartbeats 2000000 in
theorem parts_any (v : Value) (ws : List (List UInt8)) (wd : Nat) (w : World) (hW : Words w v ws) (h1 : 1 ≤ wd) (h2 : wd ≤ 200) :
    Calls Try.prog 12 #[v, .int .i64 wd] w fun e w' => ∃ v, e = .returned v ∧ Own w' w.heap.size 9 v (strsL (Par.pieces wd ws)) ∧ Below w.heap.size w w' := by
  obtain ⟨ao, cap, rfl, _, _, hr, hbk⟩ := hW
  have hn := bulkL_len ws
  have HR := Lib.hid hr
  have HX := Lib.hid fun x (hx : x ∈ ws) => Nat.le_trans (bulkL_mem hx) hbk
  have HP := Lib.hid fun k => Par.pieces_take_le wd ws k
  have hcn := Par.pieces_count (w := wd) h1 ws
  have hsum : (ws.map fun x => x.length + 1).sum ≤ 1048576 := hbk
  have hcount : (Par.pieces wd ws).length ≤ 1048576 := by omega
  have HS := Lib.hid fun (k : Nat) (x : List UInt8) (h : ws[k]? = some x) => Par.pieces_take_succ wd ws k x h
  have HE : Hid (Par.pieces wd (ws.take ws.length) = Par.pieces wd ws) := by show _ = _; rw [List.take_length]
  clear hr hcn hsum
  go_enter Try.func12, Try.ntmps12
  go_wp2_with fail
  go_loopw [5, 6] (fun out i wr => ∃ k : Nat, k ≤ ws.length ∧ i = .int .i64 k ∧ Own wr w.heap.size 9 out (strsL (Par.pieces wd (ws.take k))) ∧ Below w.heap.size w wr) (fun _ i _ => ws.length - (intOf i).toNat)
  case atStart => exact ⟨0, Nat.zero_le _, rfl, Own.made0 _ _ _ (Nat.le_refl _), (Below.refl _ _).alloc (Nat.le_refl _) _⟩
  case round =>
    obtain ⟨k, hk, rfl, hown, hb⟩ := hrel
    by_cases hlt : k < ws.length
    · obtain ⟨x, hx⟩ : ∃ x, ws[k]? = some x := ⟨_, List.getElem?_eq_getElem hlt⟩
      have hst := HS.out k x hx
      have hlen := HP.out (k + 1)
      have hzx : (⟨x.toArray⟩ : ByteArray).size ≤ 1048576 := by rw [mk_size]; exact HX.out x (List.mem_of_getElem? hx)
      have hr1 : Strs wr ao ws.length ws := HR.out.below hb
      obtain ⟨b1, o1, rfl, hc1⟩ := hr1.2 k x hx
      have hXd : (⟨x.toArray⟩ : ByteArray).data.toList = x := rfl
      rw [← hXd] at hst
      have HST := Lib.hid hst
      generalize (⟨x.toArray⟩ : ByteArray) = X at *
      generalize hPk : Par.pieces wd (ws.take (k + 1)) = Pk at *
      have HPk := Lib.hid hPk
      clear hst hPk hx hXd hr1
      go_wp2_with fail
      go_loopw [5, 7] (fun out s wr2 => ∃ (S : ByteArray) (xs : List (List UInt8)), s = .string S ∧ S.size ≤ 1048576 ∧ Own wr2 w.heap.size 9 out (strsL xs) ∧ Below w.heap.size w wr2 ∧ Hid (xs ++ Par.chop wd S.data.toList = Pk)) (fun _ s _ => szOf s)
      case atStart => exact ⟨X, _, rfl, hzx, hown, hb, by show _ = _; rw [HST.out]⟩
      case round =>
        obtain ⟨S, xs, rfl, hzS, hown2, hb2, hinv⟩ := hrel
        have hl : (strsL xs).length + 1 ≤ 1048576 := by
          have e1 := congrArg List.length hinv.out
          rw [List.length_append] at e1
          have e2 := List.length_pos_iff.2 (Par.chop_ne wd S.data.toList)
          rw [strsL_length]
          omega
        by_cases hbig : wd < S.size
        · have hz2 : (S.extract wd S.size).size = S.size - wd := by rw [ByteArray.size_extract]; omega
          have HN : Hid ((xs ++ [(S.extract 0 wd).data.toList]) ++ Par.chop wd (S.extract wd S.size).data.toList = Pk) := by
            show _ = _
            rw [← hinv.out, Par.chop_long (s := S.data.toList) (by omega) (by rw [toList_length]; exact hbig), extract_pre, extract_post, List.append_assoc]
            rfl
          go_wp2_with (at_builtin; refine wpList_app1 9 22 _ 16 info_str Try.underlying22 rfl rfl _ _ rfl _ _ _ rfl hown2 _ rfl rfl (by omega) (by omega) hb2.size ?_; intro v' w3 hown3 hb4 _)
          rw [strsL_snoc'] at hown3
          go_roundw
          case rel => exact ⟨_, _, rfl, by omega, hown3, hb2.trans hb4, HN⟩
          case measure => simp [szOf]; omega
        · have HN : Hid (xs ++ [S.data.toList] = Pk) := by
            show _ = _
            rw [← hinv.out, Par.chop_short (by rw [toList_length]; omega)]
          go_wp2_with (at_builtin; refine wpList_app1 9 22 _ 16 info_str Try.underlying22 rfl rfl _ _ rfl _ _ _ rfl hown2 _ rfl rfl (by omega) (by omega) hb2.size ?_; intro v' w3 hown3 hb4 _)
          rw [strsL_snoc', HN.out, ← HPk.out] at hown3
          go_roundw
          case rel => exact ⟨k + 1, by omega, by go_num, hown3, hb2.trans hb4⟩
          case measure => simp [intOf]; omega
    · obtain rfl : k = ws.length := by omega
      rw [HE.out] at hown
      go_wp2_with fail
      go_ret
      exact ⟨_, rfl, hown, hb⟩

set_option maxHeartbeats 4000000 in
theorem law_minimal (z zb : Int) (hz : (Lit.int .u8 z).wf = true) (hzb : (Lit.int .u32 zb).wf = true) (v : Value) (ws : List (List UInt8)) (w : World) (hW : Words w v ws) :
    Calls Try.prog 3 #[v, .int .u8 z, .int .u32 zb] w fun e w' => e = .returned (.bool true) ∧ Below w.heap.size w w' := by
  obtain ⟨wd, e1, w1, w2, n, rfl, hn⟩ := width_of hz 40 (by decide) (by decide)
  have e1 : ((n : Int) % 40 + 1) = wd := e1
  have caw := fun w => awake50_any w
  have cg := fun w hW => greatW v ws w hW
  have cw := fun w hW => wrapW v ws wd w hW w1
  have cp := fun w hW => parts_any v ws wd w hW w1 (by omega)
  have HW := Lib.hid hW
  obtain ⟨ao, cap, rfl, _, _, _, hbk⟩ := hW
  clear hz
  by_cases hg : 800 < totalL ws
  · rw [decide_eq_true hg] at cg
    clear hg
    go_enter Try.func3, Try.ntmps3
    go_wp2_with fail
    refine (cg _ HW.out).mono ?_
    rintro e w3 ⟨rfl, rfl⟩
    go_wp2_with fail
    refine (caw _).mono ?_
    rintro e w3 ⟨rfl, hb3⟩
    go_wp2_with fail
    go_ret
    exact ⟨rfl, hb3⟩
  rw [decide_eq_false hg] at cg
  clear hg
  rcases perr_int ws wd with hE | hE
  rotate_left
  · generalize Par.perr ws wd = E at *
    go_enter Try.func3, Try.ntmps3
    go_wp2_with fail
    refine (cg _ HW.out).mono ?_
    rintro e w3 ⟨rfl, rfl⟩
    go_wp2_with fail
    refine (cw _ HW.out).mono ?_
    rintro e w3 ⟨v, rfl, ho, hb3⟩
    go_wp2_with fail
    refine (cp _ (HW.out.below hb3)).mono ?_
    rintro e w5 ⟨v5, rfl, ho5, hb5⟩
    go_wp2_with fail
    refine (caw _).mono ?_
    rintro e w4 ⟨rfl, hb4⟩
    go_wp2_with fail
    go_ret
    exact ⟨rfl, bchain (bchain hb3 hb5) hb4⟩
  have hpv : parV ws wd = Par.wrap wd ws := by rw [parV, if_pos hE]; rfl
  rw [hE, hpv] at cw
  have hle := Par.pieces_le (w := wd) w1 ws
  have HL := Lib.hid hle
  have hwr : Par.wrap wd ws = Par.lines wd (Par.pieces wd ws) := rfl
  rw [hwr] at cw
  clear hpv hE hle hbk hwr
  generalize Par.pieces wd ws = ps at *
  by_cases h20 : 20 < ps.length
  · go_enter Try.func3, Try.ntmps3
    go_wp2_with fail
    refine (cg _ HW.out).mono ?_
    rintro e w3 ⟨rfl, rfl⟩
    go_wp2_with fail
    refine (cw _ HW.out).mono ?_
    rintro e w3 ⟨v, rfl, ho, hb3⟩
    go_wp2_with fail
    refine (cp _ (HW.out.below hb3)).mono ?_
    rintro e w5 ⟨v5, rfl, ho5, hb5⟩
    obtain ⟨ao5, cap5, rfl, _⟩ := ho5.form
    rw [strsL_length] at ho5 ⊢
    go_wp2_with fail
    refine (caw _).mono ?_
    rintro e w4 ⟨rfl, hb4⟩
    go_wp2_with fail
    go_ret
    exact ⟨rfl, bchain (bchain hb3 hb5) hb4⟩
  go_enter Try.func3, Try.ntmps3
  go_wp2_with fail
  refine (cg _ HW.out).mono ?_
  rintro e w3 ⟨rfl, rfl⟩
  go_wp2_with fail
  refine (cw _ HW.out).mono ?_
  rintro e w3 ⟨v, rfl, ho, hb3⟩
  obtain ⟨ao4, cap4, rfl, _⟩ := ho.form
  rw [strsL_length]
  go_wp2_with fail
  refine (cp _ (HW.out.below hb3)).mono ?_
  rintro e w5 ⟨v5, rfl, ho5, hb5⟩
  obtain ⟨ao5, cap5, rfl, hao5⟩ := ho5.form
  rw [strsL_length] at ho5 hao5 ⊢
  have hb6 := bchain hb3 hb5
  have hlc := Par.lines_count wd ps
  have HS := Lib.hid fun (k : Nat) (x : List UInt8) (h : ps[k]? = some x) => (by rw [List.take_add_one, h]; exact Par.lines_snoc wd (ps.take k) x : Par.lines wd (ps.take (k + 1)) = Par.step wd (Par.lines wd (ps.take k)) x)
  have HE : Hid (Par.lines wd (ps.take ps.length) = Par.lines wd ps) := by show _ = _; rw [List.take_length]
  have HN0 := Lib.hid fun (k : Nat) (hk : 0 < k) (hk2 : k ≤ ps.length) => (fun e => by
    obtain ⟨j, rfl⟩ : ∃ j, k = j + 1 := ⟨k - 1, by omega⟩
    have hj := HS.out j _ (List.getElem?_eq_getElem (by omega))
    rw [e] at hj
    rcases Par.snoc_cases (Par.lines wd (ps.take j)) with h | ⟨ys, y, h⟩
    · rw [h, Par.step_nil] at hj; cases hj
    · rw [h, Par.step_snoc] at hj
      split at hj
      · simp at hj
      · simp at hj : Par.lines wd (ps.take k) ≠ [])
  go_wp2_with fail
  go_loop [11, 12, 41] (fun nn wide i => ∃ (k a b : Nat), k ≤ ps.length ∧ i = .int .i64 k ∧ nn = .int .i64 a ∧ wide = .int .i64 b ∧ a ≤ k ∧ b ≤ wd ∧ (k = 0 → a = 0) ∧ Hid (0 < k → Par.Min (Par.lines wd (ps.take k)) a b)) (fun _ _ i => ps.length - (intOf i).toNat)
  case atStart => exact ⟨0, 0, 0, Nat.zero_le _, rfl, rfl, rfl, Nat.le_refl _, Nat.zero_le _, fun _ => rfl, Lib.hid fun h => absurd h (Nat.lt_irrefl _)⟩
  case round =>
    obtain ⟨k, a, b, hk, rfl, rfl, rfl, ha, hb, ha0, hmin⟩ := hrel
    by_cases hlt : k < ps.length
    · obtain ⟨x, hx⟩ : ∃ x, ps[k]? = some x := ⟨_, List.getElem?_eq_getElem hlt⟩
      obtain ⟨g, rfl⟩ := hao5 (by omega)
      have c1 := ho5.cell k _ (strsL_get ps k x hx)
      have hst := HS.out k x hx
      have hxl := HL.out x (List.mem_of_getElem? hx)
      have hX : (⟨x.toArray⟩ : ByteArray).size = x.length := mk_size x
      rw [← hX] at hxl
      have HX := Lib.hid hX
      have HST := Lib.hid hst
      generalize (⟨x.toArray⟩ : ByteArray) = X at *
      clear hX hst hx
      by_cases hk0 : k = 0
      · subst hk0
        have ha1 := ha0 rfl
        subst ha1
        have HM : Hid (0 < 0 + 1 → Par.Min (Par.lines wd (ps.take (0 + 1))) (0 + 1) X.size) := Lib.hid fun _ => by
          rw [HST.out, HX.out]
          exact Par.min_first wd x
        go_wp2_with fail
        go_round
        case rel => exact ⟨0 + 1, 0 + 1, X.size, by omega, by go_num, by go_num, rfl, by omega, hxl, by omega, HM⟩
        case measure => simp [intOf]; omega
      · have hm := hmin.out (by omega)
        have HM1 : Hid (0 < k + 1 → Par.Min (Par.lines wd (ps.take (k + 1))) (a + 1) X.size) := Lib.hid fun _ => by
          rw [HST.out, HX.out]
          exact Par.min_break x hm
        have HM2 : Hid (b + 1 + X.size ≤ wd → 0 < k + 1 → Par.Min (Par.lines wd (ps.take (k + 1))) a (b + 1 + X.size)) := Lib.hid fun hf _ => by
          rw [HST.out, HX.out]
          rw [HX.out] at hf
          exact Par.min_join x (HN0.out k (by omega) (by omega)) hm hf
        clear hm hmin ha0
        have hk1 : ((k : Int) == 0) = false := by rw [beq_eq_false_iff_ne]; omega
        have hzb2 : 0 ≤ zb ∧ zb ≤ 4294967295 := by simpa [Lit.wf, IntKind.min, IntKind.max, IntKind.signed, IntKind.bits] using hzb
        by_cases hfit : b + 1 + X.size ≤ wd
        · have HM3 := Lib.hid (HM2.out hfit)
          clear HM2
          go_wp2_with fail
          all_goals
            refine ⟨?_, by simp [intOf]; omega⟩
            first
              | exact ⟨k + 1, a + 1, X.size, by omega, by go_num, by go_num, rfl, by omega, hxl, by omega, HM1⟩
              | exact ⟨k + 1, a, b + 1 + X.size, by omega, by go_num, rfl, congrArg (Value.int .i64) (by omega), by omega, by omega, by omega, HM3⟩
        · clear HM2
          go_wp2_with fail
          all_goals
            first
              | (refine ⟨?_, by simp [intOf]; omega⟩
                 exact ⟨k + 1, a + 1, X.size, by omega, by go_num, by go_num, rfl, by omega, hxl, by omega, HM1⟩)
              | (refine (caw _).mono ?_
                 rintro e w6 ⟨rfl, hb7⟩
                 go_wp2_with fail
                 go_ret
                 exact ⟨rfl, bchain hb6 hb7⟩)
    · obtain rfl : k = ps.length := by omega
      have hfin : (Par.lines wd ps).length ≤ a := by
        rcases Nat.eq_zero_or_pos ps.length with h0 | h0
        · have := Par.lines_count wd ps
          omega
        · have := hmin.out h0
          rw [HE.out] at this
          rcases this with h | ⟨h, _⟩ <;> omega
      clear hmin
      go_wp2_with fail
      refine (caw _).mono ?_
      rintro e w6 ⟨rfl, hb7⟩
      go_wp2_with fail
      go_ret
      exact ⟨rfl, bchain hb6 hb7⟩
end Go.Proofs.Ytbfgjngljggbpaa
