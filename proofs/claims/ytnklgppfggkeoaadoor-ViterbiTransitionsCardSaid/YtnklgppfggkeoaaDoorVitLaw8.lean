/-
  The law ViterbiTransitions, walked: the body.
-/
import Derived.Test.YtnklgppfggkeoaaDoorVitLaw7
import Derived.Test.YtnklgppfggkeoaaDoorVitLaw3
namespace Go.Proofs.YtnklgppfggkeoaaDoor
open Go.RowKit

theorem two_at (s : ByteArray) (k : Nat) (hk : 2 * k + 2 ≤ s.size) : ∃ x y, (s.extract (2 * k) (2 * k + 2)).data.toList = [x, y] ∧ s.data.toList.drop (2 * k) = x :: y :: s.data.toList.drop (2 * (k + 1)) := by
  have hl := toList_length s
  refine ⟨s.data.toList[2 * k]'(by omega), s.data.toList[2 * k + 1]'(by omega), ?_, ?_⟩
  · rw [Lib.extract_data, show 2 * k + 2 - 2 * k = 2 by omega, List.drop_eq_getElem_cons (by omega), List.drop_eq_getElem_cons (by omega)]
    rfl
  · rw [List.drop_eq_getElem_cons (by omega), List.drop_eq_getElem_cons (i := 2 * k + 1) (by omega)]
    rfl

set_option maxRecDepth 100000 in
set_option maxHeartbeats 4000000 in
theorem tr_walk0 (a0 X Y0 Y1 : ByteArray) (a1 a2 n k : Nat) (S U : Vit.Stg) (hz : a0.size = 2 * n) (hn : 2 ≤ n) (hn2 : n ≤ 150) (hmod : (a1 : Int) % (n : Int) = (k : Int)) (hk : k < n) (hst : (a2 : Int) % 4 = 0) (ha1 : a1 < 256) (ha2 : a2 < 256)
    (hck : ∀ w, Calls Tryd.prog 14 #[.string a0] w fun e w' => e = .returned (.int .i64 0) ∧ Below w.heap.size w w')
    (hN : ∀ w, Calls Tryd.prog 16 #[.string a0, .int .i64 k] w fun e w' => e = .returned (.tuple #[.agg #[.int .i64 S.a.1, .int .i64 S.b.1, .int .i64 S.c.1, .int .i64 S.d.1], .int .i64 0]) ∧ Below w.heap.size w w')
    (hA : ∀ w, Calls Tryd.prog 16 #[.string a0, .int .i64 ((k : Int) + 1)] w fun e w' => e = .returned (.tuple #[.agg #[.int .i64 U.a.1, .int .i64 U.b.1, .int .i64 U.c.1, .int .i64 U.d.1], .int .i64 0]) ∧ Below w.heap.size w w')
    (hL : ∀ w, Calls Tryd.prog 16 #[.string a0, .int .i64 n] w fun e w' => e = .returned (.tuple #[.agg #[.int .i64 0, .int .i64 (-1), .int .i64 (-1), .int .i64 (-1)], .int .i64 0]) ∧ Below w.heap.size w w')
    (hn0 : ∀ w, Calls Tryd.prog 18 #[.int .i64 0, .int .i64 0] w fun e w' => e = .returned (.tuple #[.int .i64 0, .string Y0]) ∧ w' = w)
    (hn1 : ∀ w, Calls Tryd.prog 18 #[.int .i64 0, .int .i64 1] w fun e w' => e = .returned (.tuple #[.int .i64 2, .string Y1]) ∧ w' = w)
    (M0 M1 : Int) (m0 : 0 ≤ M0 ∧ M0 ≤ 2) (m1 : 0 ≤ M1 ∧ M1 ≤ 2)
    (hX : a0.extract (2 * k) (2 * k + 2) = X)
    (hd0 : ∀ w, Calls Tryd.prog 19 #[.string Y0, .string X] w fun e w' => e = .returned (.tuple #[.int .i64 M0, .int .i64 0]) ∧ Below w.heap.size w w')
    (hd1 : ∀ w, Calls Tryd.prog 19 #[.string Y1, .string X] w fun e w' => e = .returned (.tuple #[.int .i64 M1, .int .i64 0]) ∧ Below w.heap.size w w')
    (A B C : Int) (u0 : U.a.1 = A) (u1 : U.c.1 = B) (r0 : -1 ≤ A ∧ A ≤ 100000) (r1 : -1 ≤ B ∧ B ≤ 100000) (hC : S.a.1 = C) (hbest : Vit.best1 (Vit.best0 A M0) B M1 = C) (w : World) :
    Calls Tryd.prog 6 #[.string a0, .int .u8 a1, .int .u8 a2] w fun e w' => e = .returned (.bool true) ∧ Below w.heap.size w w' := by
  have c31 : Tryd.prog.cellsOf 31 = 4 := by kernel_rfl
  have HCK := Lib.hid hck
  have HN := Lib.hid hN
  have HA := Lib.hid hA
  have HL := Lib.hid hL
  have H0 := Lib.hid hn0
  have H1 := Lib.hid hn1
  have D0 := Lib.hid hd0
  have D1 := Lib.hid hd1
  have HX := Lib.hid hX
  have HB := Lib.hid hbest
  have hdiv : (a0.size : Int) / 2 = (n : Int) := by omega
  have h300 : (a0.size : Int) ≤ 300 := by omega
  have h4 : 4 ≤ (a0.size : Int) := by omega
  have hev : (a0.size : Int) % 2 = 0 := by omega
  have hkw : IntKind.i64.wrap ((k : Int) + 1) = (k : Int) + 1 := IntWalk.i64_in _ (by omega)
  have hk2 : IntKind.i64.wrap (2 * (k : Int)) = 2 * (k : Int) := IntWalk.i64_in _ (by omega)
  have hk3 : IntKind.i64.wrap (2 * (k : Int) + 2) = 2 * (k : Int) + 2 := IntWalk.i64_in _ (by omega)
  have q1 : (0 : Int) ≤ 2 * (k : Int) := by omega
  have q2 : (0 : Int) ≤ 2 * (k : Int) + 2 := by omega
  have q3 : 2 * (k : Int) + 2 ≤ (a0.size : Int) := by omega
  have q4 : 2 * (k : Int) ≤ 2 * (k : Int) + 2 := by omega
  have q5 : (2 * (k : Int)).toNat = 2 * k := by omega
  have q6 : (2 * (k : Int) + 2).toNat = 2 * k + 2 := by omega
  obtain ⟨⟨c0, p0⟩, ⟨c1, p1⟩, ⟨c2, p2⟩, ⟨c3, p3⟩⟩ := S
  obtain ⟨⟨g0, t0⟩, ⟨g1, t1⟩, ⟨g2, t2⟩, ⟨g3, t3⟩⟩ := U
  have HZ := Lib.hid hz
  simp only at u0 u1 hC
  subst u0 u1 hC
  clear hck hN hA hL hn0 hn1 hd0 hd1 hX hbest hz
  go_enter Tryd.func6, Tryd.ntmps6
  go_wp2_with fail
  refine (HCK.out _).mono ?_
  rintro e w1 ⟨rfl, hb1⟩
  go_wp2_with fail
  refine (HN.out _).mono ?_
  rintro e w2 ⟨rfl, hb2⟩
  have hc2 := bchain hb1 hb2
  have e0 := heap_alloc_new w2 (.cells (four c0 c1 c2 c3) 31)
  go_wp2_with fail
  refine (HA.out _).mono ?_
  rintro e w3 ⟨rfl, hb3⟩
  have hN3 := hb_below hb3 (by simp) e0
  have hc3 := (hc2.alloc hc2.size _).trans (hb3.mono (by have := hc2.size; simp; omega))
  have hsz3 : w2.heap.size < w3.heap.size := (Array.getElem?_eq_some_iff.1 hN3).1
  have hN4 := hb_alloc (o := .cells (four g0 g1 g2 g3) 31) hN3
  have hA4 := heap_alloc_new w3 (.cells (four g0 g1 g2 g3) 31)
  have hc4 := hc3.alloc hc3.size (.cells (four g0 g1 g2 g3) 31)
  clear e0 hb1 hb2 hb3 hc2 hc3
  go_wp2_with fail
  go_loopg [13, 14, 15, 16, 17, 18, 63] 2 (fun gh bv _ _ _ _ _ iv wr => ∃ (j : Nat) (b : Int), gh = 2 - j ∧ iv = .int .i64 j ∧ bv = .int .i64 b ∧ ((j = 0 ∧ b = -1) ∨ (j = 1 ∧ b = Vit.best0 g0 M0) ∨ (j = 2 ∧ b = c0)) ∧ wr.heap[w2.heap.size]? = some (.cells (four c0 c1 c2 c3) 31 (0, 0)) ∧ wr.heap[w3.heap.size]? = some (.cells (four g0 g1 g2 g3) 31 (0, 0)) ∧ Below w.heap.size w wr)
  case atStart => exact ⟨0, -1, rfl, rfl, rfl, .inl ⟨rfl, rfl⟩, hN4, hA4, hc4⟩
  case round =>
    obtain ⟨j, b, hg, rfl, rfl, hj, hN5, hA5, hb⟩ := hrel
    clear hN3 hN4 hA4 hc4
    have z0 := block_cell hA5 0 (.int .i64 g0) rfl
    have z1 := block_cell hA5 2 (.int .i64 g2) rfl
    have zw0 : IntKind.i64.wrap (M0 + g0) = M0 + g0 := IntWalk.i64_in _ (by omega)
    have zw1 : IntKind.i64.wrap (M1 + g2) = M1 + g2 := IntWalk.i64_in _ (by omega)
    have lN := (Array.getElem?_eq_some_iff.1 hN5).1
    have lA := (Array.getElem?_eq_some_iff.1 hA5).1
    rcases hj with ⟨rfl, rfl⟩ | ⟨rfl, hb0⟩ | ⟨rfl, hb0⟩
    · have HG := Lib.hid hg
      clear hg
      go_wp2_with fail
      refine (H0.out _).mono ?_
      rintro e w6 ⟨rfl, hw6⟩
      obtain rfl := hw6
      go_wp2_with fail
      first | rw [HX.out] | (rw [q5, q6]; rw [HX.out]) | skip
      refine (D0.out _).mono ?_
      rintro e w7 ⟨rfl, hb7⟩
      have hN7 := hb_below hb7 lN hN5
      have hA7 := hb_below hb7 lA hA5
      have y0 := block_cell hA7 0 (.int .i64 g0) rfl
      have hc7 := bchain hb hb7
      have HN7 := Lib.hid hN7
      have HA7 := Lib.hid hA7
      clear hN5 hA5 hb hb7 z0 z1 hN7 hA7
      by_cases hge : 0 ≤ g0
      · go_wp2_with fail
        go_roundg (2 - 1)
        case measure => have := HG.out; omega
        case rel => exact ⟨1, _, rfl, rfl, rfl, .inr (.inl ⟨rfl, by unfold Vit.best0; rw [if_pos (by omega)]⟩), HN7.out, HA7.out, hc7⟩
      · go_wp2_with fail
        go_roundg (2 - 1)
        case measure => have := HG.out; omega
        case rel => exact ⟨1, _, rfl, rfl, rfl, .inr (.inl ⟨rfl, by unfold Vit.best0; rw [if_neg (by omega)]⟩), HN7.out, HA7.out, hc7⟩
    · have HG := Lib.hid hg
      have hbr : -1 ≤ b ∧ b ≤ 100002 := by rw [hb0]; unfold Vit.best0; split <;> omega
      have HB0 := Lib.hid hb0
      clear hg hb0
      go_wp2_with fail
      refine (H1.out _).mono ?_
      rintro e w6 ⟨rfl, hw6⟩
      obtain rfl := hw6
      go_wp2_with fail
      first | rw [HX.out] | (rw [q5, q6]; rw [HX.out]) | skip
      refine (D1.out _).mono ?_
      rintro e w7 ⟨rfl, hb7⟩
      have hN7 := hb_below hb7 lN hN5
      have hA7 := hb_below hb7 lA hA5
      have y0 := block_cell hA7 2 (.int .i64 g2) rfl
      have hc7 := bchain hb hb7
      have HN7 := Lib.hid hN7
      have HA7 := Lib.hid hA7
      clear hN5 hA5 hb hb7 z0 z1 hN7 hA7
      by_cases hge : 0 ≤ g2
      · by_cases hbn : b < 0
        · go_wp2_with fail
          go_roundg (2 - 2)
          case measure => have := HG.out; omega
          case rel => exact ⟨2, _, rfl, rfl, rfl, .inr (.inr ⟨rfl, by rw [← HB.out, ← HB0.out]; unfold Vit.best1; rw [if_pos ⟨by omega, .inl (by omega)⟩]⟩), HN7.out, HA7.out, hc7⟩
        · by_cases hlt : M1 + g2 < b
          · go_wp2_with fail
            go_roundg (2 - 2)
            case measure => have := HG.out; omega
            case rel => exact ⟨2, _, rfl, rfl, rfl, .inr (.inr ⟨rfl, by rw [← HB.out, ← HB0.out]; unfold Vit.best1; rw [if_pos ⟨by omega, .inr (by omega)⟩]⟩), HN7.out, HA7.out, hc7⟩
          · go_wp2_with fail
            go_roundg (2 - 2)
            case measure => have := HG.out; omega
            case rel => exact ⟨2, _, rfl, rfl, rfl, .inr (.inr ⟨rfl, by rw [← HB.out, ← HB0.out]; unfold Vit.best1; rw [if_neg (by omega)]⟩), HN7.out, HA7.out, hc7⟩
      · go_wp2_with fail
        go_roundg (2 - 2)
        case measure => have := HG.out; omega
        case rel => exact ⟨2, _, rfl, rfl, rfl, .inr (.inr ⟨rfl, by rw [← HB.out, ← HB0.out]; unfold Vit.best1; rw [if_neg (by omega)]⟩), HN7.out, HA7.out, hc7⟩
    · have hb1 := hb0.symm
      subst hb1
      clear z0 z1 hg
      go_wp2_with fail
      refine (HL.out _).mono ?_
      rintro e w8 ⟨rfl, hb8⟩
      have hN8 := hb_alloc (o := .cells #[.int .i64 0, .int .i64 (-1), .int .i64 (-1), .int .i64 (-1)] 31) (hb_below hb8 lN hN5)
      have e8 := heap_alloc_new w8 (.cells #[.int .i64 0, .int .i64 (-1), .int .i64 (-1), .int .i64 (-1)] 31)
      have y0 := block_cell hN8 0 (.int .i64 c0) rfl
      have d0 := block_cell e8 0 (.int .i64 0) rfl
      have d1 := block_cell e8 1 (.int .i64 (-1)) rfl
      have d2 := block_cell e8 2 (.int .i64 (-1)) rfl
      have d3 := block_cell e8 3 (.int .i64 (-1)) rfl
      have hc8 := bchain hb hb8
      have hc9 := hc8.alloc hc8.size (.cells #[.int .i64 0, .int .i64 (-1), .int .i64 (-1), .int .i64 (-1)] 31)
      have hq : ∀ w, Sem.run Tryd.prog (Op.equalIn 10000 31 (.agg #[.int .i64 0, .int .i64 (-1), .int .i64 (-1), .int .i64 (-1)]) (.agg #[.int .i64 0, .int .i64 (-1), .int .i64 (-1), .int .i64 (-1)])) w = .ok true w := fun _ => by kernel_rfl
      clear hN5 hA5 hb hb8 hN8 e8 hc8
      go_wp2_with fail
      refine (awake_any _).mono ?_
      rintro e w9 ⟨rfl, hb9⟩
      go_wp2_with fail
      go_ret
      exact ⟨rfl, bchain hc9 hb9⟩

set_option maxRecDepth 100000 in
set_option maxHeartbeats 4000000 in
theorem tr_walk1 (a0 X Y0 Y1 : ByteArray) (a1 a2 n k : Nat) (S U : Vit.Stg) (hz : a0.size = 2 * n) (hn : 2 ≤ n) (hn2 : n ≤ 150) (hmod : (a1 : Int) % (n : Int) = (k : Int)) (hk : k < n) (hst : (a2 : Int) % 4 = 1) (ha1 : a1 < 256) (ha2 : a2 < 256)
    (hck : ∀ w, Calls Tryd.prog 14 #[.string a0] w fun e w' => e = .returned (.int .i64 0) ∧ Below w.heap.size w w')
    (hN : ∀ w, Calls Tryd.prog 16 #[.string a0, .int .i64 k] w fun e w' => e = .returned (.tuple #[.agg #[.int .i64 S.a.1, .int .i64 S.b.1, .int .i64 S.c.1, .int .i64 S.d.1], .int .i64 0]) ∧ Below w.heap.size w w')
    (hA : ∀ w, Calls Tryd.prog 16 #[.string a0, .int .i64 ((k : Int) + 1)] w fun e w' => e = .returned (.tuple #[.agg #[.int .i64 U.a.1, .int .i64 U.b.1, .int .i64 U.c.1, .int .i64 U.d.1], .int .i64 0]) ∧ Below w.heap.size w w')
    (hL : ∀ w, Calls Tryd.prog 16 #[.string a0, .int .i64 n] w fun e w' => e = .returned (.tuple #[.agg #[.int .i64 0, .int .i64 (-1), .int .i64 (-1), .int .i64 (-1)], .int .i64 0]) ∧ Below w.heap.size w w')
    (hn0 : ∀ w, Calls Tryd.prog 18 #[.int .i64 1, .int .i64 0] w fun e w' => e = .returned (.tuple #[.int .i64 0, .string Y0]) ∧ w' = w)
    (hn1 : ∀ w, Calls Tryd.prog 18 #[.int .i64 1, .int .i64 1] w fun e w' => e = .returned (.tuple #[.int .i64 2, .string Y1]) ∧ w' = w)
    (M0 M1 : Int) (m0 : 0 ≤ M0 ∧ M0 ≤ 2) (m1 : 0 ≤ M1 ∧ M1 ≤ 2)
    (hX : a0.extract (2 * k) (2 * k + 2) = X)
    (hd0 : ∀ w, Calls Tryd.prog 19 #[.string Y0, .string X] w fun e w' => e = .returned (.tuple #[.int .i64 M0, .int .i64 0]) ∧ Below w.heap.size w w')
    (hd1 : ∀ w, Calls Tryd.prog 19 #[.string Y1, .string X] w fun e w' => e = .returned (.tuple #[.int .i64 M1, .int .i64 0]) ∧ Below w.heap.size w w')
    (A B C : Int) (u0 : U.a.1 = A) (u1 : U.c.1 = B) (r0 : -1 ≤ A ∧ A ≤ 100000) (r1 : -1 ≤ B ∧ B ≤ 100000) (hC : S.b.1 = C) (hbest : Vit.best1 (Vit.best0 A M0) B M1 = C) (w : World) :
    Calls Tryd.prog 6 #[.string a0, .int .u8 a1, .int .u8 a2] w fun e w' => e = .returned (.bool true) ∧ Below w.heap.size w w' := by
  have c31 : Tryd.prog.cellsOf 31 = 4 := by kernel_rfl
  have HCK := Lib.hid hck
  have HN := Lib.hid hN
  have HA := Lib.hid hA
  have HL := Lib.hid hL
  have H0 := Lib.hid hn0
  have H1 := Lib.hid hn1
  have D0 := Lib.hid hd0
  have D1 := Lib.hid hd1
  have HX := Lib.hid hX
  have HB := Lib.hid hbest
  have hdiv : (a0.size : Int) / 2 = (n : Int) := by omega
  have h300 : (a0.size : Int) ≤ 300 := by omega
  have h4 : 4 ≤ (a0.size : Int) := by omega
  have hev : (a0.size : Int) % 2 = 0 := by omega
  have hkw : IntKind.i64.wrap ((k : Int) + 1) = (k : Int) + 1 := IntWalk.i64_in _ (by omega)
  have hk2 : IntKind.i64.wrap (2 * (k : Int)) = 2 * (k : Int) := IntWalk.i64_in _ (by omega)
  have hk3 : IntKind.i64.wrap (2 * (k : Int) + 2) = 2 * (k : Int) + 2 := IntWalk.i64_in _ (by omega)
  have q1 : (0 : Int) ≤ 2 * (k : Int) := by omega
  have q2 : (0 : Int) ≤ 2 * (k : Int) + 2 := by omega
  have q3 : 2 * (k : Int) + 2 ≤ (a0.size : Int) := by omega
  have q4 : 2 * (k : Int) ≤ 2 * (k : Int) + 2 := by omega
  have q5 : (2 * (k : Int)).toNat = 2 * k := by omega
  have q6 : (2 * (k : Int) + 2).toNat = 2 * k + 2 := by omega
  obtain ⟨⟨c0, p0⟩, ⟨c1, p1⟩, ⟨c2, p2⟩, ⟨c3, p3⟩⟩ := S
  obtain ⟨⟨g0, t0⟩, ⟨g1, t1⟩, ⟨g2, t2⟩, ⟨g3, t3⟩⟩ := U
  have HZ := Lib.hid hz
  simp only at u0 u1 hC
  subst u0 u1 hC
  clear hck hN hA hL hn0 hn1 hd0 hd1 hX hbest hz
  go_enter Tryd.func6, Tryd.ntmps6
  go_wp2_with fail
  refine (HCK.out _).mono ?_
  rintro e w1 ⟨rfl, hb1⟩
  go_wp2_with fail
  refine (HN.out _).mono ?_
  rintro e w2 ⟨rfl, hb2⟩
  have hc2 := bchain hb1 hb2
  have e0 := heap_alloc_new w2 (.cells (four c0 c1 c2 c3) 31)
  go_wp2_with fail
  refine (HA.out _).mono ?_
  rintro e w3 ⟨rfl, hb3⟩
  have hN3 := hb_below hb3 (by simp) e0
  have hc3 := (hc2.alloc hc2.size _).trans (hb3.mono (by have := hc2.size; simp; omega))
  have hsz3 : w2.heap.size < w3.heap.size := (Array.getElem?_eq_some_iff.1 hN3).1
  have hN4 := hb_alloc (o := .cells (four g0 g1 g2 g3) 31) hN3
  have hA4 := heap_alloc_new w3 (.cells (four g0 g1 g2 g3) 31)
  have hc4 := hc3.alloc hc3.size (.cells (four g0 g1 g2 g3) 31)
  clear e0 hb1 hb2 hb3 hc2 hc3
  go_wp2_with fail
  go_loopg [13, 14, 15, 16, 17, 18, 63] 2 (fun gh bv _ _ _ _ _ iv wr => ∃ (j : Nat) (b : Int), gh = 2 - j ∧ iv = .int .i64 j ∧ bv = .int .i64 b ∧ ((j = 0 ∧ b = -1) ∨ (j = 1 ∧ b = Vit.best0 g0 M0) ∨ (j = 2 ∧ b = c1)) ∧ wr.heap[w2.heap.size]? = some (.cells (four c0 c1 c2 c3) 31 (0, 0)) ∧ wr.heap[w3.heap.size]? = some (.cells (four g0 g1 g2 g3) 31 (0, 0)) ∧ Below w.heap.size w wr)
  case atStart => exact ⟨0, -1, rfl, rfl, rfl, .inl ⟨rfl, rfl⟩, hN4, hA4, hc4⟩
  case round =>
    obtain ⟨j, b, hg, rfl, rfl, hj, hN5, hA5, hb⟩ := hrel
    clear hN3 hN4 hA4 hc4
    have z0 := block_cell hA5 0 (.int .i64 g0) rfl
    have z1 := block_cell hA5 2 (.int .i64 g2) rfl
    have zw0 : IntKind.i64.wrap (M0 + g0) = M0 + g0 := IntWalk.i64_in _ (by omega)
    have zw1 : IntKind.i64.wrap (M1 + g2) = M1 + g2 := IntWalk.i64_in _ (by omega)
    have lN := (Array.getElem?_eq_some_iff.1 hN5).1
    have lA := (Array.getElem?_eq_some_iff.1 hA5).1
    rcases hj with ⟨rfl, rfl⟩ | ⟨rfl, hb0⟩ | ⟨rfl, hb0⟩
    · have HG := Lib.hid hg
      clear hg
      go_wp2_with fail
      refine (H0.out _).mono ?_
      rintro e w6 ⟨rfl, hw6⟩
      obtain rfl := hw6
      go_wp2_with fail
      first | rw [HX.out] | (rw [q5, q6]; rw [HX.out]) | skip
      refine (D0.out _).mono ?_
      rintro e w7 ⟨rfl, hb7⟩
      have hN7 := hb_below hb7 lN hN5
      have hA7 := hb_below hb7 lA hA5
      have y0 := block_cell hA7 0 (.int .i64 g0) rfl
      have hc7 := bchain hb hb7
      have HN7 := Lib.hid hN7
      have HA7 := Lib.hid hA7
      clear hN5 hA5 hb hb7 z0 z1 hN7 hA7
      by_cases hge : 0 ≤ g0
      · go_wp2_with fail
        go_roundg (2 - 1)
        case measure => have := HG.out; omega
        case rel => exact ⟨1, _, rfl, rfl, rfl, .inr (.inl ⟨rfl, by unfold Vit.best0; rw [if_pos (by omega)]⟩), HN7.out, HA7.out, hc7⟩
      · go_wp2_with fail
        go_roundg (2 - 1)
        case measure => have := HG.out; omega
        case rel => exact ⟨1, _, rfl, rfl, rfl, .inr (.inl ⟨rfl, by unfold Vit.best0; rw [if_neg (by omega)]⟩), HN7.out, HA7.out, hc7⟩
    · have HG := Lib.hid hg
      have hbr : -1 ≤ b ∧ b ≤ 100002 := by rw [hb0]; unfold Vit.best0; split <;> omega
      have HB0 := Lib.hid hb0
      clear hg hb0
      go_wp2_with fail
      refine (H1.out _).mono ?_
      rintro e w6 ⟨rfl, hw6⟩
      obtain rfl := hw6
      go_wp2_with fail
      first | rw [HX.out] | (rw [q5, q6]; rw [HX.out]) | skip
      refine (D1.out _).mono ?_
      rintro e w7 ⟨rfl, hb7⟩
      have hN7 := hb_below hb7 lN hN5
      have hA7 := hb_below hb7 lA hA5
      have y0 := block_cell hA7 2 (.int .i64 g2) rfl
      have hc7 := bchain hb hb7
      have HN7 := Lib.hid hN7
      have HA7 := Lib.hid hA7
      clear hN5 hA5 hb hb7 z0 z1 hN7 hA7
      by_cases hge : 0 ≤ g2
      · by_cases hbn : b < 0
        · go_wp2_with fail
          go_roundg (2 - 2)
          case measure => have := HG.out; omega
          case rel => exact ⟨2, _, rfl, rfl, rfl, .inr (.inr ⟨rfl, by rw [← HB.out, ← HB0.out]; unfold Vit.best1; rw [if_pos ⟨by omega, .inl (by omega)⟩]⟩), HN7.out, HA7.out, hc7⟩
        · by_cases hlt : M1 + g2 < b
          · go_wp2_with fail
            go_roundg (2 - 2)
            case measure => have := HG.out; omega
            case rel => exact ⟨2, _, rfl, rfl, rfl, .inr (.inr ⟨rfl, by rw [← HB.out, ← HB0.out]; unfold Vit.best1; rw [if_pos ⟨by omega, .inr (by omega)⟩]⟩), HN7.out, HA7.out, hc7⟩
          · go_wp2_with fail
            go_roundg (2 - 2)
            case measure => have := HG.out; omega
            case rel => exact ⟨2, _, rfl, rfl, rfl, .inr (.inr ⟨rfl, by rw [← HB.out, ← HB0.out]; unfold Vit.best1; rw [if_neg (by omega)]⟩), HN7.out, HA7.out, hc7⟩
      · go_wp2_with fail
        go_roundg (2 - 2)
        case measure => have := HG.out; omega
        case rel => exact ⟨2, _, rfl, rfl, rfl, .inr (.inr ⟨rfl, by rw [← HB.out, ← HB0.out]; unfold Vit.best1; rw [if_neg (by omega)]⟩), HN7.out, HA7.out, hc7⟩
    · have hb1 := hb0.symm
      subst hb1
      clear z0 z1 hg
      go_wp2_with fail
      refine (HL.out _).mono ?_
      rintro e w8 ⟨rfl, hb8⟩
      have hN8 := hb_alloc (o := .cells #[.int .i64 0, .int .i64 (-1), .int .i64 (-1), .int .i64 (-1)] 31) (hb_below hb8 lN hN5)
      have e8 := heap_alloc_new w8 (.cells #[.int .i64 0, .int .i64 (-1), .int .i64 (-1), .int .i64 (-1)] 31)
      have y0 := block_cell hN8 1 (.int .i64 c1) rfl
      have d0 := block_cell e8 0 (.int .i64 0) rfl
      have d1 := block_cell e8 1 (.int .i64 (-1)) rfl
      have d2 := block_cell e8 2 (.int .i64 (-1)) rfl
      have d3 := block_cell e8 3 (.int .i64 (-1)) rfl
      have hc8 := bchain hb hb8
      have hc9 := hc8.alloc hc8.size (.cells #[.int .i64 0, .int .i64 (-1), .int .i64 (-1), .int .i64 (-1)] 31)
      have hq : ∀ w, Sem.run Tryd.prog (Op.equalIn 10000 31 (.agg #[.int .i64 0, .int .i64 (-1), .int .i64 (-1), .int .i64 (-1)]) (.agg #[.int .i64 0, .int .i64 (-1), .int .i64 (-1), .int .i64 (-1)])) w = .ok true w := fun _ => by kernel_rfl
      clear hN5 hA5 hb hb8 hN8 e8 hc8
      go_wp2_with fail
      refine (awake_any _).mono ?_
      rintro e w9 ⟨rfl, hb9⟩
      go_wp2_with fail
      go_ret
      exact ⟨rfl, bchain hc9 hb9⟩

set_option maxRecDepth 100000 in
set_option maxHeartbeats 4000000 in
theorem tr_walk2 (a0 X Y0 Y1 : ByteArray) (a1 a2 n k : Nat) (S U : Vit.Stg) (hz : a0.size = 2 * n) (hn : 2 ≤ n) (hn2 : n ≤ 150) (hmod : (a1 : Int) % (n : Int) = (k : Int)) (hk : k < n) (hst : (a2 : Int) % 4 = 2) (ha1 : a1 < 256) (ha2 : a2 < 256)
    (hck : ∀ w, Calls Tryd.prog 14 #[.string a0] w fun e w' => e = .returned (.int .i64 0) ∧ Below w.heap.size w w')
    (hN : ∀ w, Calls Tryd.prog 16 #[.string a0, .int .i64 k] w fun e w' => e = .returned (.tuple #[.agg #[.int .i64 S.a.1, .int .i64 S.b.1, .int .i64 S.c.1, .int .i64 S.d.1], .int .i64 0]) ∧ Below w.heap.size w w')
    (hA : ∀ w, Calls Tryd.prog 16 #[.string a0, .int .i64 ((k : Int) + 1)] w fun e w' => e = .returned (.tuple #[.agg #[.int .i64 U.a.1, .int .i64 U.b.1, .int .i64 U.c.1, .int .i64 U.d.1], .int .i64 0]) ∧ Below w.heap.size w w')
    (hL : ∀ w, Calls Tryd.prog 16 #[.string a0, .int .i64 n] w fun e w' => e = .returned (.tuple #[.agg #[.int .i64 0, .int .i64 (-1), .int .i64 (-1), .int .i64 (-1)], .int .i64 0]) ∧ Below w.heap.size w w')
    (hn0 : ∀ w, Calls Tryd.prog 18 #[.int .i64 2, .int .i64 0] w fun e w' => e = .returned (.tuple #[.int .i64 1, .string Y0]) ∧ w' = w)
    (hn1 : ∀ w, Calls Tryd.prog 18 #[.int .i64 2, .int .i64 1] w fun e w' => e = .returned (.tuple #[.int .i64 3, .string Y1]) ∧ w' = w)
    (M0 M1 : Int) (m0 : 0 ≤ M0 ∧ M0 ≤ 2) (m1 : 0 ≤ M1 ∧ M1 ≤ 2)
    (hX : a0.extract (2 * k) (2 * k + 2) = X)
    (hd0 : ∀ w, Calls Tryd.prog 19 #[.string Y0, .string X] w fun e w' => e = .returned (.tuple #[.int .i64 M0, .int .i64 0]) ∧ Below w.heap.size w w')
    (hd1 : ∀ w, Calls Tryd.prog 19 #[.string Y1, .string X] w fun e w' => e = .returned (.tuple #[.int .i64 M1, .int .i64 0]) ∧ Below w.heap.size w w')
    (A B C : Int) (u0 : U.b.1 = A) (u1 : U.d.1 = B) (r0 : -1 ≤ A ∧ A ≤ 100000) (r1 : -1 ≤ B ∧ B ≤ 100000) (hC : S.c.1 = C) (hbest : Vit.best1 (Vit.best0 A M0) B M1 = C) (w : World) :
    Calls Tryd.prog 6 #[.string a0, .int .u8 a1, .int .u8 a2] w fun e w' => e = .returned (.bool true) ∧ Below w.heap.size w w' := by
  have c31 : Tryd.prog.cellsOf 31 = 4 := by kernel_rfl
  have HCK := Lib.hid hck
  have HN := Lib.hid hN
  have HA := Lib.hid hA
  have HL := Lib.hid hL
  have H0 := Lib.hid hn0
  have H1 := Lib.hid hn1
  have D0 := Lib.hid hd0
  have D1 := Lib.hid hd1
  have HX := Lib.hid hX
  have HB := Lib.hid hbest
  have hdiv : (a0.size : Int) / 2 = (n : Int) := by omega
  have h300 : (a0.size : Int) ≤ 300 := by omega
  have h4 : 4 ≤ (a0.size : Int) := by omega
  have hev : (a0.size : Int) % 2 = 0 := by omega
  have hkw : IntKind.i64.wrap ((k : Int) + 1) = (k : Int) + 1 := IntWalk.i64_in _ (by omega)
  have hk2 : IntKind.i64.wrap (2 * (k : Int)) = 2 * (k : Int) := IntWalk.i64_in _ (by omega)
  have hk3 : IntKind.i64.wrap (2 * (k : Int) + 2) = 2 * (k : Int) + 2 := IntWalk.i64_in _ (by omega)
  have q1 : (0 : Int) ≤ 2 * (k : Int) := by omega
  have q2 : (0 : Int) ≤ 2 * (k : Int) + 2 := by omega
  have q3 : 2 * (k : Int) + 2 ≤ (a0.size : Int) := by omega
  have q4 : 2 * (k : Int) ≤ 2 * (k : Int) + 2 := by omega
  have q5 : (2 * (k : Int)).toNat = 2 * k := by omega
  have q6 : (2 * (k : Int) + 2).toNat = 2 * k + 2 := by omega
  obtain ⟨⟨c0, p0⟩, ⟨c1, p1⟩, ⟨c2, p2⟩, ⟨c3, p3⟩⟩ := S
  obtain ⟨⟨g0, t0⟩, ⟨g1, t1⟩, ⟨g2, t2⟩, ⟨g3, t3⟩⟩ := U
  have HZ := Lib.hid hz
  simp only at u0 u1 hC
  subst u0 u1 hC
  clear hck hN hA hL hn0 hn1 hd0 hd1 hX hbest hz
  go_enter Tryd.func6, Tryd.ntmps6
  go_wp2_with fail
  refine (HCK.out _).mono ?_
  rintro e w1 ⟨rfl, hb1⟩
  go_wp2_with fail
  refine (HN.out _).mono ?_
  rintro e w2 ⟨rfl, hb2⟩
  have hc2 := bchain hb1 hb2
  have e0 := heap_alloc_new w2 (.cells (four c0 c1 c2 c3) 31)
  go_wp2_with fail
  refine (HA.out _).mono ?_
  rintro e w3 ⟨rfl, hb3⟩
  have hN3 := hb_below hb3 (by simp) e0
  have hc3 := (hc2.alloc hc2.size _).trans (hb3.mono (by have := hc2.size; simp; omega))
  have hsz3 : w2.heap.size < w3.heap.size := (Array.getElem?_eq_some_iff.1 hN3).1
  have hN4 := hb_alloc (o := .cells (four g0 g1 g2 g3) 31) hN3
  have hA4 := heap_alloc_new w3 (.cells (four g0 g1 g2 g3) 31)
  have hc4 := hc3.alloc hc3.size (.cells (four g0 g1 g2 g3) 31)
  clear e0 hb1 hb2 hb3 hc2 hc3
  go_wp2_with fail
  go_loopg [13, 14, 15, 16, 17, 18, 63] 2 (fun gh bv _ _ _ _ _ iv wr => ∃ (j : Nat) (b : Int), gh = 2 - j ∧ iv = .int .i64 j ∧ bv = .int .i64 b ∧ ((j = 0 ∧ b = -1) ∨ (j = 1 ∧ b = Vit.best0 g1 M0) ∨ (j = 2 ∧ b = c2)) ∧ wr.heap[w2.heap.size]? = some (.cells (four c0 c1 c2 c3) 31 (0, 0)) ∧ wr.heap[w3.heap.size]? = some (.cells (four g0 g1 g2 g3) 31 (0, 0)) ∧ Below w.heap.size w wr)
  case atStart => exact ⟨0, -1, rfl, rfl, rfl, .inl ⟨rfl, rfl⟩, hN4, hA4, hc4⟩
  case round =>
    obtain ⟨j, b, hg, rfl, rfl, hj, hN5, hA5, hb⟩ := hrel
    clear hN3 hN4 hA4 hc4
    have z0 := block_cell hA5 1 (.int .i64 g1) rfl
    have z1 := block_cell hA5 3 (.int .i64 g3) rfl
    have zw0 : IntKind.i64.wrap (M0 + g1) = M0 + g1 := IntWalk.i64_in _ (by omega)
    have zw1 : IntKind.i64.wrap (M1 + g3) = M1 + g3 := IntWalk.i64_in _ (by omega)
    have lN := (Array.getElem?_eq_some_iff.1 hN5).1
    have lA := (Array.getElem?_eq_some_iff.1 hA5).1
    rcases hj with ⟨rfl, rfl⟩ | ⟨rfl, hb0⟩ | ⟨rfl, hb0⟩
    · have HG := Lib.hid hg
      clear hg
      go_wp2_with fail
      refine (H0.out _).mono ?_
      rintro e w6 ⟨rfl, hw6⟩
      obtain rfl := hw6
      go_wp2_with fail
      first | rw [HX.out] | (rw [q5, q6]; rw [HX.out]) | skip
      refine (D0.out _).mono ?_
      rintro e w7 ⟨rfl, hb7⟩
      have hN7 := hb_below hb7 lN hN5
      have hA7 := hb_below hb7 lA hA5
      have y0 := block_cell hA7 1 (.int .i64 g1) rfl
      have hc7 := bchain hb hb7
      have HN7 := Lib.hid hN7
      have HA7 := Lib.hid hA7
      clear hN5 hA5 hb hb7 z0 z1 hN7 hA7
      by_cases hge : 0 ≤ g1
      · go_wp2_with fail
        go_roundg (2 - 1)
        case measure => have := HG.out; omega
        case rel => exact ⟨1, _, rfl, rfl, rfl, .inr (.inl ⟨rfl, by unfold Vit.best0; rw [if_pos (by omega)]⟩), HN7.out, HA7.out, hc7⟩
      · go_wp2_with fail
        go_roundg (2 - 1)
        case measure => have := HG.out; omega
        case rel => exact ⟨1, _, rfl, rfl, rfl, .inr (.inl ⟨rfl, by unfold Vit.best0; rw [if_neg (by omega)]⟩), HN7.out, HA7.out, hc7⟩
    · have HG := Lib.hid hg
      have hbr : -1 ≤ b ∧ b ≤ 100002 := by rw [hb0]; unfold Vit.best0; split <;> omega
      have HB0 := Lib.hid hb0
      clear hg hb0
      go_wp2_with fail
      refine (H1.out _).mono ?_
      rintro e w6 ⟨rfl, hw6⟩
      obtain rfl := hw6
      go_wp2_with fail
      first | rw [HX.out] | (rw [q5, q6]; rw [HX.out]) | skip
      refine (D1.out _).mono ?_
      rintro e w7 ⟨rfl, hb7⟩
      have hN7 := hb_below hb7 lN hN5
      have hA7 := hb_below hb7 lA hA5
      have y0 := block_cell hA7 3 (.int .i64 g3) rfl
      have hc7 := bchain hb hb7
      have HN7 := Lib.hid hN7
      have HA7 := Lib.hid hA7
      clear hN5 hA5 hb hb7 z0 z1 hN7 hA7
      by_cases hge : 0 ≤ g3
      · by_cases hbn : b < 0
        · go_wp2_with fail
          go_roundg (2 - 2)
          case measure => have := HG.out; omega
          case rel => exact ⟨2, _, rfl, rfl, rfl, .inr (.inr ⟨rfl, by rw [← HB.out, ← HB0.out]; unfold Vit.best1; rw [if_pos ⟨by omega, .inl (by omega)⟩]⟩), HN7.out, HA7.out, hc7⟩
        · by_cases hlt : M1 + g3 < b
          · go_wp2_with fail
            go_roundg (2 - 2)
            case measure => have := HG.out; omega
            case rel => exact ⟨2, _, rfl, rfl, rfl, .inr (.inr ⟨rfl, by rw [← HB.out, ← HB0.out]; unfold Vit.best1; rw [if_pos ⟨by omega, .inr (by omega)⟩]⟩), HN7.out, HA7.out, hc7⟩
          · go_wp2_with fail
            go_roundg (2 - 2)
            case measure => have := HG.out; omega
            case rel => exact ⟨2, _, rfl, rfl, rfl, .inr (.inr ⟨rfl, by rw [← HB.out, ← HB0.out]; unfold Vit.best1; rw [if_neg (by omega)]⟩), HN7.out, HA7.out, hc7⟩
      · go_wp2_with fail
        go_roundg (2 - 2)
        case measure => have := HG.out; omega
        case rel => exact ⟨2, _, rfl, rfl, rfl, .inr (.inr ⟨rfl, by rw [← HB.out, ← HB0.out]; unfold Vit.best1; rw [if_neg (by omega)]⟩), HN7.out, HA7.out, hc7⟩
    · have hb1 := hb0.symm
      subst hb1
      clear z0 z1 hg
      go_wp2_with fail
      refine (HL.out _).mono ?_
      rintro e w8 ⟨rfl, hb8⟩
      have hN8 := hb_alloc (o := .cells #[.int .i64 0, .int .i64 (-1), .int .i64 (-1), .int .i64 (-1)] 31) (hb_below hb8 lN hN5)
      have e8 := heap_alloc_new w8 (.cells #[.int .i64 0, .int .i64 (-1), .int .i64 (-1), .int .i64 (-1)] 31)
      have y0 := block_cell hN8 2 (.int .i64 c2) rfl
      have d0 := block_cell e8 0 (.int .i64 0) rfl
      have d1 := block_cell e8 1 (.int .i64 (-1)) rfl
      have d2 := block_cell e8 2 (.int .i64 (-1)) rfl
      have d3 := block_cell e8 3 (.int .i64 (-1)) rfl
      have hc8 := bchain hb hb8
      have hc9 := hc8.alloc hc8.size (.cells #[.int .i64 0, .int .i64 (-1), .int .i64 (-1), .int .i64 (-1)] 31)
      have hq : ∀ w, Sem.run Tryd.prog (Op.equalIn 10000 31 (.agg #[.int .i64 0, .int .i64 (-1), .int .i64 (-1), .int .i64 (-1)]) (.agg #[.int .i64 0, .int .i64 (-1), .int .i64 (-1), .int .i64 (-1)])) w = .ok true w := fun _ => by kernel_rfl
      clear hN5 hA5 hb hb8 hN8 e8 hc8
      go_wp2_with fail
      refine (awake_any _).mono ?_
      rintro e w9 ⟨rfl, hb9⟩
      go_wp2_with fail
      go_ret
      exact ⟨rfl, bchain hc9 hb9⟩

set_option maxRecDepth 100000 in
set_option maxHeartbeats 4000000 in
theorem tr_walk3 (a0 X Y0 Y1 : ByteArray) (a1 a2 n k : Nat) (S U : Vit.Stg) (hz : a0.size = 2 * n) (hn : 2 ≤ n) (hn2 : n ≤ 150) (hmod : (a1 : Int) % (n : Int) = (k : Int)) (hk : k < n) (hst : (a2 : Int) % 4 = 3) (ha1 : a1 < 256) (ha2 : a2 < 256)
    (hck : ∀ w, Calls Tryd.prog 14 #[.string a0] w fun e w' => e = .returned (.int .i64 0) ∧ Below w.heap.size w w')
    (hN : ∀ w, Calls Tryd.prog 16 #[.string a0, .int .i64 k] w fun e w' => e = .returned (.tuple #[.agg #[.int .i64 S.a.1, .int .i64 S.b.1, .int .i64 S.c.1, .int .i64 S.d.1], .int .i64 0]) ∧ Below w.heap.size w w')
    (hA : ∀ w, Calls Tryd.prog 16 #[.string a0, .int .i64 ((k : Int) + 1)] w fun e w' => e = .returned (.tuple #[.agg #[.int .i64 U.a.1, .int .i64 U.b.1, .int .i64 U.c.1, .int .i64 U.d.1], .int .i64 0]) ∧ Below w.heap.size w w')
    (hL : ∀ w, Calls Tryd.prog 16 #[.string a0, .int .i64 n] w fun e w' => e = .returned (.tuple #[.agg #[.int .i64 0, .int .i64 (-1), .int .i64 (-1), .int .i64 (-1)], .int .i64 0]) ∧ Below w.heap.size w w')
    (hn0 : ∀ w, Calls Tryd.prog 18 #[.int .i64 3, .int .i64 0] w fun e w' => e = .returned (.tuple #[.int .i64 1, .string Y0]) ∧ w' = w)
    (hn1 : ∀ w, Calls Tryd.prog 18 #[.int .i64 3, .int .i64 1] w fun e w' => e = .returned (.tuple #[.int .i64 3, .string Y1]) ∧ w' = w)
    (M0 M1 : Int) (m0 : 0 ≤ M0 ∧ M0 ≤ 2) (m1 : 0 ≤ M1 ∧ M1 ≤ 2)
    (hX : a0.extract (2 * k) (2 * k + 2) = X)
    (hd0 : ∀ w, Calls Tryd.prog 19 #[.string Y0, .string X] w fun e w' => e = .returned (.tuple #[.int .i64 M0, .int .i64 0]) ∧ Below w.heap.size w w')
    (hd1 : ∀ w, Calls Tryd.prog 19 #[.string Y1, .string X] w fun e w' => e = .returned (.tuple #[.int .i64 M1, .int .i64 0]) ∧ Below w.heap.size w w')
    (A B C : Int) (u0 : U.b.1 = A) (u1 : U.d.1 = B) (r0 : -1 ≤ A ∧ A ≤ 100000) (r1 : -1 ≤ B ∧ B ≤ 100000) (hC : S.d.1 = C) (hbest : Vit.best1 (Vit.best0 A M0) B M1 = C) (w : World) :
    Calls Tryd.prog 6 #[.string a0, .int .u8 a1, .int .u8 a2] w fun e w' => e = .returned (.bool true) ∧ Below w.heap.size w w' := by
  have c31 : Tryd.prog.cellsOf 31 = 4 := by kernel_rfl
  have HCK := Lib.hid hck
  have HN := Lib.hid hN
  have HA := Lib.hid hA
  have HL := Lib.hid hL
  have H0 := Lib.hid hn0
  have H1 := Lib.hid hn1
  have D0 := Lib.hid hd0
  have D1 := Lib.hid hd1
  have HX := Lib.hid hX
  have HB := Lib.hid hbest
  have hdiv : (a0.size : Int) / 2 = (n : Int) := by omega
  have h300 : (a0.size : Int) ≤ 300 := by omega
  have h4 : 4 ≤ (a0.size : Int) := by omega
  have hev : (a0.size : Int) % 2 = 0 := by omega
  have hkw : IntKind.i64.wrap ((k : Int) + 1) = (k : Int) + 1 := IntWalk.i64_in _ (by omega)
  have hk2 : IntKind.i64.wrap (2 * (k : Int)) = 2 * (k : Int) := IntWalk.i64_in _ (by omega)
  have hk3 : IntKind.i64.wrap (2 * (k : Int) + 2) = 2 * (k : Int) + 2 := IntWalk.i64_in _ (by omega)
  have q1 : (0 : Int) ≤ 2 * (k : Int) := by omega
  have q2 : (0 : Int) ≤ 2 * (k : Int) + 2 := by omega
  have q3 : 2 * (k : Int) + 2 ≤ (a0.size : Int) := by omega
  have q4 : 2 * (k : Int) ≤ 2 * (k : Int) + 2 := by omega
  have q5 : (2 * (k : Int)).toNat = 2 * k := by omega
  have q6 : (2 * (k : Int) + 2).toNat = 2 * k + 2 := by omega
  obtain ⟨⟨c0, p0⟩, ⟨c1, p1⟩, ⟨c2, p2⟩, ⟨c3, p3⟩⟩ := S
  obtain ⟨⟨g0, t0⟩, ⟨g1, t1⟩, ⟨g2, t2⟩, ⟨g3, t3⟩⟩ := U
  have HZ := Lib.hid hz
  simp only at u0 u1 hC
  subst u0 u1 hC
  clear hck hN hA hL hn0 hn1 hd0 hd1 hX hbest hz
  go_enter Tryd.func6, Tryd.ntmps6
  go_wp2_with fail
  refine (HCK.out _).mono ?_
  rintro e w1 ⟨rfl, hb1⟩
  go_wp2_with fail
  refine (HN.out _).mono ?_
  rintro e w2 ⟨rfl, hb2⟩
  have hc2 := bchain hb1 hb2
  have e0 := heap_alloc_new w2 (.cells (four c0 c1 c2 c3) 31)
  go_wp2_with fail
  refine (HA.out _).mono ?_
  rintro e w3 ⟨rfl, hb3⟩
  have hN3 := hb_below hb3 (by simp) e0
  have hc3 := (hc2.alloc hc2.size _).trans (hb3.mono (by have := hc2.size; simp; omega))
  have hsz3 : w2.heap.size < w3.heap.size := (Array.getElem?_eq_some_iff.1 hN3).1
  have hN4 := hb_alloc (o := .cells (four g0 g1 g2 g3) 31) hN3
  have hA4 := heap_alloc_new w3 (.cells (four g0 g1 g2 g3) 31)
  have hc4 := hc3.alloc hc3.size (.cells (four g0 g1 g2 g3) 31)
  clear e0 hb1 hb2 hb3 hc2 hc3
  go_wp2_with fail
  go_loopg [13, 14, 15, 16, 17, 18, 63] 2 (fun gh bv _ _ _ _ _ iv wr => ∃ (j : Nat) (b : Int), gh = 2 - j ∧ iv = .int .i64 j ∧ bv = .int .i64 b ∧ ((j = 0 ∧ b = -1) ∨ (j = 1 ∧ b = Vit.best0 g1 M0) ∨ (j = 2 ∧ b = c3)) ∧ wr.heap[w2.heap.size]? = some (.cells (four c0 c1 c2 c3) 31 (0, 0)) ∧ wr.heap[w3.heap.size]? = some (.cells (four g0 g1 g2 g3) 31 (0, 0)) ∧ Below w.heap.size w wr)
  case atStart => exact ⟨0, -1, rfl, rfl, rfl, .inl ⟨rfl, rfl⟩, hN4, hA4, hc4⟩
  case round =>
    obtain ⟨j, b, hg, rfl, rfl, hj, hN5, hA5, hb⟩ := hrel
    clear hN3 hN4 hA4 hc4
    have z0 := block_cell hA5 1 (.int .i64 g1) rfl
    have z1 := block_cell hA5 3 (.int .i64 g3) rfl
    have zw0 : IntKind.i64.wrap (M0 + g1) = M0 + g1 := IntWalk.i64_in _ (by omega)
    have zw1 : IntKind.i64.wrap (M1 + g3) = M1 + g3 := IntWalk.i64_in _ (by omega)
    have lN := (Array.getElem?_eq_some_iff.1 hN5).1
    have lA := (Array.getElem?_eq_some_iff.1 hA5).1
    rcases hj with ⟨rfl, rfl⟩ | ⟨rfl, hb0⟩ | ⟨rfl, hb0⟩
    · have HG := Lib.hid hg
      clear hg
      go_wp2_with fail
      refine (H0.out _).mono ?_
      rintro e w6 ⟨rfl, hw6⟩
      obtain rfl := hw6
      go_wp2_with fail
      first | rw [HX.out] | (rw [q5, q6]; rw [HX.out]) | skip
      refine (D0.out _).mono ?_
      rintro e w7 ⟨rfl, hb7⟩
      have hN7 := hb_below hb7 lN hN5
      have hA7 := hb_below hb7 lA hA5
      have y0 := block_cell hA7 1 (.int .i64 g1) rfl
      have hc7 := bchain hb hb7
      have HN7 := Lib.hid hN7
      have HA7 := Lib.hid hA7
      clear hN5 hA5 hb hb7 z0 z1 hN7 hA7
      by_cases hge : 0 ≤ g1
      · go_wp2_with fail
        go_roundg (2 - 1)
        case measure => have := HG.out; omega
        case rel => exact ⟨1, _, rfl, rfl, rfl, .inr (.inl ⟨rfl, by unfold Vit.best0; rw [if_pos (by omega)]⟩), HN7.out, HA7.out, hc7⟩
      · go_wp2_with fail
        go_roundg (2 - 1)
        case measure => have := HG.out; omega
        case rel => exact ⟨1, _, rfl, rfl, rfl, .inr (.inl ⟨rfl, by unfold Vit.best0; rw [if_neg (by omega)]⟩), HN7.out, HA7.out, hc7⟩
    · have HG := Lib.hid hg
      have hbr : -1 ≤ b ∧ b ≤ 100002 := by rw [hb0]; unfold Vit.best0; split <;> omega
      have HB0 := Lib.hid hb0
      clear hg hb0
      go_wp2_with fail
      refine (H1.out _).mono ?_
      rintro e w6 ⟨rfl, hw6⟩
      obtain rfl := hw6
      go_wp2_with fail
      first | rw [HX.out] | (rw [q5, q6]; rw [HX.out]) | skip
      refine (D1.out _).mono ?_
      rintro e w7 ⟨rfl, hb7⟩
      have hN7 := hb_below hb7 lN hN5
      have hA7 := hb_below hb7 lA hA5
      have y0 := block_cell hA7 3 (.int .i64 g3) rfl
      have hc7 := bchain hb hb7
      have HN7 := Lib.hid hN7
      have HA7 := Lib.hid hA7
      clear hN5 hA5 hb hb7 z0 z1 hN7 hA7
      by_cases hge : 0 ≤ g3
      · by_cases hbn : b < 0
        · go_wp2_with fail
          go_roundg (2 - 2)
          case measure => have := HG.out; omega
          case rel => exact ⟨2, _, rfl, rfl, rfl, .inr (.inr ⟨rfl, by rw [← HB.out, ← HB0.out]; unfold Vit.best1; rw [if_pos ⟨by omega, .inl (by omega)⟩]⟩), HN7.out, HA7.out, hc7⟩
        · by_cases hlt : M1 + g3 < b
          · go_wp2_with fail
            go_roundg (2 - 2)
            case measure => have := HG.out; omega
            case rel => exact ⟨2, _, rfl, rfl, rfl, .inr (.inr ⟨rfl, by rw [← HB.out, ← HB0.out]; unfold Vit.best1; rw [if_pos ⟨by omega, .inr (by omega)⟩]⟩), HN7.out, HA7.out, hc7⟩
          · go_wp2_with fail
            go_roundg (2 - 2)
            case measure => have := HG.out; omega
            case rel => exact ⟨2, _, rfl, rfl, rfl, .inr (.inr ⟨rfl, by rw [← HB.out, ← HB0.out]; unfold Vit.best1; rw [if_neg (by omega)]⟩), HN7.out, HA7.out, hc7⟩
      · go_wp2_with fail
        go_roundg (2 - 2)
        case measure => have := HG.out; omega
        case rel => exact ⟨2, _, rfl, rfl, rfl, .inr (.inr ⟨rfl, by rw [← HB.out, ← HB0.out]; unfold Vit.best1; rw [if_neg (by omega)]⟩), HN7.out, HA7.out, hc7⟩
    · have hb1 := hb0.symm
      subst hb1
      clear z0 z1 hg
      go_wp2_with fail
      refine (HL.out _).mono ?_
      rintro e w8 ⟨rfl, hb8⟩
      have hN8 := hb_alloc (o := .cells #[.int .i64 0, .int .i64 (-1), .int .i64 (-1), .int .i64 (-1)] 31) (hb_below hb8 lN hN5)
      have e8 := heap_alloc_new w8 (.cells #[.int .i64 0, .int .i64 (-1), .int .i64 (-1), .int .i64 (-1)] 31)
      have y0 := block_cell hN8 3 (.int .i64 c3) rfl
      have d0 := block_cell e8 0 (.int .i64 0) rfl
      have d1 := block_cell e8 1 (.int .i64 (-1)) rfl
      have d2 := block_cell e8 2 (.int .i64 (-1)) rfl
      have d3 := block_cell e8 3 (.int .i64 (-1)) rfl
      have hc8 := bchain hb hb8
      have hc9 := hc8.alloc hc8.size (.cells #[.int .i64 0, .int .i64 (-1), .int .i64 (-1), .int .i64 (-1)] 31)
      have hq : ∀ w, Sem.run Tryd.prog (Op.equalIn 10000 31 (.agg #[.int .i64 0, .int .i64 (-1), .int .i64 (-1), .int .i64 (-1)]) (.agg #[.int .i64 0, .int .i64 (-1), .int .i64 (-1), .int .i64 (-1)])) w = .ok true w := fun _ => by kernel_rfl
      clear hN5 hA5 hb hb8 hN8 e8 hc8
      go_wp2_with fail
      refine (awake_any _).mono ?_
      rintro e w9 ⟨rfl, hb9⟩
      go_wp2_with fail
      go_ret
      exact ⟨rfl, bchain hc9 hb9⟩

end Go.Proofs.YtnklgppfggkeoaaDoor
