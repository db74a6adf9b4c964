/-
  The walk of AgerCells. (Written by gen_aglaw9.py.)
-/
import Derived.Test.YtghpolfmhnnbaaaAgCntP
import Derived.Test.YtghpolfmhnnbaaaAgLaw4
import Derived.Lib.MinMax
namespace Go.Proofs.Ytghpolfmhnnbaaa
open Go.RowKit

theorem byte_at (x : List UInt8) (j : Nat) (h : j < x.length) : ∃ c, x[j]? = some c ∧ ∀ g : j < (⟨x.toArray⟩ : ByteArray).size, (⟨x.toArray⟩ : ByteArray)[j] = c := by
  obtain ⟨c, hc⟩ : ∃ c, x[j]? = some c := ⟨_, List.getElem?_eq_getElem h⟩
  refine ⟨c, hc, fun g => ?_⟩
  have h1 := get_of_lt ⟨x.toArray⟩ j g
  have h3 : (⟨x.toArray⟩ : ByteArray).data.toList = x := rfl
  rw [h3, hc] at h1
  exact (Option.some.inj h1).symm
theorem u8_ne {c e : UInt8} (h : c ≠ e) : ((c.toNat : Int) != (e.toNat : Int)) = true := by
  rw [bne_iff_ne]
  intro h2
  exact h (UInt8.toNat_inj.1 (by omega))

set_option maxHeartbeats 4000000 in
set_option maxRecDepth 100000 in
theorem cells_skip (k r p a l : Int) (ao : Option Addr) (cap : Nat) (rs : List Reel) (w : World) (hr : Reels w ao rs.length rs) (hn : rs.length ≤ 9223372036854775807) (hb : ∀ r ∈ rs, r.ps.length ≤ 9223372036854775807 ∧ ∀ x ∈ r.ps, x.length ≤ 9223372036854775807) (hs : ¬ smallR rs = true) :
    Calls Try.prog 8 #[.slice ao rs.length cap, .agg #[.int .i64 k, .int .i64 r, .int .i64 p, .int .i64 a, .int .i64 l]] w fun e w' => e = .returned (.bool true) ∧ Below w.heap.size w w' := by
  obtain ⟨W, hW, hbW, hzW, d0, d1, d2, d3, d4⟩ := dbox w k r p a l
  have HG := great_at (cap := cap) (hr.below hbW) hb hn 1 (if_neg hs)
  clear hr hb hs hzW
  go_enter Try.func8, Try.ntmps8
  go_wp2_with fail
  refine HG.out.mono ?_
  rintro e w1 ⟨rfl, rfl⟩
  go_wp2_with fail
  refine (awake59_any _).mono ?_
  rintro e w2 ⟨rfl, hb2⟩
  go_wp2_with fail
  go_ret
  exact ⟨rfl, hbW.trans (hb2.mono hbW.size)⟩
set_option maxHeartbeats 4000000 in
set_option maxRecDepth 100000 in
theorem cells_other (k r p a l : Int) (ao : Option Addr) (cap : Nat) (rs : List Reel) (w : World) (hr : Reels w ao rs.length rs) (hn : rs.length ≤ 9223372036854775807) (hb : ∀ r ∈ rs, r.ps.length ≤ 9223372036854775807 ∧ ∀ x ∈ r.ps, x.length ≤ 9223372036854775807) (hs : smallR rs = true) (hk1 : (k != 1) = true) (hk2 : (k != 2) = true) (hk8 : (k != 8) = true) :
    Calls Try.prog 8 #[.slice ao rs.length cap, .agg #[.int .i64 k, .int .i64 r, .int .i64 p, .int .i64 a, .int .i64 l]] w fun e w' => e = .returned (.bool true) ∧ Below w.heap.size w w' := by
  obtain ⟨W, hW, hbW, hzW, d0, d1, d2, d3, d4⟩ := dbox w k r p a l
  have HG := great_at (cap := cap) (hr.below hbW) hb hn 0 (if_pos hs)
  clear hr hb hs hzW
  go_enter Try.func8, Try.ntmps8
  go_wp2_with fail
  refine HG.out.mono ?_
  rintro e w1 ⟨rfl, rfl⟩
  go_wp2_with fail
  refine (awake59_any _).mono ?_
  rintro e w2 ⟨rfl, hb2⟩
  go_wp2_with fail
  go_ret
  exact ⟨rfl, hbW.trans (hb2.mono hbW.size)⟩

set_option maxHeartbeats 8000000 in
set_option maxRecDepth 100000 in
theorem cells_1 (r p a l : Int) (ao : Option Addr) (cap : Nat) (rs : List Reel) (w : World) (hr : Reels w ao rs.length rs) (hs : smallR rs = true) (hl : l ≤ 9223372036854775807) :
    Calls Try.prog 8 #[.slice ao rs.length cap, .agg #[.int .i64 1, .int .i64 r, .int .i64 p, .int .i64 a, .int .i64 l]] w fun e w' => e = .returned (.bool true) ∧ Below w.heap.size w w' := by
  obtain ⟨hl6, hps, hf⟩ := small_fine hs
  obtain ⟨W, hW, hbW, hzW, b0, b1, b2, b3, b4⟩ := dbox w 1 r p a l
  have HR := Lib.hid (hr.below hbW)
  have HG := great_at (cap := cap) HR.out (fun r hr => ⟨by have := (hps r hr).1; omega, fun x hx => by have := (hps r hr).2 x hx; omega⟩) (by omega) 0 (if_pos hs)
  have ha := apply_r ao rs.length cap rs 1 r p a l W HR.out hf hl (fun _ => burst8)
  have hlen := applyR_len (d := ⟨1, r, p, a, l⟩) (show (1 : Int) ≠ 4 by decide) rs
  obtain ⟨hget, hfew⟩ := cells_law (d := ⟨1, r, p, a, l⟩) (show (1 : Int) = 1 ∨ (1 : Int) = 2 ∨ (1 : Int) = 8 by decide) rs
  rw [hlen] at ha
  generalize applyR rs ⟨1, r, p, a, l⟩ = ss at *
  have HA := Lib.hid ha
  have HGET := Lib.hid hget
  have HPS := Lib.hid hps
  have HD3 := Lib.hid (fun i => d3_le (ss := ss) hps i)
  have HMOST : Hid (d3 rs ss rs.length ≤ 1) := hfew _
  have hlw : w.heap.size < W.heap.size := by omega
  have hne : ((rs.length : Int) != (rs.length : Int)) = false := by rw [bne_eq_false_iff_eq]
  have _hmx := hl
  clear hr hs hf hps hzW hlen hget ha hfew
  go_enter Try.func8, Try.ntmps8
  go_wp2_with fail
  refine HG.out.mono ?_
  rintro e w1 ⟨rfl, rfl⟩
  go_wp2_with fail
  refine HA.out.mono ?_
  rintro e w2 ⟨a2, c2, rfl, hr2, _, _, hb2⟩
  have e0 := (hb2.cell (p := ⟨w.heap.size, 0, none⟩) hlw).trans b0
  have e4 := (hb2.cell (p := ⟨w.heap.size, 4, none⟩) hlw).trans b4
  have HR2 := Lib.hid hr2.2
  have HR1 := Lib.hid (HR.out.below hb2).2
  have hbw2 := hbW.trans (hb2.mono hbW.size)
  clear hr2 b0 b1 b2 b3 b4
  go_wp2_with fail
  go_loopw [6, 41] (fun c i wr => ∃ k q : Nat, k ≤ rs.length ∧ c = .int .i64 (d3 rs ss k : Nat) ∧ i = .int .i64 k ∧ wr = w2.drewN q) (fun _ i _ => rs.length - (intOf i).toNat)
  case atStart => exact ⟨0, 0, Nat.zero_le _, rfl, rfl, rfl⟩
  case round =>
    obtain ⟨k, q, hk, rfl, rfl, rfl⟩ := hrel
    by_cases hlt : k < rs.length
    · obtain ⟨x, hx⟩ : ∃ x, rs[k]? = some x := ⟨_, List.getElem?_eq_getElem hlt⟩
      obtain ⟨y, hy, hyl, hyx⟩ := HGET.out k x hx
      obtain ⟨g1, o1, hao, _, ap, cp, x1, _, s1⟩ := HR2.out k y hy
      obtain ⟨g2, o2, hbo, _, bp, dp, y1, _, s2⟩ := HR1.out k x hx
      subst hao hbo
      have hp2 := HPS.out x (List.mem_of_getElem? hx)
      have S1 := Lib.hid s1.2
      have S2 := Lib.hid s2.2
      have h9 : (k : Int) < (rs.length : Int) := by omega
      have hpl : x.ps.length ≤ 6 := hp2.1
      have HP2 := Lib.hid hp2.2
      have HYX := Lib.hid hyx
      have HSUC := Lib.hid (d3_succ hx hy)
      have HD2 := Lib.hid (fun i => d2_le (qs := y.ps) hp2.2 i)
      have hd3 := HD3.out k
      rw [hyl] at x1
      have hnp : ((x.ps.length : Int) != (x.ps.length : Int)) = false := by rw [bne_eq_false_iff_eq]
      obtain ⟨C, hC⟩ : ∃ C, d3 rs ss k = C := ⟨_, rfl⟩
      rw [hC] at HSUC hd3 ⊢
      clear hC hx hy hyx s1 s2 hp2 hyl
      have hCb : C ≤ 6 * 1200 := by omega
      generalize x.ps = X at *
      generalize y.ps = Y at *
      go_wp2_with fail
      go_quiet (fail)
      go_wp2_with fail
      go_loopw [6, 63] (fun c i wr => ∃ m q : Nat, m ≤ X.length ∧ c = .int .i64 (C + d2 X Y m : Nat) ∧ i = .int .i64 m ∧ wr = w2.drewN q) (fun _ i _ => X.length - (intOf i).toNat)
      case atStart => exact ⟨0, q + nq, Nat.zero_le _, rfl, rfl, by first | rfl | simp⟩
      case round =>
        obtain ⟨m, q2, hm, rfl, rfl, rfl⟩ := hrel
        by_cases hmt : m < X.length
        · obtain ⟨u, hu⟩ : ∃ u, X[m]? = some u := ⟨_, List.getElem?_eq_getElem hmt⟩
          obtain ⟨v, hv, hvl⟩ := HYX.out m u hu
          obtain ⟨g3, o3, rfl, u1⟩ := S2.out m u hu
          obtain ⟨g4, o4, rfl, v1⟩ := S1.out m v hv
          have h10 : (m : Int) < (X.length : Int) := by omega
          have hu2 := HP2.out u (List.mem_of_getElem? hu)
          have HSUC2 := Lib.hid (d2_succ hu hv)
          have hd2 := HD2.out m
          have hd2b := HD2.out X.length
          have hus : (⟨u.toArray⟩ : ByteArray).size = u.length := mk_size u
          have hvs : (⟨v.toArray⟩ : ByteArray).size = u.length := (mk_size v).trans hvl
          have hnl : (((⟨v.toArray⟩ : ByteArray).size : Int) != ((⟨u.toArray⟩ : ByteArray).size : Int)) = false := by rw [bne_eq_false_iff_eq]; omega
          obtain ⟨D, hD⟩ : ∃ D, C + d2 X Y m = D := ⟨_, rfl⟩
          have hDb : D ≤ 10000 := by omega
          have HD := Lib.hid hD
          have HB1 := Lib.hid (byte_at u)
          have HB2 := Lib.hid (fun j h => byte_at v j h)
          rw [hD]
          clear hD hu hv hd2 hd2b
          generalize (⟨u.toArray⟩ : ByteArray) = U at *
          generalize (⟨v.toArray⟩ : ByteArray) = V at *
          go_wp2_with fail
          go_loopw [6, 82] (fun c i wr => ∃ j q : Nat, j ≤ u.length ∧ c = .int .i64 (D + d1 u v j : Nat) ∧ i = .int .i64 j ∧ wr = w2.drewN q) (fun _ i _ => u.length - (intOf i).toNat)
          case atStart => exact ⟨0, q2, Nat.zero_le _, rfl, rfl, by first | rfl | simp⟩
          case round =>
            obtain ⟨j, q3, hj, rfl, rfl, rfl⟩ := hrel
            by_cases hjt : j < u.length
            · obtain ⟨c, hc, hc1⟩ := HB1.out j hjt
              obtain ⟨e, he, he1⟩ := HB2.out j (by omega)
              have hju : j < U.size := by omega
              have hjv : j < V.size := by omega
              have hju2 : (j : Int) < (U.size : Int) := by omega
              have hjv2 : (j : Int) < (V.size : Int) := by omega
              have hc2 := hc1 hju
              have he2 := he1 hjv
              have r1 : ∀ Q : World, (Instr.index 9 (.string U) (.int .i64 j)).run Try.prog Q = .ok (.int .u8 c.toNat) Q := fun Q => by
                have := hc2
                go_simp
              have r2 : ∀ Q : World, (Instr.index 9 (.string V) (.int .i64 j)).run Try.prog Q = .ok (.int .u8 e.toNat) Q := fun Q => by
                have := he2
                go_simp
              have hd1 := d1_le u v j
              by_cases hce : e = c
              · subst hce
                have hsuc : d1 u v (j + 1) = d1 u v j := by rw [d1_succ, hc, he, if_pos rfl]; rfl
                have HS1 := Lib.hid hsuc
                have hne8 : ((e.toNat : Int) != (e.toNat : Int)) = false := by rw [bne_eq_false_iff_eq]
                clear hc he hc1 he1 hsuc
                go_wp2_with fail
                go_quiet (fail)
                go_wp2_with fail
                go_roundw
                case rel => first | exact ⟨j + 1, q3 + nq, by omega, by rw [HS1.out], by go_num, by first | rfl | simp⟩ | ((repeat apply Exists.intro); exact ⟨⟨j + 1, q3 + nq, by omega, by rw [HS1.out], by go_num, by first | rfl | simp⟩, rfl⟩)
                case measure => simp [intOf]; omega
              · have hsuc : d1 u v (j + 1) = d1 u v j + 1 := by rw [d1_succ, hc, he, if_neg (by simp; exact fun h => hce h.symm)]
                have HS1 := Lib.hid hsuc
                have hne8 := u8_ne hce
                have hwr : IntKind.i64.wrap (((D + d1 u v j : Nat) : Int) + 1) = ((D + d1 u v j : Nat) : Int) + 1 := IntWalk.i64_in _ (by omega)
                have hE : ((D + d1 u v j : Nat) : Int) + 1 = ((D + d1 u v (j + 1) : Nat) : Int) := by rw [HS1.out]; omega
                have HE := Lib.hid hE
                obtain ⟨Z, hZ⟩ : ∃ Z, D + d1 u v j = Z := ⟨_, rfl⟩
                rw [hZ] at hwr HE ⊢
                clear hc he hc1 he1 hsuc hE hZ
                go_wp2_with fail
                go_quiet (fail)
                go_wp2_with fail
                go_roundw
                case rel => first | exact ⟨j + 1, q3 + nq, by omega, by rw [← HE.out], by go_num, by first | rfl | simp⟩ | ((repeat apply Exists.intro); exact ⟨⟨j + 1, q3 + nq, by omega, by rw [← HE.out], by go_num, by first | rfl | simp⟩, rfl⟩)
                case measure => simp [intOf]; omega
            · obtain rfl : j = u.length := by omega
              have hE : D + d1 u v u.length = C + d2 X Y (m + 1) := by rw [HSUC2.out, ← HD.out]; omega
              rw [hE]
              have hju2 : ¬ ((u.length : Int) < (U.size : Int)) := by omega
              go_wp2_with fail
              go_roundw
              case rel => first | exact ⟨m + 1, q3, by omega, rfl, by go_num, by first | rfl | simp⟩ | ((repeat apply Exists.intro); exact ⟨⟨m + 1, q3, by omega, rfl, by go_num, by first | rfl | simp⟩, rfl⟩)
              case measure => simp [intOf]; omega
        · obtain rfl : m = X.length := by omega
          have hE : C + d2 X Y X.length = d3 rs ss (k + 1) := by rw [HSUC.out]
          rw [hE]
          go_wp2_with fail
          go_roundw
          case rel => first | exact ⟨k + 1, q2, by omega, rfl, by go_num, by first | rfl | simp⟩ | ((repeat apply Exists.intro); exact ⟨⟨k + 1, q2, by omega, rfl, by go_num, by first | rfl | simp⟩, rfl⟩)
          case measure => simp [intOf]; omega
    · obtain rfl : k = rs.length := by omega
      have hm1 := HMOST.out
      obtain ⟨C, hC⟩ : ∃ C, d3 rs ss rs.length = C := ⟨_, rfl⟩
      rw [hC] at hm1 ⊢
      have hm2 : (C : Int) ≤ 1 := by omega
      clear hC
      go_wp2_with fail
      refine (awake59_any _).mono ?_
      rintro e w5 ⟨rfl, hb5⟩
      go_wp2_with fail
      go_ret
      exact ⟨rfl, (below_drewN hbw2 q).trans (hb5.mono hbw2.size)⟩

set_option maxHeartbeats 8000000 in
set_option maxRecDepth 100000 in
theorem cells_2 (r p a l : Int) (ao : Option Addr) (cap : Nat) (rs : List Reel) (w : World) (hr : Reels w ao rs.length rs) (hs : smallR rs = true) (hl : l ≤ 9223372036854775807) :
    Calls Try.prog 8 #[.slice ao rs.length cap, .agg #[.int .i64 2, .int .i64 r, .int .i64 p, .int .i64 a, .int .i64 l]] w fun e w' => e = .returned (.bool true) ∧ Below w.heap.size w w' := by
  obtain ⟨hl6, hps, hf⟩ := small_fine hs
  obtain ⟨W, hW, hbW, hzW, b0, b1, b2, b3, b4⟩ := dbox w 2 r p a l
  have HR := Lib.hid (hr.below hbW)
  have HG := great_at (cap := cap) HR.out (fun r hr => ⟨by have := (hps r hr).1; omega, fun x hx => by have := (hps r hr).2 x hx; omega⟩) (by omega) 0 (if_pos hs)
  have ha := apply_r ao rs.length cap rs 2 r p a l W HR.out hf hl (fun _ => burst8)
  have hlen := applyR_len (d := ⟨2, r, p, a, l⟩) (show (2 : Int) ≠ 4 by decide) rs
  obtain ⟨hget, hfew⟩ := cells_law (d := ⟨2, r, p, a, l⟩) (show (2 : Int) = 1 ∨ (2 : Int) = 2 ∨ (2 : Int) = 8 by decide) rs
  rw [hlen] at ha
  generalize applyR rs ⟨2, r, p, a, l⟩ = ss at *
  have HA := Lib.hid ha
  have HGET := Lib.hid hget
  have HPS := Lib.hid hps
  have HD3 := Lib.hid (fun i => d3_le (ss := ss) hps i)
  have HMOST : Hid (d3 rs ss rs.length ≤ 1) := hfew _
  have hlw : w.heap.size < W.heap.size := by omega
  have hne : ((rs.length : Int) != (rs.length : Int)) = false := by rw [bne_eq_false_iff_eq]
  have _hmx := hl
  clear hr hs hf hps hzW hlen hget ha hfew
  go_enter Try.func8, Try.ntmps8
  go_wp2_with fail
  refine HG.out.mono ?_
  rintro e w1 ⟨rfl, rfl⟩
  go_wp2_with fail
  refine HA.out.mono ?_
  rintro e w2 ⟨a2, c2, rfl, hr2, _, _, hb2⟩
  have e0 := (hb2.cell (p := ⟨w.heap.size, 0, none⟩) hlw).trans b0
  have e4 := (hb2.cell (p := ⟨w.heap.size, 4, none⟩) hlw).trans b4
  have HR2 := Lib.hid hr2.2
  have HR1 := Lib.hid (HR.out.below hb2).2
  have hbw2 := hbW.trans (hb2.mono hbW.size)
  clear hr2 b0 b1 b2 b3 b4
  go_wp2_with fail
  go_loopw [6, 41] (fun c i wr => ∃ k q : Nat, k ≤ rs.length ∧ c = .int .i64 (d3 rs ss k : Nat) ∧ i = .int .i64 k ∧ wr = w2.drewN q) (fun _ i _ => rs.length - (intOf i).toNat)
  case atStart => exact ⟨0, 0, Nat.zero_le _, rfl, rfl, rfl⟩
  case round =>
    obtain ⟨k, q, hk, rfl, rfl, rfl⟩ := hrel
    by_cases hlt : k < rs.length
    · obtain ⟨x, hx⟩ : ∃ x, rs[k]? = some x := ⟨_, List.getElem?_eq_getElem hlt⟩
      obtain ⟨y, hy, hyl, hyx⟩ := HGET.out k x hx
      obtain ⟨g1, o1, hao, _, ap, cp, x1, _, s1⟩ := HR2.out k y hy
      obtain ⟨g2, o2, hbo, _, bp, dp, y1, _, s2⟩ := HR1.out k x hx
      subst hao hbo
      have hp2 := HPS.out x (List.mem_of_getElem? hx)
      have S1 := Lib.hid s1.2
      have S2 := Lib.hid s2.2
      have h9 : (k : Int) < (rs.length : Int) := by omega
      have hpl : x.ps.length ≤ 6 := hp2.1
      have HP2 := Lib.hid hp2.2
      have HYX := Lib.hid hyx
      have HSUC := Lib.hid (d3_succ hx hy)
      have HD2 := Lib.hid (fun i => d2_le (qs := y.ps) hp2.2 i)
      have hd3 := HD3.out k
      rw [hyl] at x1
      have hnp : ((x.ps.length : Int) != (x.ps.length : Int)) = false := by rw [bne_eq_false_iff_eq]
      obtain ⟨C, hC⟩ : ∃ C, d3 rs ss k = C := ⟨_, rfl⟩
      rw [hC] at HSUC hd3 ⊢
      clear hC hx hy hyx s1 s2 hp2 hyl
      have hCb : C ≤ 6 * 1200 := by omega
      generalize x.ps = X at *
      generalize y.ps = Y at *
      go_wp2_with fail
      go_quiet (fail)
      go_wp2_with fail
      go_loopw [6, 63] (fun c i wr => ∃ m q : Nat, m ≤ X.length ∧ c = .int .i64 (C + d2 X Y m : Nat) ∧ i = .int .i64 m ∧ wr = w2.drewN q) (fun _ i _ => X.length - (intOf i).toNat)
      case atStart => exact ⟨0, q + nq, Nat.zero_le _, rfl, rfl, by first | rfl | simp⟩
      case round =>
        obtain ⟨m, q2, hm, rfl, rfl, rfl⟩ := hrel
        by_cases hmt : m < X.length
        · obtain ⟨u, hu⟩ : ∃ u, X[m]? = some u := ⟨_, List.getElem?_eq_getElem hmt⟩
          obtain ⟨v, hv, hvl⟩ := HYX.out m u hu
          obtain ⟨g3, o3, rfl, u1⟩ := S2.out m u hu
          obtain ⟨g4, o4, rfl, v1⟩ := S1.out m v hv
          have h10 : (m : Int) < (X.length : Int) := by omega
          have hu2 := HP2.out u (List.mem_of_getElem? hu)
          have HSUC2 := Lib.hid (d2_succ hu hv)
          have hd2 := HD2.out m
          have hd2b := HD2.out X.length
          have hus : (⟨u.toArray⟩ : ByteArray).size = u.length := mk_size u
          have hvs : (⟨v.toArray⟩ : ByteArray).size = u.length := (mk_size v).trans hvl
          have hnl : (((⟨v.toArray⟩ : ByteArray).size : Int) != ((⟨u.toArray⟩ : ByteArray).size : Int)) = false := by rw [bne_eq_false_iff_eq]; omega
          obtain ⟨D, hD⟩ : ∃ D, C + d2 X Y m = D := ⟨_, rfl⟩
          have hDb : D ≤ 10000 := by omega
          have HD := Lib.hid hD
          have HB1 := Lib.hid (byte_at u)
          have HB2 := Lib.hid (fun j h => byte_at v j h)
          rw [hD]
          clear hD hu hv hd2 hd2b
          generalize (⟨u.toArray⟩ : ByteArray) = U at *
          generalize (⟨v.toArray⟩ : ByteArray) = V at *
          go_wp2_with fail
          go_loopw [6, 82] (fun c i wr => ∃ j q : Nat, j ≤ u.length ∧ c = .int .i64 (D + d1 u v j : Nat) ∧ i = .int .i64 j ∧ wr = w2.drewN q) (fun _ i _ => u.length - (intOf i).toNat)
          case atStart => exact ⟨0, q2, Nat.zero_le _, rfl, rfl, by first | rfl | simp⟩
          case round =>
            obtain ⟨j, q3, hj, rfl, rfl, rfl⟩ := hrel
            by_cases hjt : j < u.length
            · obtain ⟨c, hc, hc1⟩ := HB1.out j hjt
              obtain ⟨e, he, he1⟩ := HB2.out j (by omega)
              have hju : j < U.size := by omega
              have hjv : j < V.size := by omega
              have hju2 : (j : Int) < (U.size : Int) := by omega
              have hjv2 : (j : Int) < (V.size : Int) := by omega
              have hc2 := hc1 hju
              have he2 := he1 hjv
              have r1 : ∀ Q : World, (Instr.index 9 (.string U) (.int .i64 j)).run Try.prog Q = .ok (.int .u8 c.toNat) Q := fun Q => by
                have := hc2
                go_simp
              have r2 : ∀ Q : World, (Instr.index 9 (.string V) (.int .i64 j)).run Try.prog Q = .ok (.int .u8 e.toNat) Q := fun Q => by
                have := he2
                go_simp
              have hd1 := d1_le u v j
              by_cases hce : e = c
              · subst hce
                have hsuc : d1 u v (j + 1) = d1 u v j := by rw [d1_succ, hc, he, if_pos rfl]; rfl
                have HS1 := Lib.hid hsuc
                have hne8 : ((e.toNat : Int) != (e.toNat : Int)) = false := by rw [bne_eq_false_iff_eq]
                clear hc he hc1 he1 hsuc
                go_wp2_with fail
                go_quiet (fail)
                go_wp2_with fail
                go_roundw
                case rel => first | exact ⟨j + 1, q3 + nq, by omega, by rw [HS1.out], by go_num, by first | rfl | simp⟩ | ((repeat apply Exists.intro); exact ⟨⟨j + 1, q3 + nq, by omega, by rw [HS1.out], by go_num, by first | rfl | simp⟩, rfl⟩)
                case measure => simp [intOf]; omega
              · have hsuc : d1 u v (j + 1) = d1 u v j + 1 := by rw [d1_succ, hc, he, if_neg (by simp; exact fun h => hce h.symm)]
                have HS1 := Lib.hid hsuc
                have hne8 := u8_ne hce
                have hwr : IntKind.i64.wrap (((D + d1 u v j : Nat) : Int) + 1) = ((D + d1 u v j : Nat) : Int) + 1 := IntWalk.i64_in _ (by omega)
                have hE : ((D + d1 u v j : Nat) : Int) + 1 = ((D + d1 u v (j + 1) : Nat) : Int) := by rw [HS1.out]; omega
                have HE := Lib.hid hE
                obtain ⟨Z, hZ⟩ : ∃ Z, D + d1 u v j = Z := ⟨_, rfl⟩
                rw [hZ] at hwr HE ⊢
                clear hc he hc1 he1 hsuc hE hZ
                go_wp2_with fail
                go_quiet (fail)
                go_wp2_with fail
                go_roundw
                case rel => first | exact ⟨j + 1, q3 + nq, by omega, by rw [← HE.out], by go_num, by first | rfl | simp⟩ | ((repeat apply Exists.intro); exact ⟨⟨j + 1, q3 + nq, by omega, by rw [← HE.out], by go_num, by first | rfl | simp⟩, rfl⟩)
                case measure => simp [intOf]; omega
            · obtain rfl : j = u.length := by omega
              have hE : D + d1 u v u.length = C + d2 X Y (m + 1) := by rw [HSUC2.out, ← HD.out]; omega
              rw [hE]
              have hju2 : ¬ ((u.length : Int) < (U.size : Int)) := by omega
              go_wp2_with fail
              go_roundw
              case rel => first | exact ⟨m + 1, q3, by omega, rfl, by go_num, by first | rfl | simp⟩ | ((repeat apply Exists.intro); exact ⟨⟨m + 1, q3, by omega, rfl, by go_num, by first | rfl | simp⟩, rfl⟩)
              case measure => simp [intOf]; omega
        · obtain rfl : m = X.length := by omega
          have hE : C + d2 X Y X.length = d3 rs ss (k + 1) := by rw [HSUC.out]
          rw [hE]
          go_wp2_with fail
          go_roundw
          case rel => first | exact ⟨k + 1, q2, by omega, rfl, by go_num, by first | rfl | simp⟩ | ((repeat apply Exists.intro); exact ⟨⟨k + 1, q2, by omega, rfl, by go_num, by first | rfl | simp⟩, rfl⟩)
          case measure => simp [intOf]; omega
    · obtain rfl : k = rs.length := by omega
      have hm1 := HMOST.out
      obtain ⟨C, hC⟩ : ∃ C, d3 rs ss rs.length = C := ⟨_, rfl⟩
      rw [hC] at hm1 ⊢
      have hm2 : (C : Int) ≤ 1 := by omega
      clear hC
      go_wp2_with fail
      refine (awake59_any _).mono ?_
      rintro e w5 ⟨rfl, hb5⟩
      go_wp2_with fail
      go_ret
      exact ⟨rfl, (below_drewN hbw2 q).trans (hb5.mono hbw2.size)⟩

set_option maxHeartbeats 8000000 in
set_option maxRecDepth 100000 in
theorem cells_8 (r p a l : Int) (ao : Option Addr) (cap : Nat) (rs : List Reel) (w : World) (hr : Reels w ao rs.length rs) (hs : smallR rs = true) (hl : l ≤ 9223372036854775807) :
    Calls Try.prog 8 #[.slice ao rs.length cap, .agg #[.int .i64 8, .int .i64 r, .int .i64 p, .int .i64 a, .int .i64 l]] w fun e w' => e = .returned (.bool true) ∧ Below w.heap.size w w' := by
  obtain ⟨hl6, hps, hf⟩ := small_fine hs
  obtain ⟨W, hW, hbW, hzW, b0, b1, b2, b3, b4⟩ := dbox w 8 r p a l
  have HR := Lib.hid (hr.below hbW)
  have HG := great_at (cap := cap) HR.out (fun r hr => ⟨by have := (hps r hr).1; omega, fun x hx => by have := (hps r hr).2 x hx; omega⟩) (by omega) 0 (if_pos hs)
  have ha := apply_r ao rs.length cap rs 8 r p a l W HR.out hf hl (fun _ => burst8)
  have hlen := applyR_len (d := ⟨8, r, p, a, l⟩) (show (8 : Int) ≠ 4 by decide) rs
  obtain ⟨hget, hfew⟩ := cells_law (d := ⟨8, r, p, a, l⟩) (show (8 : Int) = 1 ∨ (8 : Int) = 2 ∨ (8 : Int) = 8 by decide) rs
  rw [hlen] at ha
  generalize applyR rs ⟨8, r, p, a, l⟩ = ss at *
  have HA := Lib.hid ha
  have HGET := Lib.hid hget
  have HPS := Lib.hid hps
  have HD3 := Lib.hid (fun i => d3_le (ss := ss) hps i)
  have HMOST : Hid (d3 rs ss rs.length ≤ l.toNat) := hfew _
  have hlw : w.heap.size < W.heap.size := by omega
  have hne : ((rs.length : Int) != (rs.length : Int)) = false := by rw [bne_eq_false_iff_eq]
  have hmx : ∀ (ts : Array TypeId) (t : TypeId) (W : World), (Builtin.max_ ts t #[.int .i64 l, .int .i64 0]).run Try.prog W = .ok (.int .i64 (l.toNat : Int)) W := fun ts t W => by rw [Lib.run_max_ints, show max l 0 = (l.toNat : Int) by omega]
  clear hr hs hf hps hzW hlen hget ha hfew
  go_enter Try.func8, Try.ntmps8
  go_wp2_with fail
  refine HG.out.mono ?_
  rintro e w1 ⟨rfl, rfl⟩
  go_wp2_with fail
  refine HA.out.mono ?_
  rintro e w2 ⟨a2, c2, rfl, hr2, _, _, hb2⟩
  have e0 := (hb2.cell (p := ⟨w.heap.size, 0, none⟩) hlw).trans b0
  have e4 := (hb2.cell (p := ⟨w.heap.size, 4, none⟩) hlw).trans b4
  have HR2 := Lib.hid hr2.2
  have HR1 := Lib.hid (HR.out.below hb2).2
  have hbw2 := hbW.trans (hb2.mono hbW.size)
  clear hr2 b0 b1 b2 b3 b4
  go_wp2_with fail
  go_loopw [6, 41] (fun c i wr => ∃ k q : Nat, k ≤ rs.length ∧ c = .int .i64 (d3 rs ss k : Nat) ∧ i = .int .i64 k ∧ wr = w2.drewN q) (fun _ i _ => rs.length - (intOf i).toNat)
  case atStart => exact ⟨0, 0, Nat.zero_le _, rfl, rfl, rfl⟩
  case round =>
    obtain ⟨k, q, hk, rfl, rfl, rfl⟩ := hrel
    by_cases hlt : k < rs.length
    · obtain ⟨x, hx⟩ : ∃ x, rs[k]? = some x := ⟨_, List.getElem?_eq_getElem hlt⟩
      obtain ⟨y, hy, hyl, hyx⟩ := HGET.out k x hx
      obtain ⟨g1, o1, hao, _, ap, cp, x1, _, s1⟩ := HR2.out k y hy
      obtain ⟨g2, o2, hbo, _, bp, dp, y1, _, s2⟩ := HR1.out k x hx
      subst hao hbo
      have hp2 := HPS.out x (List.mem_of_getElem? hx)
      have S1 := Lib.hid s1.2
      have S2 := Lib.hid s2.2
      have h9 : (k : Int) < (rs.length : Int) := by omega
      have hpl : x.ps.length ≤ 6 := hp2.1
      have HP2 := Lib.hid hp2.2
      have HYX := Lib.hid hyx
      have HSUC := Lib.hid (d3_succ hx hy)
      have HD2 := Lib.hid (fun i => d2_le (qs := y.ps) hp2.2 i)
      have hd3 := HD3.out k
      rw [hyl] at x1
      have hnp : ((x.ps.length : Int) != (x.ps.length : Int)) = false := by rw [bne_eq_false_iff_eq]
      obtain ⟨C, hC⟩ : ∃ C, d3 rs ss k = C := ⟨_, rfl⟩
      rw [hC] at HSUC hd3 ⊢
      clear hC hx hy hyx s1 s2 hp2 hyl
      have hCb : C ≤ 6 * 1200 := by omega
      generalize x.ps = X at *
      generalize y.ps = Y at *
      go_wp2_with fail
      go_quiet (fail)
      go_wp2_with fail
      go_loopw [6, 63] (fun c i wr => ∃ m q : Nat, m ≤ X.length ∧ c = .int .i64 (C + d2 X Y m : Nat) ∧ i = .int .i64 m ∧ wr = w2.drewN q) (fun _ i _ => X.length - (intOf i).toNat)
      case atStart => exact ⟨0, q + nq, Nat.zero_le _, rfl, rfl, by first | rfl | simp⟩
      case round =>
        obtain ⟨m, q2, hm, rfl, rfl, rfl⟩ := hrel
        by_cases hmt : m < X.length
        · obtain ⟨u, hu⟩ : ∃ u, X[m]? = some u := ⟨_, List.getElem?_eq_getElem hmt⟩
          obtain ⟨v, hv, hvl⟩ := HYX.out m u hu
          obtain ⟨g3, o3, rfl, u1⟩ := S2.out m u hu
          obtain ⟨g4, o4, rfl, v1⟩ := S1.out m v hv
          have h10 : (m : Int) < (X.length : Int) := by omega
          have hu2 := HP2.out u (List.mem_of_getElem? hu)
          have HSUC2 := Lib.hid (d2_succ hu hv)
          have hd2 := HD2.out m
          have hd2b := HD2.out X.length
          have hus : (⟨u.toArray⟩ : ByteArray).size = u.length := mk_size u
          have hvs : (⟨v.toArray⟩ : ByteArray).size = u.length := (mk_size v).trans hvl
          have hnl : (((⟨v.toArray⟩ : ByteArray).size : Int) != ((⟨u.toArray⟩ : ByteArray).size : Int)) = false := by rw [bne_eq_false_iff_eq]; omega
          obtain ⟨D, hD⟩ : ∃ D, C + d2 X Y m = D := ⟨_, rfl⟩
          have hDb : D ≤ 10000 := by omega
          have HD := Lib.hid hD
          have HB1 := Lib.hid (byte_at u)
          have HB2 := Lib.hid (fun j h => byte_at v j h)
          rw [hD]
          clear hD hu hv hd2 hd2b
          generalize (⟨u.toArray⟩ : ByteArray) = U at *
          generalize (⟨v.toArray⟩ : ByteArray) = V at *
          go_wp2_with fail
          go_loopw [6, 82] (fun c i wr => ∃ j q : Nat, j ≤ u.length ∧ c = .int .i64 (D + d1 u v j : Nat) ∧ i = .int .i64 j ∧ wr = w2.drewN q) (fun _ i _ => u.length - (intOf i).toNat)
          case atStart => exact ⟨0, q2, Nat.zero_le _, rfl, rfl, by first | rfl | simp⟩
          case round =>
            obtain ⟨j, q3, hj, rfl, rfl, rfl⟩ := hrel
            by_cases hjt : j < u.length
            · obtain ⟨c, hc, hc1⟩ := HB1.out j hjt
              obtain ⟨e, he, he1⟩ := HB2.out j (by omega)
              have hju : j < U.size := by omega
              have hjv : j < V.size := by omega
              have hju2 : (j : Int) < (U.size : Int) := by omega
              have hjv2 : (j : Int) < (V.size : Int) := by omega
              have hc2 := hc1 hju
              have he2 := he1 hjv
              have r1 : ∀ Q : World, (Instr.index 9 (.string U) (.int .i64 j)).run Try.prog Q = .ok (.int .u8 c.toNat) Q := fun Q => by
                have := hc2
                go_simp
              have r2 : ∀ Q : World, (Instr.index 9 (.string V) (.int .i64 j)).run Try.prog Q = .ok (.int .u8 e.toNat) Q := fun Q => by
                have := he2
                go_simp
              have hd1 := d1_le u v j
              by_cases hce : e = c
              · subst hce
                have hsuc : d1 u v (j + 1) = d1 u v j := by rw [d1_succ, hc, he, if_pos rfl]; rfl
                have HS1 := Lib.hid hsuc
                have hne8 : ((e.toNat : Int) != (e.toNat : Int)) = false := by rw [bne_eq_false_iff_eq]
                clear hc he hc1 he1 hsuc
                go_wp2_with fail
                go_quiet (fail)
                go_wp2_with fail
                go_roundw
                case rel => first | exact ⟨j + 1, q3 + nq, by omega, by rw [HS1.out], by go_num, by first | rfl | simp⟩ | ((repeat apply Exists.intro); exact ⟨⟨j + 1, q3 + nq, by omega, by rw [HS1.out], by go_num, by first | rfl | simp⟩, rfl⟩)
                case measure => simp [intOf]; omega
              · have hsuc : d1 u v (j + 1) = d1 u v j + 1 := by rw [d1_succ, hc, he, if_neg (by simp; exact fun h => hce h.symm)]
                have HS1 := Lib.hid hsuc
                have hne8 := u8_ne hce
                have hwr : IntKind.i64.wrap (((D + d1 u v j : Nat) : Int) + 1) = ((D + d1 u v j : Nat) : Int) + 1 := IntWalk.i64_in _ (by omega)
                have hE : ((D + d1 u v j : Nat) : Int) + 1 = ((D + d1 u v (j + 1) : Nat) : Int) := by rw [HS1.out]; omega
                have HE := Lib.hid hE
                obtain ⟨Z, hZ⟩ : ∃ Z, D + d1 u v j = Z := ⟨_, rfl⟩
                rw [hZ] at hwr HE ⊢
                clear hc he hc1 he1 hsuc hE hZ
                go_wp2_with fail
                go_quiet (fail)
                go_wp2_with fail
                go_roundw
                case rel => first | exact ⟨j + 1, q3 + nq, by omega, by rw [← HE.out], by go_num, by first | rfl | simp⟩ | ((repeat apply Exists.intro); exact ⟨⟨j + 1, q3 + nq, by omega, by rw [← HE.out], by go_num, by first | rfl | simp⟩, rfl⟩)
                case measure => simp [intOf]; omega
            · obtain rfl : j = u.length := by omega
              have hE : D + d1 u v u.length = C + d2 X Y (m + 1) := by rw [HSUC2.out, ← HD.out]; omega
              rw [hE]
              have hju2 : ¬ ((u.length : Int) < (U.size : Int)) := by omega
              go_wp2_with fail
              go_roundw
              case rel => first | exact ⟨m + 1, q3, by omega, rfl, by go_num, by first | rfl | simp⟩ | ((repeat apply Exists.intro); exact ⟨⟨m + 1, q3, by omega, rfl, by go_num, by first | rfl | simp⟩, rfl⟩)
              case measure => simp [intOf]; omega
        · obtain rfl : m = X.length := by omega
          have hE : C + d2 X Y X.length = d3 rs ss (k + 1) := by rw [HSUC.out]
          rw [hE]
          go_wp2_with fail
          go_roundw
          case rel => first | exact ⟨k + 1, q2, by omega, rfl, by go_num, by first | rfl | simp⟩ | ((repeat apply Exists.intro); exact ⟨⟨k + 1, q2, by omega, rfl, by go_num, by first | rfl | simp⟩, rfl⟩)
          case measure => simp [intOf]; omega
    · obtain rfl : k = rs.length := by omega
      have hm1 := HMOST.out
      obtain ⟨C, hC⟩ : ∃ C, d3 rs ss rs.length = C := ⟨_, rfl⟩
      rw [hC] at hm1 ⊢
      have hm2 : (C : Int) ≤ (l.toNat : Int) := by omega
      clear hC
      go_wp2_with fail
      refine (awake59_any _).mono ?_
      rintro e w5 ⟨rfl, hb5⟩
      go_wp2_with fail
      go_ret
      exact ⟨rfl, (below_drewN hbw2 q).trans (hb5.mono hbw2.size)⟩

theorem law_cells (v0 : Value) (rs : List Reel) (v1 : Value) (d : Dmg) (w : World) (hv : ReelsArg w v0 rs) (hd : DmgArg v1 d) :
    Calls Try.prog 8 #[v0, v1] w fun e w' => e = .returned (.bool true) ∧ Below w.heap.size w w' := by
  obtain ⟨ao, cap, rfl, hl, hc, hr, hb⟩ := hv
  obtain ⟨rfl, _, _, _, _, hlen⟩ := hd
  obtain ⟨k, r, p, a, l⟩ := d
  by_cases hs : smallR rs = true
  · by_cases h1 : k = 1
    · subst h1
      exact cells_1 r p a l ao cap rs w hr hs hlen.2
    · by_cases h2 : k = 2
      · subst h2
        exact cells_2 r p a l ao cap rs w hr hs hlen.2
      · by_cases h8 : k = 8
        · subst h8
          exact cells_8 r p a l ao cap rs w hr hs hlen.2
        · exact cells_other k r p a l ao cap rs w hr (by omega) hb hs (bne_iff_ne.2 h1) (bne_iff_ne.2 h2) (bne_iff_ne.2 h8)
  · exact cells_skip k r p a l ao cap rs w hr (by omega) hb hs
end Go.Proofs.Ytghpolfmhnnbaaa
