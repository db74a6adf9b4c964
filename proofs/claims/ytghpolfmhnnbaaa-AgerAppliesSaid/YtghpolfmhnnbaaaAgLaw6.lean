/-
  The walk of AgerLocal, where no reel is lost.
-/
import Derived.Test.YtghpolfmhnnbaaaAgLaw4
namespace Go.Proofs.Ytghpolfmhnnbaaa
open Go.RowKit

set_option maxHeartbeats 4000000 in
set_option maxRecDepth 100000 in
theorem local_skip (k r p a l : Int) (ao : Option Addr) (cap : Nat) (rs : List Reel) (w : World) (hr : Reels w ao rs.length rs) (hn : rs.length ≤ 9223372036854775807) (hb : ∀ r ∈ rs, r.ps.length ≤ 9223372036854775807 ∧ ∀ x ∈ r.ps, x.length ≤ 9223372036854775807) (hs : ¬ smallR rs = true) :
    Calls Try.prog 6 #[.slice ao rs.length cap, .agg #[.int .i64 k, .int .i64 r, .int .i64 p, .int .i64 a, .int .i64 l]] w fun e w' => e = .returned (.bool true) ∧ Below w.heap.size w w' := by
  obtain ⟨W, hW, hbW, hzW, d0, d1, d2, d3, d4⟩ := dbox w k r p a l
  have HG := great_at (cap := cap) (hr.below hbW) hb hn 1 (if_neg hs)
  clear hr hb hs hzW
  go_enter Try.func6, Try.ntmps6
  go_wp2_with fail
  refine HG.out.mono ?_
  rintro e w1 ⟨rfl, rfl⟩
  go_wp2_with fail
  refine (awake59_any _).mono ?_
  rintro e w2 ⟨rfl, hb2⟩
  go_wp2_with fail
  go_ret
  exact ⟨rfl, hbW.trans (hb2.mono hbW.size)⟩
theorem local_get {d : Dmg} {rs : List Reel} (h : d.kind ≠ 4 ∨ ¬ (0 ≤ d.reel ∧ d.reel < rs.length)) : (applyR rs d).length = rs.length ∧ ∀ (i : Nat) (x : Reel), rs[i]? = some x → ∃ y, (applyR rs d)[i]? = some y ∧ y.num = x.num ∧ ((i : Int) ≠ d.reel → y = x) := by
  rcases h with h | h
  · exact ⟨applyR_len h rs, fun i x hx => by
      obtain ⟨y, h1, h2, _, h4⟩ := applyR_get h hx
      exact ⟨y, h1, h2, h4⟩⟩
  · have e : applyR rs d = rs := by
      unfold applyR
      rw [if_neg h]
    rw [e]
    exact ⟨rfl, fun i x hx => ⟨x, hx, rfl, fun _ => rfl⟩⟩

set_option maxHeartbeats 4000000 in
set_option maxRecDepth 100000 in
theorem local_main (k r p a l : Int) (ao : Option Addr) (cap : Nat) (rs : List Reel) (w : World) (hr : Reels w ao rs.length rs) (hs : smallR rs = true) (hl : l ≤ 9223372036854775807) (hcase : (0 ≤ r ∧ r < rs.length ∧ k ≠ 4) ∨ r < 0 ∨ (rs.length : Int) ≤ r) :
    Calls Try.prog 6 #[.slice ao rs.length cap, .agg #[.int .i64 k, .int .i64 r, .int .i64 p, .int .i64 a, .int .i64 l]] w fun e w' => e = .returned (.bool true) ∧ Below w.heap.size w w' := by
  obtain ⟨hl6, hps, hf⟩ := small_fine hs
  obtain ⟨W, hW, hbW, hzW, d0, d1, d2, d3, d4⟩ := dbox w k r p a l
  have HR := Lib.hid (hr.below hbW)
  have HG := great_at (cap := cap) HR.out (fun r hr => ⟨by have := (hps r hr).1; omega, fun x hx => by have := (hps r hr).2 x hx; omega⟩) (by omega) 0 (if_pos hs)
  obtain ⟨hlen, hget⟩ := local_get (d := ⟨k, r, p, a, l⟩) (rs := rs) (by
    show k ≠ 4 ∨ ¬ (0 ≤ r ∧ r < rs.length)
    rcases hcase with h | h | h
    · exact .inl h.2.2
    · exact .inr (by omega)
    · exact .inr (by omega))
  have ha := apply_r ao rs.length cap rs k r p a l W HR.out hf hl (fun _ => burst8)
  rw [hlen] at ha
  have HA := Lib.hid ha
  have HGET := Lib.hid hget
  have HPS := Lib.hid hps
  have hlw : w.heap.size < W.heap.size := by omega
  have hne : ((rs.length : Int) != (rs.length : Int)) = false := by rw [bne_eq_false_iff_eq]
  clear hr hs hf hps hzW hlen hget ha
  go_enter Try.func6, Try.ntmps6
  go_wp2_with fail
  refine HG.out.mono ?_
  rintro e w1 ⟨rfl, rfl⟩
  go_wp2_with fail
  refine HA.out.mono ?_
  rintro e w2 ⟨a2, c2, rfl, hr2, _, _, hb2⟩
  have e0 := (hb2.cell (p := ⟨w.heap.size, 0, none⟩) hlw).trans d0
  have e1 := (hb2.cell (p := ⟨w.heap.size, 1, none⟩) hlw).trans d1
  have HR2 := Lib.hid hr2
  have HR1 := Lib.hid (HR.out.below hb2)
  have hlw2 : w.heap.size < w2.heap.size := Nat.lt_of_lt_of_le hlw hb2.size
  clear hr2 d0 d1 d2 d3 d4
  go_upto_region 4 with (fail)
  go_cut [6] (fun s6 wx => ∃ I : Bool, s6 = .bool I ∧ (I = true → (k == 4) = false) ∧ w2 = wx)
  case first =>
    rcases hcase with ⟨h1, h2, h3⟩ | h1 | h1
    · go_wp2_with fail
      go_meet
      case rel => exact ⟨true, by first | rfl | simp, fun _ => beq_eq_false_iff_ne.2 h3, rfl⟩
    · go_wp2_with fail
      go_meet
      case rel => exact ⟨false, by first | rfl | (simp; omega), (fun h => by cases h), rfl⟩
    · have h0 : 0 ≤ r := by omega
      go_wp2_with fail
      go_meet
      case rel => exact ⟨false, by first | rfl | (simp; omega), (fun h => by cases h), rfl⟩
  case rest =>
    obtain ⟨I, rfl, hI, rfl⟩ := hcut
    have HI := Lib.hid hI
    clear hI hcase
    go_upto_region 5 with (fail)
    go_cut [30] (fun s30 wx => s30 = .bool false ∧ w2 = wx)
    case first =>
      cases I
      · go_wp2_with fail
        go_meet
        case rel => exact ⟨rfl, rfl⟩
      · have h4 := HI.out rfl
        go_wp2_with fail
        go_meet
        case rel => exact ⟨rfl, rfl⟩
    case rest =>
      obtain ⟨rfl, rfl⟩ := hcut
      clear HI
      go_wp2_with fail
      go_loopw [70] (fun i wr => ∃ k : Nat, k ≤ rs.length ∧ i = .int .i64 k ∧ Below w2.heap.size w2 wr) (fun i _ => rs.length - (intOf i).toNat)
      case atStart => exact ⟨0, Nat.zero_le _, rfl, Below.refl _ _⟩
      case round =>
        obtain ⟨j, hj, rfl, hb⟩ := hrel
        by_cases hlt : j < rs.length
        · obtain ⟨x, hx⟩ : ∃ x, rs[j]? = some x := ⟨_, List.getElem?_eq_getElem hlt⟩
          obtain ⟨y, hy, hnum, hyx⟩ := HGET.out j x hx
          obtain ⟨b1, o1, hao, x0, ap, cp, x1, _, s1⟩ := (HR2.out.below hb).2 j y hy
          obtain ⟨b2, o2, hbo, y0, bp, dp, y1, _, s2⟩ := (HR1.out.below hb).2 j x hx
          subst hao hbo
          have f1 := (hb.cell (p := ⟨w.heap.size, 1, none⟩) hlw2).trans e1
          have hp2 := HPS.out x (List.mem_of_getElem? hx)
          rw [hnum] at x0
          have h9 : (j : Int) < (rs.length : Int) := by omega
          have hnn : (x.num != x.num) = false := by rw [bne_eq_false_iff_eq]
          have l1 := World.block_lt_of_cell? _ _ x0
          have l2 := World.block_lt_of_cell? _ _ y0
          have l3 : w.heap.size < wr.heap.size := Nat.lt_of_lt_of_le hlw2 hb.size
          by_cases hjr : (j : Int) = r
          · have hjn : ((j : Int) != r) = false := by rw [bne_eq_false_iff_eq]; exact hjr
            clear hx hy hnum hyx s1 s2 hjr
            go_wp2_with fail
            go_quiet (fail)
            go_wp2_with fail
            go_roundw
            case rel => first | exact ⟨j + 1, by omega, by go_num, below_drewN hb nq⟩ | ((repeat apply Exists.intro); exact ⟨⟨j + 1, by omega, by go_num, below_drewN hb nq⟩, rfl⟩)
            case measure => simp [intOf]; omega
          · have hjn : ((j : Int) != r) = true := by rw [bne_iff_ne]; exact hjr
            obtain rfl := hyx hjr
            have hc := samereel_true ap bp cp dp y.num y.ps wr.drew s1 s2 (by omega)
            have HC := Lib.hid hc
            clear hx hy hnum hyx s1 s2 hjr hc
            go_wp2_with fail
            go_region_held3 (fun w' => w'.cell? ⟨b1, o1 + j * 2, none⟩ = some (.int .i64 y.num) ∧ w'.cell? ⟨b1, o1 + j * 2 + 1, none⟩ = some (.slice ap y.ps.length cp) ∧ w'.cell? ⟨b2, o2 + j * 2, none⟩ = some (.int .i64 y.num) ∧ w'.cell? ⟨b2, o2 + j * 2 + 1, none⟩ = some (.slice bp y.ps.length dp) ∧ w'.cell? ⟨w.heap.size, 1, none⟩ = some (.int .i64 r))
              (first | exact ⟨x0, x1, y0, y1, f1⟩ | exact ⟨z0, z1, z2, z3, z4⟩)
              ((go_at_call 18; refine HC.out.mono ?_; rintro e w5 ⟨rfl, hb5⟩; have hbx : Below wr.heap.size wr w5 := (Below.refl wr.heap.size wr).drew.trans hb5; have z0 := (hbx.cell (p := ⟨b1, o1 + j * 2, none⟩) l1).trans x0; have z1 := (hbx.cell (p := ⟨b1, o1 + j * 2 + 1, none⟩) l1).trans x1; have z2 := (hbx.cell (p := ⟨b2, o2 + j * 2, none⟩) l2).trans y0; have z3 := (hbx.cell (p := ⟨b2, o2 + j * 2 + 1, none⟩) l2).trans y1; have z4 := (hbx.cell (p := ⟨w.heap.size, 1, none⟩) l3).trans f1))
            have hfin := hb.trans (hbx.mono hb.size)
            go_wp2_with fail
            go_roundw
            case rel => first | exact ⟨j + 1, by omega, by go_num, hfin⟩ | ((repeat apply Exists.intro); exact ⟨⟨j + 1, by omega, by go_num, hfin⟩, rfl⟩)
            case measure => simp [intOf]; omega
        · obtain rfl : j = rs.length := by omega
          go_wp2_with fail
          refine (awake59_any _).mono ?_
          rintro e w5 ⟨rfl, hb5⟩
          go_wp2_with fail
          go_ret
          have hb3 := hb2.trans (hb.mono hb2.size)
          exact ⟨rfl, hbW.trans ((hb3.trans (hb5.mono hb3.size)).mono hbW.size)⟩
end Go.Proofs.Ytghpolfmhnnbaaa
