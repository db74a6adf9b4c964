/-
  The walk of AgerUndo, where a piece is cut.
-/
import Derived.Test.YtghpolfmhnnbaaaAgLaw4
namespace Go.Proofs.Ytghpolfmhnnbaaa
open Go.RowKit

set_option maxHeartbeats 4000000 in
set_option maxRecDepth 100000 in
theorem undo_5 (r p a l : Int) (ao : Option Addr) (cap : Nat) (rs : List Reel) (w : World) (hr : Reels w ao rs.length rs) (hs : smallR rs = true) (hl : l ≤ 9223372036854775807) :
    Calls Try.prog 7 #[.slice ao rs.length cap, .agg #[.int .i64 5, .int .i64 r, .int .i64 p, .int .i64 a, .int .i64 l]] w fun e w' => e = .returned (.bool true) ∧ Below w.heap.size w w' := by
  obtain ⟨hl6, hps, hf⟩ := small_fine hs
  have hbd := applyR_bd (small_bnd hs) ⟨5, r, p, a, l⟩
  obtain ⟨W, hW, hbW, hzW, d0, d1, d2, d3, d4⟩ := dbox w 5 r p a l
  have HR := Lib.hid (hr.below hbW)
  have HG := great_at (cap := cap) HR.out (fun r hr => ⟨by have := (hps r hr).1; omega, fun x hx => by have := (hps r hr).2 x hx; omega⟩) (by omega) 0 (if_pos hs)
  have hlen := applyR_len (d := ⟨5, r, p, a, l⟩) (show (5 : Int) ≠ 4 by decide) rs
  have hget := fun i x h => applyR_get (d := ⟨5, r, p, a, l⟩) (show (5 : Int) ≠ 4 by decide) (rs := rs) (i := i) (r := x) h
  have hcut := editP_5 (d := ⟨5, r, p, a, l⟩) rfl
  have ha := apply_r ao rs.length cap rs 5 r p a l W HR.out hf hl (fun _ => burst8)
  rw [hlen] at ha
  have HA := Lib.hid ha
  have HGET := Lib.hid hget
  have HCUT := Lib.hid hcut
  have HPS := Lib.hid hps
  have HBD := Lib.hid hbd
  have hlw : w.heap.size < W.heap.size := by omega
  have hne : ((rs.length : Int) != (rs.length : Int)) = false := by rw [bne_eq_false_iff_eq]
  clear hr hs hf hbd hps hzW hlen hget hcut ha
  go_enter Try.func7, Try.ntmps7
  go_wp2_with fail
  refine HG.out.mono ?_
  rintro e w1 ⟨rfl, rfl⟩
  go_wp2_with fail
  refine HA.out.mono ?_
  rintro e w2 ⟨a2, c2, rfl, hr2, _, _, hb2⟩
  have e0 := (hb2.cell (p := ⟨w.heap.size, 0, none⟩) hlw).trans d0
  have HR2 := Lib.hid hr2
  have HR1 := Lib.hid (HR.out.below hb2)
  clear hr2
  go_wp2_with fail
  go_loopw [36] (fun i wr => ∃ k : Nat, k ≤ rs.length ∧ i = .int .i64 k ∧ Below w2.heap.size w2 wr) (fun i _ => rs.length - (intOf i).toNat)
  case atStart => exact ⟨0, Nat.zero_le _, rfl, Below.refl _ _⟩
  case round =>
    obtain ⟨k, hk, rfl, hb⟩ := hrel
    by_cases hlt : k < rs.length
    · obtain ⟨x, hx⟩ : ∃ x, rs[k]? = some x := ⟨_, List.getElem?_eq_getElem hlt⟩
      obtain ⟨y, hy, hnum, hy2, _⟩ := HGET.out k x hx
      obtain ⟨b1, o1, hao, x0, ap, cp, x1, _, s1⟩ := (HR2.out.below hb).2 k y hy
      obtain ⟨b2, o2, hbo, y0, bp, dp, y1, _, s2⟩ := (HR1.out.below hb).2 k x hx
      subst hao hbo
      have hflat : y.ps.flatten = x.ps.flatten := by
        rcases hy2 with h | ⟨_, h⟩
        · rw [h]
        · rw [h, HCUT.out]
      have hp1 := HBD.out.2 y (List.mem_of_getElem? hy)
      have hp2 := HPS.out x (List.mem_of_getElem? hx)
      have hc1 := fun (X : World) (h : Below wr.heap.size wr X) => whole_any y.num ap cp y.ps X (s1.below h) (by omega) (fun z hz => by have := hp1.2 z hz; omega)
      have hc2 := fun (X : World) (h : Below wr.heap.size wr X) => whole_any x.num bp dp x.ps X (s2.below h) (by omega) (fun z hz => by have := hp2.2 z hz; omega)
      rw [hflat] at hc1
      generalize (⟨x.ps.flatten.toArray⟩ : ByteArray) = E at hc1 hc2
      have hee : (E.toList == E.toList) = true := beq_self_eq_true _
      have HC1 := Lib.hid hc1
      have HC2 := Lib.hid hc2
      have l1 := World.block_lt_of_cell? _ _ x0
      have l2 := World.block_lt_of_cell? _ _ y0
      have h9 : (k : Int) < (rs.length : Int) := by omega
      clear s1 s2 hx hy hnum hy2 hflat hp1 hp2 hc1 hc2
      go_wp2_with fail
      go_region_held3 (fun w' => w'.cell? ⟨b1, o1 + k * 2, none⟩ = some (.int .i64 y.num) ∧ w'.cell? ⟨b1, o1 + k * 2 + 1, none⟩ = some (.slice ap y.ps.length cp) ∧ w'.cell? ⟨b2, o2 + k * 2, none⟩ = some (.int .i64 x.num) ∧ w'.cell? ⟨b2, o2 + k * 2 + 1, none⟩ = some (.slice bp x.ps.length dp))
        (first | exact ⟨x0, x1, y0, y1⟩ | exact ⟨z0, z1, z2, z3⟩ | exact ⟨t0, t1, t2, t3⟩)
        (first | (go_at_call 19; (with_reducible refine (HC1.out _ ((Below.refl wr.heap.size wr).drew)).mono ?_); rintro e w5 ⟨rfl, hb5⟩; have hbx : Below wr.heap.size wr w5 := (Below.refl wr.heap.size wr).drew.trans hb5; have z0 := (hbx.cell (p := ⟨b1, o1 + k * 2, none⟩) l1).trans x0; have z1 := (hbx.cell (p := ⟨b1, o1 + k * 2 + 1, none⟩) l1).trans x1; have z2 := (hbx.cell (p := ⟨b2, o2 + k * 2, none⟩) l2).trans y0; have z3 := (hbx.cell (p := ⟨b2, o2 + k * 2 + 1, none⟩) l2).trans y1) | (go_at_call 19; (with_reducible refine (HC2.out w5 hbx).mono ?_); rintro e w6 ⟨rfl, hb6⟩; have hby : Below wr.heap.size wr w6 := hbx.trans (hb6.mono hbx.size); have t0 := (hby.cell (p := ⟨b1, o1 + k * 2, none⟩) l1).trans x0; have t1 := (hby.cell (p := ⟨b1, o1 + k * 2 + 1, none⟩) l1).trans x1; have t2 := (hby.cell (p := ⟨b2, o2 + k * 2, none⟩) l2).trans y0; have t3 := (hby.cell (p := ⟨b2, o2 + k * 2 + 1, none⟩) l2).trans y1))
      have hfin := hb.trans (hby.mono hb.size)
      go_wp2_with fail
      go_roundw
      case rel => first | exact ⟨k + 1, by omega, by go_num, hfin⟩ | ((repeat apply Exists.intro); exact ⟨⟨k + 1, by omega, by go_num, hfin⟩, rfl⟩)
      case measure => simp [intOf]; omega
    · obtain rfl : k = rs.length := by omega
      go_wp2_with fail
      refine (awake59_any _).mono ?_
      rintro e w5 ⟨rfl, hb5⟩
      go_wp2_with fail
      go_ret
      have hb3 := hb2.trans (hb.mono hb2.size)
      exact ⟨rfl, hbW.trans ((hb3.trans (hb5.mono hb3.size)).mono hbW.size)⟩
theorem law_undo (v0 : Value) (rs : List Reel) (v1 : Value) (d : Dmg) (w : World) (hv : ReelsArg w v0 rs) (hd : DmgArg v1 d) :
    Calls Try.prog 7 #[v0, v1] w fun e w' => e = .returned (.bool true) ∧ Below w.heap.size w w' := by
  obtain ⟨ao, cap, rfl, hl, hc, hr, hb⟩ := hv
  obtain ⟨rfl, _, _, _, _, hlen⟩ := hd
  obtain ⟨k, r, p, a, l⟩ := d
  by_cases hs : smallR rs = true
  · by_cases h2 : k = 2
    · subst h2
      exact undo_26 2 r p a l ao cap rs w hr hs hlen.2 (.inl rfl) (applyR_undo (editP_2 rfl) (show (2 : Int) ≠ 4 by decide) rs)
    · by_cases h6 : k = 6
      · subst h6
        exact undo_26 6 r p a l ao cap rs w hr hs hlen.2 (.inr rfl) (applyR_undo (editP_6 rfl) (show (6 : Int) ≠ 4 by decide) rs)
      · by_cases h5 : k = 5
        · subst h5
          exact undo_5 r p a l ao cap rs w hr hs hlen.2
        · exact undo_other k r p a l ao cap rs w hr hs hlen.2 h2 h5 h6
  · exact undo_skip k r p a l ao cap rs w hr (by omega) hb hs
end Go.Proofs.Ytghpolfmhnnbaaa
