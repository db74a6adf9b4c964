/-
  The walk of AgerUndo.
-/
import Derived.Test.YtghpolfmhnnbaaaAgUndoP
import Derived.Test.YtghpolfmhnnbaaaAgSame2
import Derived.Test.YtghpolfmhnnbaaaAgLaw1
namespace Go.Proofs.Ytghpolfmhnnbaaa
open Go.RowKit

abbrev GreatAt (ao : Option Addr) (n cap : Nat) (w : World) (G : Int) (W : World) : Prop := Hid (Calls Try.prog 10 #[.slice ao n cap] W fun e w' => e = .returned (.int .i64 G) ∧ w' = W) ∧ Below w.heap.size w W

/-- Great in a world behind the boxing of the action. -/
theorem great_at {rs : List Reel} {W : World} {ao : Option Addr} {cap : Nat} (hr : Reels W ao rs.length rs) (hb : ∀ r ∈ rs, r.ps.length ≤ 9223372036854775807 ∧ ∀ x ∈ r.ps, x.length ≤ 9223372036854775807) (hn : rs.length ≤ 9223372036854775807) (G : Int) (hG : (if smallR rs then (0 : Int) else 1) = G) :
    Hid (Calls Try.prog 10 #[.slice ao rs.length cap] W fun e w' => e = .returned (.int .i64 G) ∧ w' = W) := by
  have h := great59_any ao rs.length cap rs W hr hn hb
  rw [hG] at h
  exact h

set_option maxHeartbeats 4000000 in
set_option maxRecDepth 100000 in
theorem undo_skip (k r p a l : Int) (ao : Option Addr) (cap : Nat) (rs : List Reel) (w : World) (hr : Reels w ao rs.length rs) (hn : rs.length ≤ 9223372036854775807) (hb : ∀ r ∈ rs, r.ps.length ≤ 9223372036854775807 ∧ ∀ x ∈ r.ps, x.length ≤ 9223372036854775807) (hs : ¬ smallR rs = true) :
    Calls Try.prog 7 #[.slice ao rs.length cap, .agg #[.int .i64 k, .int .i64 r, .int .i64 p, .int .i64 a, .int .i64 l]] w fun e w' => e = .returned (.bool true) ∧ Below w.heap.size w w' := by
  obtain ⟨W, hW, hbW, hzW, d0, d1, d2, d3, d4⟩ := dbox w k r p a l
  have HG := great_at (cap := cap) (hr.below hbW) hb hn 1 (if_neg hs)
  clear hr hb hs hzW
  go_enter Try.func7, Try.ntmps7
  go_wp2_with fail
  refine HG.out.mono ?_
  rintro e w1 ⟨rfl, rfl⟩
  go_wp2_with fail
  refine (awake59_any _).mono ?_
  rintro e w2 ⟨rfl, hb2⟩
  go_wp2_with fail
  go_ret
  exact ⟨rfl, hbW.trans (hb2.mono hbW.size)⟩

set_option maxHeartbeats 4000000 in
set_option maxRecDepth 100000 in
theorem undo_26 (k r p a l : Int) (ao : Option Addr) (cap : Nat) (rs : List Reel) (w : World) (hr : Reels w ao rs.length rs) (hs : smallR rs = true) (hl : l ≤ 9223372036854775807) (hk : k = 2 ∨ k = 6) (hu : applyR (applyR rs ⟨k, r, p, a, l⟩) ⟨k, r, p, a, l⟩ = rs) :
    Calls Try.prog 7 #[.slice ao rs.length cap, .agg #[.int .i64 k, .int .i64 r, .int .i64 p, .int .i64 a, .int .i64 l]] w fun e w' => e = .returned (.bool true) ∧ Below w.heap.size w w' := by
  obtain ⟨hl6, hps, hf⟩ := small_fine hs
  have hbd := applyR_bd (small_bnd hs) ⟨k, r, p, a, l⟩
  obtain ⟨W, hW, hbW, hzW, d0, d1, d2, d3, d4⟩ := dbox w k r p a l
  have HR := Lib.hid (hr.below hbW)
  have HG := great_at (cap := cap) HR.out (fun r hr => ⟨by have := (hps r hr).1; omega, fun x hx => by have := (hps r hr).2 x hx; omega⟩) (by omega) 0 (if_pos hs)
  have h8 : k = 8 → Burst8 := fun e => absurd e (by rcases hk with rfl | rfl <;> decide)
  have HA := Lib.hid (apply_r ao rs.length cap rs k r p a l W HR.out hf hl h8)
  have HA2 := Lib.hid (fun a' n' c' X h => apply_r a' n' c' _ k r p a l X h (hbd.fine (by omega)) hl h8)
  have HU := Lib.hid hu
  have HPS := Lib.hid (fun (r : Reel) (hr : r ∈ rs) => (show r.ps.length ≤ 9223372036854775807 by have := (hps r hr).1; omega))
  have hlw : w.heap.size < W.heap.size := by omega
  clear hr hs hf hbd h8 hps hu hzW
  rcases hk with rfl | rfl
  all_goals
    go_enter Try.func7, Try.ntmps7
    go_wp2_with fail
    refine HG.out.mono ?_
    rintro e w1 ⟨rfl, rfl⟩
    go_wp2_with fail
    refine HA.out.mono ?_
    rintro e w2 ⟨a2, c2, rfl, hr2, _, _, hb2⟩
    have e0 := (hb2.cell (p := ⟨w.heap.size, 0, none⟩) hlw).trans d0
    have e1 := (hb2.cell (p := ⟨w.heap.size, 1, none⟩) hlw).trans d1
    have e2 := (hb2.cell (p := ⟨w.heap.size, 2, none⟩) hlw).trans d2
    have e3 := (hb2.cell (p := ⟨w.heap.size, 3, none⟩) hlw).trans d3
    have e4 := (hb2.cell (p := ⟨w.heap.size, 4, none⟩) hlw).trans d4
    have HR2 := Lib.hid hr2
    clear hr2
    go_wp2_with fail
    refine (HA2.out _ _ _ _ HR2.out).mono ?_
    rintro e w3 ⟨a3, c3, rfl, hr3, _, _, hb3⟩
    rw [HU.out] at hr3 ⊢
    have HR3 := Lib.hid hr3
    have hb23 := hb2.trans (hb3.mono hb2.size)
    clear hr3
    go_wp2_with fail
    refine (same_true a3 ao rs.length c3 cap rs w3 HR3.out (HR.out.below hb23) (by omega) HPS.out).mono ?_
    rintro e w4 ⟨rfl, hb4⟩
    go_wp2_with fail
    refine (awake59_any _).mono ?_
    rintro e w5 ⟨rfl, hb5⟩
    go_wp2_with fail
    go_ret
    have hb45 := hb4.trans (hb5.mono hb4.size)
    exact ⟨rfl, hbW.trans ((hb23.trans (hb45.mono hb23.size)).mono hbW.size)⟩

set_option maxHeartbeats 4000000 in
set_option maxRecDepth 100000 in
theorem undo_other (k r p a l : Int) (ao : Option Addr) (cap : Nat) (rs : List Reel) (w : World) (hr : Reels w ao rs.length rs) (hs : smallR rs = true) (hl : l ≤ 9223372036854775807) (hk2 : k ≠ 2) (hk5 : k ≠ 5) (hk6 : k ≠ 6) :
    Calls Try.prog 7 #[.slice ao rs.length cap, .agg #[.int .i64 k, .int .i64 r, .int .i64 p, .int .i64 a, .int .i64 l]] w fun e w' => e = .returned (.bool true) ∧ Below w.heap.size w w' := by
  obtain ⟨hl6, hps, hf⟩ := small_fine hs
  obtain ⟨W, hW, hbW, hzW, d0, d1, d2, d3, d4⟩ := dbox w k r p a l
  have HR := Lib.hid (hr.below hbW)
  have HG := great_at (cap := cap) HR.out (fun r hr => ⟨by have := (hps r hr).1; omega, fun x hx => by have := (hps r hr).2 x hx; omega⟩) (by omega) 0 (if_pos hs)
  have HA := Lib.hid (apply_r ao rs.length cap rs k r p a l W HR.out hf hl (fun _ => burst8))
  have hlw : w.heap.size < W.heap.size := by omega
  have q2 : (k == 2) = false := beq_eq_false_iff_ne.2 hk2
  have q5 : (k == 5) = false := beq_eq_false_iff_ne.2 hk5
  have q6 : (k == 6) = false := beq_eq_false_iff_ne.2 hk6
  clear hr hs hf hps hzW
  go_enter Try.func7, Try.ntmps7
  go_wp2_with fail
  refine HG.out.mono ?_
  rintro e w1 ⟨rfl, rfl⟩
  go_wp2_with fail
  refine HA.out.mono ?_
  rintro e w2 ⟨a2, c2, rfl, hr2, _, _, hb2⟩
  have e0 := (hb2.cell (p := ⟨w.heap.size, 0, none⟩) hlw).trans d0
  clear hr2
  go_wp2_with fail
  refine (awake59_any _).mono ?_
  rintro e w5 ⟨rfl, hb5⟩
  go_wp2_with fail
  go_ret
  exact ⟨rfl, hbW.trans ((hb2.trans (hb5.mono hb2.size)).mono hbW.size)⟩
end Go.Proofs.Ytghpolfmhnnbaaa
