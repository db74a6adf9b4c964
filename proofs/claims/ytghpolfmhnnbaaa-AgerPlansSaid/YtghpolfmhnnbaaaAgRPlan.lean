/-
  The walk of steleref59.Plan.
-/
import Derived.Test.YtghpolfmhnnbaaaAgPlan
import Derived.Deep.RegionHeld3
import Derived.IntWalk
namespace Go.Proofs.Ytghpolfmhnnbaaa
open Go.RowKit

/-- The states and the numbers of a round. -/
def st5 (s : Int) : Nat → Int
  | 0 => s
  | 1 => gS s
  | 2 => gS (gS s)
  | 3 => gS (gS (gS s))
  | 4 => gS (gS (gS (gS s)))
  | _ => gS5 s
def xs5 (s : Int) : Nat → Array Value
  | 0 => #[.int .u64 0, .int .u64 0, .int .u64 0, .int .u64 0, .int .u64 0]
  | 1 => #[.int .u64 (gV s), .int .u64 0, .int .u64 0, .int .u64 0, .int .u64 0]
  | 2 => #[.int .u64 (gV s), .int .u64 (gV (gS s)), .int .u64 0, .int .u64 0, .int .u64 0]
  | 3 => #[.int .u64 (gV s), .int .u64 (gV (gS s)), .int .u64 (gV (gS (gS s))), .int .u64 0, .int .u64 0]
  | 4 => #[.int .u64 (gV s), .int .u64 (gV (gS s)), .int .u64 (gV (gS (gS s))), .int .u64 (gV (gS (gS (gS s)))), .int .u64 0]
  | _ => #[.int .u64 (gV s), .int .u64 (gV (gS s)), .int .u64 (gV (gS (gS s))), .int .u64 (gV (gS (gS (gS s)))), .int .u64 (gV (gS (gS (gS (gS s)))))]
theorem rnext_as (s : Int) (w : World) : Calls Try.prog 28 #[.int .u64 s] w fun e w' => e = .returned (.tuple #[.int .u64 (gS s), .int .u64 (gV s)]) ∧ w = w' :=
  (rnext59_any s w).mono fun _ _ ⟨h1, h2⟩ => ⟨h1, h2.symm⟩
theorem rmod_as {x : Int} {n k : Nat} (h : modV x n = k) (h0 : 0 ≤ x ∧ x ≤ 18446744073709551615) (hn : n ≤ 9223372036854775807) (w : World) :
    Calls Try.prog 29 #[.int .u64 x, .int .i64 n] w fun e w' => e = .returned (.int .i64 k) ∧ w = w' := by
  refine (rmod_any x n w h0.1 h0.2 hn).mono ?_
  rintro e w' ⟨rfl, rfl⟩
  exact ⟨by rw [h], rfl⟩
/-- Between the steps of a round. -/
def RSt (w : World) (v : Value) (ds : List Dmg) (X : World) : Prop := OwnD X w.heap.size v ds ∧ Below w.heap.size w X
section
variable {w X X' : World} {v : Value} {ds : List Dmg}
theorem RSt.kept (h : RSt w v ds X) (hb : Below X.heap.size X X') : RSt w v ds X' :=
  ⟨World.ownsRow.kept h.1 (row := none) ⟨hb.os, hb.tape, hb.output, hb.size, fun k hk _ => hb.block k hk⟩ (by cases hv : v.ownBlock; exact .inl rfl; exact .inr (by simp)), h.2.trans (hb.mono h.2.size)⟩
theorem RSt.far (h : RSt w v ds X) {b : Nat} (hb : w.heap.size ≤ b) (hv : ∀ g, v.ownBlock = some g → g ≠ b) (i : Nat) (u : Value) : RSt w v ds (X.setCell ⟨b, i, none⟩ u) := by
  have hg : X.grownBy (X.setCell ⟨b, i, none⟩ u) (some b) := ⟨rfl, rfl, rfl, by simp [World.setCell], fun k hk hne => Below.heap_setCell X ⟨b, i, none⟩ _ k (fun e => hne (by rw [e]))⟩
  refine ⟨World.ownsRow.kept h.1 hg ?_, h.2.setCell (p := ⟨b, i, none⟩) hb _⟩
  cases hv' : v.ownBlock with
  | none => exact .inl rfl
  | some g => exact .inr (fun e => hv g hv' (by injection e))
end
theorem type5_ne : 55 ≠ 24 := by decide
/-- A row of actions does not lie in the block of an array. -/
theorem own_ne5 {X : World} {B : Nat} {v : Value} {ds : List Dmg} {b : Nat} {cs : Array Value} (h : OwnD X B v ds) (hb : X.heap[b]? = some (.cells cs 55 (0, 0))) : ∀ g, v.ownBlock = some g → g ≠ b := by
  intro g hg e
  subst e
  rcases h.2 with ⟨rfl, _⟩ | ⟨g', cap, cur, rfl, _, hh, _⟩
  · simp [Value.ownBlock] at hg
  · have : g' = g := by simpa [Value.ownBlock] using hg
    subst this
    rw [hb] at hh
    injection hh with hh
    injection hh with _ ht
    exact type5_ne ht

set_option maxHeartbeats 8000000 in
set_option maxRecDepth 100000 in
theorem rplan_any (s n : Int) (ao : Option Addr) (len cap : Nat) (rs : List Reel) (w : World) (hr : Reels w ao len rs) (hlen : len ≤ 65536) (hp : ∀ r ∈ rs, r.ps.length ≤ 65536 ∧ ∀ x ∈ r.ps, x.length ≤ 65536) (hn0 : -9223372036854775808 ≤ n) (hn1 : n ≤ 9223372036854775807) :
    Calls Try.prog 17 #[.int .u64 s, .int .i64 n, .slice ao len cap] w fun e w' => ∃ v, e = .returned v ∧ OwnD w' w.heap.size v (plan rs (planN n) s) ∧ Below w.heap.size w w' := by
  obtain ⟨N, hN⟩ : ∃ N, planN n = N := ⟨_, rfl⟩
  have hN1 : N ≤ 1000 ∧ (∀ k : Nat, k < N → (k : Int) < n) ∧ (n ≤ N ∨ N = 1000) := by
    rw [← hN]
    unfold planN
    split
    · exact ⟨by omega, fun k h => by omega, .inl (by omega)⟩
    · split
      · exact ⟨by omega, fun k h => by omega, .inr rfl⟩
      · exact ⟨by omega, fun k h => by omega, .inl (by omega)⟩
  obtain ⟨hNle, hNlt, hNend⟩ := hN1
  have HN := Lib.hid hN
  have HLT := Lib.hid hNlt
  have HEND := Lib.hid hNend
  rw [hN]
  have HR := Lib.hid hr
  have HP := Lib.hid hp
  clear hN hr hp hNlt hNend
  go_enter Try.func17, Try.ntmps17
  go_wp2_with fail
  go_loopw [7, 8, 9] (fun v st i wr => ∃ k : Nat, k ≤ N ∧ i = .int .i64 k ∧ st = .int .u64 (stK k s) ∧ RSt w v (plan rs k s) wr) (fun _ _ i _ => N - (intOf i).toNat)
  case atStart => exact ⟨0, Nat.zero_le _, rfl, rfl, World.ownsRow_made w #[] 0 (Nat.le_refl _) (by simp [maxLen]) rfl, (Below.refl _ w).alloc (Nat.le_refl _) _⟩
  case round =>
    obtain ⟨k, hk, rfl, rfl, hS⟩ := hrel
    by_cases hlt : k < N
    · obtain ⟨σ, hσ⟩ : ∃ σ, stK k s = σ := ⟨_, rfl⟩
      have HSG := Lib.hid hσ
      rw [hσ]
      clear hσ
      obtain ⟨rfl, HR2⟩ := HR.out
      have hk1 := HLT.out k hlt
      have hk2 : (k : Int) < 1000 := by omega
      have HS := Lib.hid hS
      clear hS
      have hbx : w.heap.size ≤ wr.heap.size := HS.out.2.size
      go_wp2_with fail
      have hx0 : (wr.alloc (.cells #[.int .u64 0, .int .u64 0, .int .u64 0, .int .u64 0, .int .u64 0] 55)).heap[wr.heap.size]? = some (.cells (xs5 σ 0) 55 (0, 0)) := heap_alloc_new wr _
      have hS0 := HS.out.kept ((Below.refl _ wr).alloc (Nat.le_refl _) (.cells #[.int .u64 0, .int .u64 0, .int .u64 0, .int .u64 0, .int .u64 0] 55))
      clear HS
      generalize wr.alloc (.cells #[.int .u64 0, .int .u64 0, .int .u64 0, .int .u64 0, .int .u64 0] 55) = X0 at *
      generalize wr.heap.size = bx at *
      go_loopw [8, 11] (fun st i X => ∃ j : Nat, j ≤ 5 ∧ i = .int .i64 j ∧ st = .int .u64 (st5 σ j) ∧ X.heap[bx]? = some (.cells (xs5 σ j) 55 (0, 0)) ∧ RSt w u7 (plan rs k s) X) (fun _ i _ => 5 - (intOf i).toNat)
      case atStart => exact ⟨0, by omega, rfl, rfl, hx0, hS0⟩
      case round =>
        obtain ⟨j, hj, rfl, rfl, hx, hS⟩ := hrel
        have HX := Lib.hid hx
        have HS2 := Lib.hid hS
        have HFAR := Lib.hid (own_ne5 hS.1 hx)
        have fz : ∀ i, wr.frozen? ⟨bx, i, none⟩ = false := fun i => by simp [World.frozen?, hx]
        clear hS hx hx0 hS0
        by_cases hjl : j < 5
        · have hj5 : j = 0 ∨ j = 1 ∨ j = 2 ∨ j = 3 ∨ j = 4 := by omega
          rcases hj5 with rfl | rfl | rfl | rfl | rfl
          · have c0 := blk_cell HX.out 0 _ rfl
            have f0 := fz 0
            clear fz
            go_wp2_with fail
            refine (rnext_as _ _).mono ?_
            rintro e w1 ⟨rfl, rfl⟩
            go_wp2_with fail
            go_roundw
            case rel => exact ⟨1, by omega, by go_num, rfl, blk_set HX.out _, HS2.out.far hbx HFAR.out _ _⟩
            case measure => simp [intOf]
          · have c0 := blk_cell HX.out 1 _ rfl
            have f0 := fz 1
            clear fz
            go_wp2_with fail
            refine (rnext_as _ _).mono ?_
            rintro e w1 ⟨rfl, rfl⟩
            go_wp2_with fail
            go_roundw
            case rel => exact ⟨2, by omega, by go_num, rfl, blk_set HX.out _, HS2.out.far hbx HFAR.out _ _⟩
            case measure => simp [intOf]
          · have c0 := blk_cell HX.out 2 _ rfl
            have f0 := fz 2
            clear fz
            go_wp2_with fail
            refine (rnext_as _ _).mono ?_
            rintro e w1 ⟨rfl, rfl⟩
            go_wp2_with fail
            go_roundw
            case rel => exact ⟨3, by omega, by go_num, rfl, blk_set HX.out _, HS2.out.far hbx HFAR.out _ _⟩
            case measure => simp [intOf]
          · have c0 := blk_cell HX.out 3 _ rfl
            have f0 := fz 3
            clear fz
            go_wp2_with fail
            refine (rnext_as _ _).mono ?_
            rintro e w1 ⟨rfl, rfl⟩
            go_wp2_with fail
            go_roundw
            case rel => exact ⟨4, by omega, by go_num, rfl, blk_set HX.out _, HS2.out.far hbx HFAR.out _ _⟩
            case measure => simp [intOf]
          · have c0 := blk_cell HX.out 4 _ rfl
            have f0 := fz 4
            clear fz
            go_wp2_with fail
            refine (rnext_as _ _).mono ?_
            rintro e w1 ⟨rfl, rfl⟩
            go_wp2_with fail
            go_roundw
            case rel => exact ⟨5, by omega, by go_num, rfl, blk_set HX.out _, HS2.out.far hbx HFAR.out _ _⟩
            case measure => simp [intOf]
        · obtain rfl : j = 5 := by omega
          have v0 : wr.cell? ⟨bx, 0, none⟩ = some (.int .u64 (gV σ)) := blk_cell HX.out 0 _ rfl
          have v1 : wr.cell? ⟨bx, 1, none⟩ = some (.int .u64 (gV (gS σ))) := blk_cell HX.out 1 _ rfl
          have v4 : wr.cell? ⟨bx, 4, none⟩ = some (.int .u64 (gV (gS (gS (gS (gS σ)))))) := blk_cell HX.out 4 _ rfl
          have hbl : bx < wr.heap.size := (Array.getElem?_eq_some_iff.1 HX.out).1
          obtain ⟨k1, hk1, _, hk1b⟩ := modV_nat (gV σ) 8
          obtain ⟨k2, hk2, hk2a, hk2b⟩ := modV_nat (gV (gS σ)) rs.length
          obtain ⟨k5, hk5, _, hk5b⟩ := modV_nat (gV (gS (gS (gS (gS σ))))) 90
          have HK1 := Lib.hid hk1
          have HK2 := Lib.hid hk2
          have HK5 := Lib.hid hk5
          have M1 : Hid (∀ w, Calls Try.prog 29 #[.int .u64 (gV σ), .int .i64 8] w fun e w' => e = .returned (.int .i64 k1) ∧ w = w') := rmod_as (n := 8) hk1 (gV_bd _) (by omega)
          have M2 := Lib.hid (rmod_as (n := rs.length) hk2 (gV_bd _) (by omega))
          have M5 : Hid (∀ w, Calls Try.prog 29 #[.int .u64 (gV (gS (gS (gS (gS σ))))), .int .i64 90] w fun e w' => e = .returned (.int .i64 k5) ∧ w = w') := rmod_as (n := 90) hk5 (gV_bd _) (by omega)
          have w1 : IntKind.i64.wrap (1 + (k1 : Int)) = 1 + (k1 : Int) := IntWalk.i64_in _ (by omega)
          have w5 : IntKind.i64.wrap (1 + (k5 : Int)) = 1 + (k5 : Int) := IntWalk.i64_in _ (by omega)
          have HFD := Lib.hid (fun g (hg : u7.ownBlock = some g) => (World.ownsRow.lt HS2.out.1 g hg).2)
          clear hk1 hk2 hk5 fz
          go_upto_region 13 with (fail)
          go_cut [14] (fun s14 wx => ∃ bd : Nat, s14 = .pointer (some ⟨bd, 0, none⟩) ∧ DAt wx bd (1 + k1) k2 0 0 (1 + k5) ∧ wr.heap.size ≤ bd ∧ Below wr.heap.size wr wx)
          case first =>
            go_region_held3 (fun w' => w'.cell? ⟨bx, 0, none⟩ = some (.int .u64 (gV σ)) ∧ w'.cell? ⟨bx, 1, none⟩ = some (.int .u64 (gV (gS σ))) ∧ w'.cell? ⟨bx, 4, none⟩ = some (.int .u64 (gV (gS (gS (gS (gS σ)))))))
              (go_keep)
              (first | (go_at_call 29; (with_reducible refine (M1.out _).mono ?_); rintro e w6 ⟨rfl, rfl⟩) | (go_at_call 29; (with_reducible refine (M2.out _).mono ?_); rintro e w6 ⟨rfl, rfl⟩) | (go_at_call 29; (with_reducible refine (M5.out _).mono ?_); rintro e w6 ⟨rfl, rfl⟩))
            all_goals
              go_wp2_with fail
              go_meet
              case rel => exact ⟨wr.heap.size, rfl, heap_alloc_new wr _, Nat.le_refl _, ((Below.refl _ wr).alloc (Nat.le_refl _) _).drew⟩
          case rest =>
            obtain ⟨bd, rfl, hD, hbd, hbX⟩ := hcut
            have HS3 := Lib.hid (HS2.out.kept hbX)
            have HX3 := Lib.hid ((hbX.block bx hbl).trans HX.out)
            have HD3 := Lib.hid hD
            have hfd : ∀ g, u7.ownBlock = some g → g ≠ bd := fun g hg => by have := HFD.out g hg; omega
            have HFD := Lib.hid hfd
            have hwd : w.heap.size ≤ bd := by omega
            have hxd : bx ≠ bd := by omega
            obtain ⟨P, hP⟩ : ∃ P, pkPs rs σ = P := ⟨_, rfl⟩
            have HPP := Lib.hid hP
            have hPl : P.length ≤ 65536 ∧ ∀ x ∈ P, x.length ≤ 65536 := by
              rw [← hP]
              unfold pkPs
              split
              · exact HP.out _ (List.mem_of_getElem? ‹_›)
              · simp
            have HPL := Lib.hid hPl.2
            have hPl := hPl.1
            clear hP v0 v1 v4 hD hbX HS2 HX M1 M2 M5 w1 w5 hbl hbd hfd
            go_upto_if 59 with (fail)
            have hS4 := HS3.out.kept ((Below.refl _ wc).alloc (Nat.le_refl _) (.cells #[] 9))
            have hD4 : DAt (wc.alloc (.cells #[] 9)) bd (1 + k1) k2 0 0 (1 + k5) := blk_alloc HD3.out
            have hX4 := blk_alloc (o := .cells #[] 9) HX3.out
            clear HS3 HD3 HX3
            generalize wc.alloc (.cells #[] 9) = X at *
            generalize wc.heap.size = ge at *
            have HS4 := Lib.hid hS4
            have HD4 := Lib.hid hD4
            have HX4 := Lib.hid hX4
            have hb4 := hS4.2
            obtain ⟨d0, d1, d2, d3, d4⟩ := hD4.cells
            clear hS4 hD4 hX4
            go_cut [15] (fun s15 wx => ∃ ap cp, s15 = .slice ap P.length cp ∧ Strs w ap P.length P ∧ X = wx)
            case first =>
              by_cases hl : 0 < rs.length
              · obtain ⟨r, hx⟩ : ∃ x, rs[k2]? = some x := ⟨_, List.getElem?_eq_getElem (hk2b hl)⟩
                obtain ⟨b1, o1, rfl, hc1, ap, cp, hc2, hcp, hst⟩ := HR2 k2 r hx
                have hr1 : P = r.ps := by
                  rw [← HPP.out]
                  refine pkPs_some ?_
                  unfold pkReel
                  rw [HK2.out]
                  exact hx
                have hlt1 := World.block_lt_of_cell? _ _ hc2
                have hc3 := (hb4.cell (p := ⟨b1, o1 + k2 * 2 + 1, none⟩) hlt1).trans hc2
                have HST := Lib.hid hst
                have HR1 := Lib.hid hr1
                have hk3 := hk2b hl
                clear hc1 hc2 hst hr1 hx
                go_wp2_with fail
                go_meet
                case rel => exact ⟨ap, cp, by rw [HR1.out], by rw [HR1.out]; exact HST.out, rfl⟩
              · have hnil : P = [] := by
                  rw [← HPP.out, List.eq_nil_of_length_eq_zero (show rs.length = 0 by omega)]
                  rfl
                subst hnil
                go_wp2_with fail
                go_meet
                case rel => exact ⟨_, _, rfl, Strs.nil _ _, rfl⟩
            case rest =>
              obtain ⟨ap, cp, rfl, hst, rfl⟩ := hcut
              have HST := Lib.hid hst
              clear hst d0 d1 d2 d3 d4
              obtain ⟨k3, hk3, hk3a, hk3b⟩ := modV_nat (gV (gS (gS σ))) P.length
              have HK3 := Lib.hid hk3
              have M3 := Lib.hid (rmod_as (n := P.length) hk3 (gV_bd _) (by omega))
              have v2 : X.cell? ⟨bx, 2, none⟩ = some (.int .u64 (gV (gS (gS σ)))) := blk_cell HX4.out 2 _ rfl
              obtain ⟨d0, d1, d2, d3, d4⟩ := HD4.out.cells
              have f2 := HD4.out.frozen 2
              clear hk3
              go_wp2_with fail
              refine (M3.out _).mono ?_
              rintro e w5 ⟨rfl, rfl⟩
              go_upto_if 74 with (fail)
              have hD5 := HD4.out.set2 (u := k3)
              have hS5 := HS4.out.far hwd HFD.out 2 (.int .i64 k3)
              have hX5 := (Below.heap_setCell X ⟨bd, 2, none⟩ (.int .i64 k3) bx hxd).trans HX4.out
              clear d0 d1 d2 d3 d4 f2 v2 HS4 HD4 HX4 hb4
              generalize X.setCell ⟨bd, 2, none⟩ (.int .i64 k3) = Y at *
              have HS5 := Lib.hid hS5
              have HD5 := Lib.hid hD5
              have HX5 := Lib.hid hX5
              have HST5 := Lib.hid (HST.out.below hS5.2)
              obtain ⟨d0, d1, d2, d3, d4⟩ := hD5.cells
              clear hS5 hD5 hX5 HST
              obtain ⟨z, hz⟩ : ∃ z, pkSize P σ = z := ⟨_, rfl⟩
              have HZ := Lib.hid hz
              have hz6 : k1 = 5 → z = P.length := fun h => by
                rw [← hz]
                refine pkSize_6 ?_
                unfold pkKind
                rw [HK1.out, h]
                rfl
              have hz0 : P = [] → z = 0 := fun h => by
                rw [← hz, h]
                exact pkSize_none
              have hzx : ∀ x, P[k3]? = some x → k1 ≠ 5 → z = x.length := fun x hx h => by
                rw [← hz]
                refine pkSize_some ?_ ?_
                · unfold pkKind
                  rw [HK1.out]
                  omega
                · unfold pkPiece
                  rw [HK3.out]
                  exact hx
              have HZ6 := Lib.hid hz6
              have HZ0 := Lib.hid hz0
              have HZX := Lib.hid hzx
              clear hz hz6 hz0 hzx
              go_cut [16] (fun s16 wx => ∃ y : Nat, s16 = .int .i64 y ∧ y ≤ 65536 ∧ Hid (k1 ≠ 5 → z = y) ∧ Y = wx)
              case first =>
                by_cases hl : 0 < P.length
                · obtain ⟨x, hx⟩ : ∃ x, P[k3]? = some x := ⟨_, List.getElem?_eq_getElem (hk3b hl)⟩
                  obtain ⟨b1, o1, rfl, hc1⟩ := HST5.out.2 k3 x hx
                  have hxl := HPL.out x (List.mem_of_getElem? hx)
                  have hfin : Hid (k1 ≠ 5 → z = (⟨x.toArray⟩ : ByteArray).size) := fun h => (HZX.out x hx h).trans (mk_size x).symm
                  rw [← mk_size x] at hxl
                  have hk3c := hk3b hl
                  clear hx
                  generalize (⟨x.toArray⟩ : ByteArray) = E at *
                  go_wp2_with fail
                  go_meet
                  case rel => exact ⟨E.size, rfl, hxl, hfin, rfl⟩
                · have hnil : P = [] := List.eq_nil_of_length_eq_zero (by omega)
                  subst hnil
                  have hfin : Hid (k1 ≠ 5 → z = 0) := fun _ => HZ0.out rfl
                  go_wp2_with fail
                  go_meet
                  case rel => exact ⟨0, rfl, by omega, hfin, rfl⟩
              case rest =>
                obtain ⟨y, rfl, hy, hfin, rfl⟩ := hcut
                go_upto_if 83 with (fail)
                go_cut [16] (fun s16 wx => s16 = .int .i64 z ∧ Y = wx)
                case first =>
                  by_cases h6 : k1 = 5
                  · have hz := HZ6.out h6
                    subst h6
                    subst hz
                    go_wp2_with fail
                    go_meet
                    case rel => exact ⟨rfl, rfl⟩
                  · have h7 : (1 + (k1 : Int) == 6) = false := beq_eq_false_iff_ne.2 (by omega)
                    have hz := hfin.out h6
                    subst hz
                    go_wp2_with fail
                    go_meet
                    case rel => exact ⟨rfl, rfl⟩
                case rest =>
                  obtain ⟨rfl, rfl⟩ := hcut
                  have hzle : z ≤ 65536 := by
                    by_cases h6 : k1 = 5
                    · rw [HZ6.out h6]
                      exact hPl
                    · rw [hfin.out h6]
                      exact hy
                  obtain ⟨k4, hk4, hk4a, hk4b⟩ := modV_nat (gV (gS (gS (gS σ)))) z
                  have HK4 := Lib.hid hk4
                  have M4 := Lib.hid (rmod_as (n := z) hk4 (gV_bd _) (by omega))
                  have v3 : Y.cell? ⟨bx, 3, none⟩ = some (.int .u64 (gV (gS (gS (gS σ))))) := blk_cell HX5.out 3 _ rfl
                  have f3 := HD5.out.frozen 3
                  clear hk4 hfin
                  go_wp2_with fail
                  refine (M4.out _).mono ?_
                  rintro e w7 ⟨rfl, rfl⟩
                  go_upto_region 24 with (fail)
                  have hD6 : DAt (Y.setCell ⟨bd, 3, none⟩ (.int .i64 k4)) bd (1 + k1) k2 k3 k4 (1 + k5) := blk_set HD5.out _
                  have hS6 := HS5.out.far hwd HFD.out 3 (.int .i64 k4)
                  have hfin : Hid (plan rs k s ++ [⟨1 + k1, k2, k3, k4, 1 + k5⟩] = plan rs (k + 1) s) := by
                    show _ = _
                    rw [plan_succ, HSG.out]
                    unfold dmgOf
                    rw [HPP.out, HZ.out]
                    unfold pkKind pkReel pkPiece pkAt pkLen
                    rw [HK1.out, HK2.out, HK3.out, HK4.out, HK5.out]
                  have hst5 : Hid (st5 σ 5 = stK (k + 1) s) := by
                    show _ = gS5 (stK k s)
                    rw [HSG.out]
                    rfl
                  clear d0 d1 d2 d3 d4 f3 v3 HS5 HD5 HX5
                  generalize Y.setCell ⟨bd, 3, none⟩ (.int .i64 k4) = Z at *
                  have HS6 := Lib.hid hS6
                  obtain ⟨d0, d1, d2, d3, d4⟩ := hD6.cells
                  have hZs : w.heap.size ≤ Z.heap.size := hS6.2.size
                  have hpl : (plan rs k s).length ≤ 65536 := by rw [plan_length]; omega
                  clear hS6 hD6
                  go_wp2_with (at_builtin; refine wpList_appD rfl (.tmp 91) (.tmp 93) rfl w.heap.size u7 (plan rs k s) rfl HS6.out.1 ⟨1 + k1, k2, k3, k4, 1 + k5⟩ rfl hpl hZs ?_; intro v' Q ho hbq hgq)
                  go_roundw
                  case rel =>
                    rw [hfin.out] at ho
                    have hps : RSt w v' (plan rs (k + 1) s) Q := ⟨ho, HS6.out.2.trans hbq⟩
                    have hstt : Value.int .u64 (st5 σ 5) = .int .u64 (stK (k + 1) s) := by rw [hst5.out]
                    first | exact ⟨k + 1, by omega, by go_num, hstt, hps⟩ | ((repeat apply Exists.intro); exact ⟨⟨k + 1, by omega, by go_num, hstt, hps⟩, rfl⟩)
                  case measure => simp [intOf]; omega
    · obtain rfl : k = N := by omega
      by_cases hkn : (k : Int) < n
      · have hk2 : ¬ ((k : Int) < 1000) := by
          have := HEND.out
          omega
        go_wp2_with fail
        go_ret
        exact ⟨_, rfl, hS.1, hS.2⟩
      · go_wp2_with fail
        go_ret
        exact ⟨_, rfl, hS.1, hS.2⟩
end Go.Proofs.Ytghpolfmhnnbaaa
