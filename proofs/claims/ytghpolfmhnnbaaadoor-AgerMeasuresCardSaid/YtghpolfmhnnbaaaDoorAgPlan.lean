/-
  The walk of ager.Plan.
-/
import Derived.Test.YtghpolfmhnnbaaaDoorAgMem
import Derived.Test.YtghpolfmhnnbaaaDoorAgSame
import Derived.Deep.DeepCutAuto
import Derived.Deep.CutRange
namespace Go.Proofs.YtghpolfmhnnbaaaDoor
open Go.RowKit

/-- Block b is one cell that holds the generator's state. -/
def GenAt (w : World) (b : Nat) (s : Int) : Prop := w.heap[b]? = some (.cells #[.int .u64 s] 39 (0, 0))
/-- Only block b may have changed; nothing was made. -/
theorem gen_step (b : Nat) (s : Int) (w : World) (h : GenAt w b s) :
    Calls Tryd.prog 38 #[.pointer (some ⟨b, 0, none⟩)] w fun e w' => e = .returned (.int .u64 (gV s)) ∧ GenAt w' b (gS s) ∧ w.grownBy w' (some b) ∧ w'.heap.size = w.heap.size := by
  have hc : w.cell? ⟨b, 0, none⟩ = some (.int .u64 s) := blk_cell h 0 _ rfl
  have hf : w.frozen? ⟨b, 0, none⟩ = false := by
    unfold GenAt at h
    simp [World.frozen?, h]
  refine (gen_any b s w hc hf).mono ?_
  rintro e w' ⟨rfl, rfl⟩
  refine ⟨rfl, ?_, ⟨rfl, rfl, rfl, by simp [World.setCell], fun k hk hne => Below.heap_setCell w ⟨b, 0, none⟩ _ k (fun e => hne (by rw [e]))⟩, by simp [World.setCell]⟩
  unfold GenAt at h ⊢
  simp [World.setCell, Array.getElem?_modify, h]

set_option maxHeartbeats 1000000 in
set_option maxRecDepth 100000 in
theorem gen_new (s : Int) (w : World) :
    Calls Tryd.prog 16 #[.int .u64 s] w fun e w' => e = .returned (.func (.func 38) #[] #[.pointer (some ⟨w.heap.size, 0, none⟩)]) ∧ w.alloc (.cells #[.int .u64 s] 39) = w' := by
  go_enter Tryd.func16, Tryd.ntmps16
  go_wp2_with fail
  go_ret
  exact ⟨rfl, rfl⟩

theorem mod_as {x : Int} {n k : Nat} (h : modV x n = k) (h0 : 0 ≤ x ∧ x ≤ 18446744073709551615) (hn : n ≤ 9223372036854775807) (w : World) :
    Calls Tryd.prog 17 #[.int .u64 x, .int .i64 n] w fun e w' => e = .returned (.int .i64 k) ∧ w = w' := by
  refine (mod_any x n w h0.1 h0.2 hn).mono ?_
  rintro e w' ⟨rfl, rfl⟩
  exact ⟨by rw [h], rfl⟩
theorem modV_nat (x : Int) (n : Nat) : ∃ k : Nat, modV x n = k ∧ k ≤ n ∧ (0 < n → k < n) := by
  have := modV_bd x n
  exact ⟨(modV x n).toNat, by omega, by omega, by omega⟩

/-- Between the steps of a round: the generator's box, the row of actions. -/
def PSt (w : World) (sg : Int) (v : Value) (ds : List Dmg) (X : World) : Prop :=
  GenAt X w.heap.size sg ∧ OwnD X (w.heap.size + 1) v ds ∧ Below w.heap.size w X ∧ w.heap.size + 1 ≤ X.heap.size
section
variable {w X X' : World} {sg sg' : Int} {v : Value} {ds : List Dmg}
theorem OwnD.ne_ {B : Nat} (h : OwnD X (B + 1) v ds) : v.ownBlock = none ∨ v.ownBlock ≠ some B := by
  right
  intro e
  have := (World.ownsRow.lt h B e).1
  omega
theorem PSt.gen (h : PSt w sg v ds X) (hg : GenAt X' w.heap.size sg') (hw : X.grownBy X' (some w.heap.size)) (hz : X'.heap.size = X.heap.size) : PSt w sg' v ds X' :=
  ⟨hg, World.ownsRow.kept h.2.1 hw h.2.1.ne_, h.2.2.1.grown hw (by have := h.2.2.2; omega) (fun k hk => by injection hk with hk; omega), by rw [hz]; exact h.2.2.2⟩
theorem PSt.alloc (h : PSt w sg v ds X) (o : Obj) : PSt w sg v ds (X.alloc o) :=
  ⟨blk_alloc h.1, World.ownsRow.alloc h.2.1 o, h.2.2.1.alloc (by have := h.2.2.2; omega) o, by have := h.2.2.2; simp; omega⟩
theorem PSt.far (h : PSt w sg v ds X) {b : Nat} (hb : w.heap.size < b) (hv : ∀ g, v.ownBlock = some g → g ≠ b) (i : Nat) (u : Value) : PSt w sg v ds (X.setCell ⟨b, i, none⟩ u) := by
  have hg : X.grownBy (X.setCell ⟨b, i, none⟩ u) (some b) := ⟨rfl, rfl, rfl, by simp [World.setCell], fun k hk hne => Below.heap_setCell X ⟨b, i, none⟩ _ k (fun e => hne (by rw [e]))⟩
  refine ⟨(hg.block _ (Array.getElem?_eq_some_iff.1 h.1).1 (fun e => by injection e; omega)).trans h.1, World.ownsRow.kept h.2.1 hg ?_, h.2.2.1.grown hg (by have := h.2.2.2; omega) (fun k hk => by injection hk with hk; omega), by have := h.2.2.2; simpa [World.setCell] using this⟩
  cases hv' : v.ownBlock with
  | none => exact .inl rfl
  | some g => exact .inr (fun e => hv g hv' (by injection e))
theorem PSt.app {v' : Value} {ds' : List Dmg} (h : PSt w sg v ds X) (ho : OwnD X' (w.heap.size + 1) v' ds') (hb : Below (w.heap.size + 1) X X') : PSt w sg v' ds' X' :=
  ⟨(hb.block _ (by omega)).trans h.1, ho, h.2.2.1.trans (hb.mono (by omega)), Nat.le_trans h.2.2.2 hb.size⟩
theorem OwnD.more {B B' : Nat} (h : OwnD X B v ds) (hB : B' ≤ B) : OwnD X B' v ds := by
  refine ⟨h.1, ?_⟩
  rcases h.2 with hn | ⟨g, cap, cur, rfl, h1, rest⟩
  · exact .inl hn
  · exact .inr ⟨g, cap, cur, rfl, by omega, rest⟩
/-- The block of an action. -/
def DAt (X : World) (b : Nat) (a0 a1 a2 a3 a4 : Int) : Prop := X.heap[b]? = some (.cells #[.int .i64 a0, .int .i64 a1, .int .i64 a2, .int .i64 a3, .int .i64 a4] 31 (0, 0))
theorem DAt.gen {b B : Nat} {a0 a1 a2 a3 a4 : Int} (h : DAt X b a0 a1 a2 a3 a4) (hw : X.grownBy X' (some B)) (hne : B < b) : DAt X' b a0 a1 a2 a3 a4 :=
  (hw.block _ (Array.getElem?_eq_some_iff.1 h).1 (fun e => by injection e; omega)).trans h
theorem DAt.cells {b : Nat} {a0 a1 a2 a3 a4 : Int} (h : DAt X b a0 a1 a2 a3 a4) : X.cell? ⟨b, 0, none⟩ = some (.int .i64 a0) ∧ X.cell? ⟨b, 1, none⟩ = some (.int .i64 a1) ∧ X.cell? ⟨b, 2, none⟩ = some (.int .i64 a2) ∧ X.cell? ⟨b, 3, none⟩ = some (.int .i64 a3) ∧ X.cell? ⟨b, 4, none⟩ = some (.int .i64 a4) :=
  ⟨blk_cell h 0 _ rfl, blk_cell h 1 _ rfl, blk_cell h 2 _ rfl, blk_cell h 3 _ rfl, blk_cell h 4 _ rfl⟩
theorem DAt.frozen {b : Nat} {a0 a1 a2 a3 a4 : Int} (h : DAt X b a0 a1 a2 a3 a4) (i : Nat) : X.frozen? ⟨b, i, none⟩ = false := by
  unfold DAt at h
  simp [World.frozen?, h]
theorem blk_set {b i : Nat} {cs : Array Value} {E : TypeId} {m : Nat × Nat} (h : X.heap[b]? = some (.cells cs E m)) (u : Value) : (X.setCell ⟨b, i, none⟩ u).heap[b]? = some (.cells (cs.setIfInBounds i u) E m) := by
  simp [World.setCell, Array.getElem?_modify, h]
theorem DAt.set2 {b : Nat} {a0 a1 a2 a3 a4 u : Int} (h : DAt X b a0 a1 a2 a3 a4) : DAt (X.setCell ⟨b, 2, none⟩ (.int .i64 u)) b a0 a1 u a3 a4 := blk_set h _
theorem DAt.set34 {b : Nat} {a0 a1 a2 a3 a4 u t : Int} (h : DAt X b a0 a1 a2 a3 a4) : DAt ((X.setCell ⟨b, 3, none⟩ (.int .i64 u)).setCell ⟨b, 4, none⟩ (.int .i64 t)) b a0 a1 a2 u t := blk_set (blk_set h _) _
end

set_option maxHeartbeats 4000000 in
set_option maxRecDepth 100000 in
theorem plan_any (s n : Int) (ao : Option Addr) (len cap : Nat) (rs : List Reel) (w : World) (hr : Reels w ao len rs) (hlen : len ≤ 65536) (hp : ∀ r ∈ rs, r.ps.length ≤ 65536 ∧ ∀ x ∈ r.ps, x.length ≤ 65536) (hn0 : -9223372036854775808 ≤ n) (hn1 : n ≤ 9223372036854775807) :
    Calls Tryd.prog 10 #[.int .u64 s, .int .i64 n, .slice ao len cap] w fun e w' => ∃ v, e = .returned v ∧ OwnD w' w.heap.size v (plan rs (planN n) s) ∧ Below w.heap.size w w' := by
  obtain ⟨N, hN⟩ : ∃ N, planN n = N := ⟨_, rfl⟩
  have hmm : min (max n 0) 1000 = (N : Int) := by
    rw [← hN]
    unfold planN
    split
    · omega
    · split <;> omega
  have hNle : N ≤ 1000 := by
    omega
  have HN := Lib.hid hN
  rw [hN]
  have HR := Lib.hid hr
  have HP := Lib.hid hp
  clear hN hr hp
  go_enter Tryd.func10, Tryd.ntmps10
  go_wp2_with fail
  refine (gen_new _ _).mono ?_
  rintro e w1 ⟨rfl, rfl⟩
  go_wp2_with fail
  clear hmm
  go_loopw [8, 17] (fun v i wr => ∃ k : Nat, k ≤ N ∧ i = .int .i64 k ∧ PSt w (stK k s) v (plan rs k s) wr) (fun _ i _ => N - (intOf i).toNat)
  case atStart => exact ⟨0, Nat.zero_le _, rfl, heap_alloc_new w _, World.ownsRow_nil _ _ _ _, (Below.refl _ w).alloc (Nat.le_refl _) _, by simp⟩
  case round =>
    obtain ⟨k, hk, rfl, hS⟩ := hrel
    by_cases hlt : k < N
    · obtain ⟨σ, hσ⟩ : ∃ σ, stK k s = σ := ⟨_, rfl⟩
      rw [hσ] at hS
      have HSG := Lib.hid hσ
      clear hσ
      obtain ⟨rfl, HR2⟩ := HR.out
      obtain ⟨k1, hk1, _, hk1b⟩ := modV_nat (gV σ) 8
      obtain ⟨k2, hk2, hk2a, hk2b⟩ := modV_nat (gV (gS σ)) rs.length
      have HK1 := Lib.hid hk1
      have HK2 := Lib.hid hk2
      clear hk1 hk2
      go_wp2_with fail
      refine (gen_step w.heap.size σ _ hS.1).mono ?_
      rintro e w1 ⟨rfl, hg1, hw1, hz1⟩
      have hS1 := hS.gen hg1 hw1 hz1
      clear hS hg1 hw1 hz1
      go_wp2_with fail
      refine (mod_as HK1.out (gV_bd _) (by omega) _).mono ?_
      rintro e w2 ⟨rfl, rfl⟩
      go_wp2_with fail
      refine (gen_step w.heap.size _ _ hS1.1).mono ?_
      rintro e w2 ⟨rfl, hg1, hw1, hz1⟩
      have hS2 := hS1.gen hg1 hw1 hz1
      clear hS1 hg1 hw1 hz1
      go_wp2_with fail
      refine (mod_as HK2.out (gV_bd _) (by omega) _).mono ?_
      rintro e w3 ⟨rfl, rfl⟩
      go_upto_if 31 with (fail)
      have hD : DAt (w2.alloc (.cells #[.int .i64 (1 + k1), .int .i64 k2, .int .i64 0, .int .i64 0, .int .i64 0] 31)) w2.heap.size (1 + k1) k2 0 0 0 := heap_alloc_new w2 _
      have hS3 := hS2.alloc (.cells #[.int .i64 (1 + k1), .int .i64 k2, .int .i64 0, .int .i64 0, .int .i64 0] 31)
      have hb0 : w.heap.size < w2.heap.size := by have := hS2.2.2.2; omega
      have hfar : ∀ g, u8.ownBlock = some g → g ≠ w2.heap.size := fun g hg => by have := (World.ownsRow.lt hS2.2.1 g hg).2; omega
      clear hS2
      generalize w2.alloc (.cells #[.int .i64 (1 + k1), .int .i64 k2, .int .i64 0, .int .i64 0, .int .i64 0] 31) = X at *
      generalize w2.heap.size = b at *
      have HFAR := Lib.hid hfar
      have HS3 := Lib.hid hS3
      have HDD := Lib.hid hD
      have hb3 := hS3.2.2.1
      obtain ⟨d0, d1, d2, d3, d4⟩ := hD.cells
      have f2 := hD.frozen 2
      have f3 := hD.frozen 3
      have f4 := hD.frozen 4
      clear hfar hS3 hD
      obtain ⟨P, hP⟩ : ∃ P, pkPs rs σ = P := ⟨_, rfl⟩
      have HPP := Lib.hid hP
      have hPl : P.length ≤ 65536 ∧ ∀ x ∈ P, x.length ≤ 65536 := by
        rw [← hP]
        unfold pkPs
        split
        · exact HP.out _ (List.mem_of_getElem? ‹_›)
        · simp
      have HPL := Lib.hid hPl.2
      have hPl := hPl.1
      clear hP
      go_cut [10] (fun s10 wx => ∃ ap cp, s10 = .slice ap P.length cp ∧ Strs w ap P.length P ∧ X = wx)
      case first =>
        by_cases hl : 0 < rs.length
        · obtain ⟨r, hx⟩ : ∃ x, rs[k2]? = some x := ⟨_, List.getElem?_eq_getElem (hk2b hl)⟩
          obtain ⟨b1, o1, rfl, hc1, ap, cp, hc2, hcp, hst⟩ := HR2 k2 r hx
          have hr1 : P = r.ps := by
            rw [← HPP.out]
            refine pkPs_some ?_
            unfold pkReel
            rw [HK2.out]
            exact hx
          have hlt1 := World.block_lt_of_cell? _ _ hc2
          have hc3 := (hb3.cell (p := ⟨b1, o1 + k2 * 2 + 1, none⟩) hlt1).trans hc2
          have HST := Lib.hid hst
          have HR1 := Lib.hid hr1
          have hk3 := hk2b hl
          clear hc1 hc2 hst hr1 hx
          go_wp2_with fail
          go_meet
          case rel => exact ⟨ap, cp, by rw [HR1.out], by rw [HR1.out]; exact HST.out, rfl⟩
        · have hnil : P = [] := by
            rw [← HPP.out, List.eq_nil_of_length_eq_zero (show rs.length = 0 by omega)]
            rfl
          subst hnil
          go_wp2_with fail
          go_meet
          case rel => exact ⟨none, 0, rfl, Strs.nil _ _, rfl⟩
      case rest =>
        obtain ⟨ap, cp, rfl, hst, rfl⟩ := hcut
        have HST := Lib.hid hst
        clear hst d0 d1 d2 d3 d4 f2 f3 f4 hb3
        obtain ⟨k3, hk3, hk3a, hk3b⟩ := modV_nat (gV (gS (gS σ))) P.length
        have HK3 := Lib.hid hk3
        clear hk3
        go_wp2_with fail
        refine (gen_step w.heap.size _ _ HS3.out.1).mono ?_
        rintro e w4 ⟨rfl, hg1, hw1, hz1⟩
        have hS4 := HS3.out.gen hg1 hw1 hz1
        have hD4 := HDD.out.gen hw1 hb0
        clear hg1 hw1 hz1
        obtain ⟨d0, d1, d2, d3, d4⟩ := hD4.cells
        have f2 := hD4.frozen 2
        have HS4 := Lib.hid hS4
        have HD4 := Lib.hid hD4
        clear hS4 hD4 HS3 HDD
        go_wp2_with fail
        refine (mod_as HK3.out (gV_bd _) (by omega) _).mono ?_
        rintro e w5 ⟨rfl, rfl⟩
        go_upto_if 46 with (fail)
        have hD5 := HD4.out.set2 (u := k3)
        have hS5 := HS4.out.far hb0 HFAR.out 2 (.int .i64 k3)
        clear d0 d1 d2 d3 d4 f2 HS4 HD4
        generalize w4.setCell ⟨b, 2, none⟩ (.int .i64 k3) = X at *
        have HS5 := Lib.hid hS5
        have HD5 := Lib.hid hD5
        have hst5 := HST.out.below hS5.2.2.1
        have HST5 := Lib.hid hst5
        obtain ⟨d0, d1, d2, d3, d4⟩ := hD5.cells
        have f3 := hD5.frozen 3
        have f4 := hD5.frozen 4
        clear hS5 hD5 hst5 HST
        obtain ⟨z, hz⟩ : ∃ z, pkSize P σ = z := ⟨_, rfl⟩
        have HZ := Lib.hid hz
        have hz6 : k1 = 5 → z = P.length := fun h => by
          rw [← hz]
          refine pkSize_6 ?_
          unfold pkKind
          rw [HK1.out, h]
          rfl
        have hz0 : P = [] → z = 0 := fun h => by
          rw [← hz, h]
          exact pkSize_none
        have hzx : ∀ x, P[k3]? = some x → k1 ≠ 5 → z = x.length := fun x hx h => by
          rw [← hz]
          refine pkSize_some ?_ ?_
          · unfold pkKind
            rw [HK1.out]
            omega
          · unfold pkPiece
            rw [HK3.out]
            exact hx
        have HZ6 := Lib.hid hz6
        have HZ0 := Lib.hid hz0
        have HZX := Lib.hid hzx
        clear hz hz6 hz0 hzx
        go_cut [11] (fun s11 wx => ∃ y : Nat, s11 = .int .i64 y ∧ y ≤ 65536 ∧ Hid (k1 ≠ 5 → z = y) ∧ X = wx)
        case first =>
          by_cases hl : 0 < P.length
          · obtain ⟨x, hx⟩ : ∃ x, P[k3]? = some x := ⟨_, List.getElem?_eq_getElem (hk3b hl)⟩
            obtain ⟨b1, o1, rfl, hc1⟩ := HST5.out.2 k3 x hx
            have hxl := HPL.out x (List.mem_of_getElem? hx)
            have hfin : Hid (k1 ≠ 5 → z = (⟨x.toArray⟩ : ByteArray).size) := fun h => (HZX.out x hx h).trans (mk_size x).symm
            rw [← mk_size x] at hxl
            have hk3c := hk3b hl
            clear hx
            generalize (⟨x.toArray⟩ : ByteArray) = Y at *
            go_wp2_with fail
            go_meet
            case rel => exact ⟨Y.size, rfl, hxl, hfin, rfl⟩
          · have hnil : P = [] := List.eq_nil_of_length_eq_zero (by omega)
            subst hnil
            have hfin : Hid (k1 ≠ 5 → z = 0) := fun _ => HZ0.out rfl
            go_wp2_with fail
            go_meet
            case rel => exact ⟨0, rfl, by omega, hfin, rfl⟩
        case rest =>
          obtain ⟨y, rfl, hy, hfin, rfl⟩ := hcut
          go_upto_if 55 with (fail)
          go_cut [11] (fun s11 wx => s11 = .int .i64 z ∧ X = wx)
          case first =>
            by_cases h6 : k1 = 5
            · have hz := HZ6.out h6
              subst h6
              subst hz
              go_wp2_with fail
              go_meet
              case rel => exact ⟨rfl, rfl⟩
            · have h7 : (1 + (k1 : Int) == 6) = false := beq_eq_false_iff_ne.2 (by omega)
              have hz := hfin.out h6
              subst hz
              go_wp2_with fail
              go_meet
              case rel => exact ⟨rfl, rfl⟩
          case rest =>
            obtain ⟨rfl, rfl⟩ := hcut
            have hzle : z ≤ 65536 := by
              by_cases h6 : k1 = 5
              · rw [HZ6.out h6]
                exact hPl
              · rw [hfin.out h6]
                exact hy
            obtain ⟨k4, hk4, hk4a, hk4b⟩ := modV_nat (gV (gS (gS (gS σ)))) z
            obtain ⟨k5, hk5, _, hk5b⟩ := modV_nat (gV (gS (gS (gS (gS σ))))) 90
            have HK4 := Lib.hid hk4
            have HK5 := Lib.hid hk5
            clear hk4 hk5 hfin d0 d1 d2 d3 d4 f3 f4
            go_wp2_with fail
            refine (gen_step w.heap.size _ _ HS5.out.1).mono ?_
            rintro e w6 ⟨rfl, hg1, hw1, hz1⟩
            have HS6 := Lib.hid (HS5.out.gen hg1 hw1 hz1)
            have HD6 := Lib.hid (HD5.out.gen hw1 hb0)
            clear hg1 hw1 hz1 HS5 HD5
            go_wp2_with fail
            refine (mod_as HK4.out (gV_bd _) (by omega) _).mono ?_
            rintro e w7 ⟨rfl, rfl⟩
            go_wp2_with fail
            refine (gen_step w.heap.size _ _ HS6.out.1).mono ?_
            rintro e w8 ⟨rfl, hg1, hw1, hz1⟩
            have HS7 := Lib.hid (HS6.out.gen hg1 hw1 hz1)
            have HD7 := Lib.hid (HD6.out.gen hw1 hb0)
            clear hg1 hw1 hz1 HS6 HD6
            obtain ⟨d0, d1, d2, d3, d4⟩ := HD7.out.cells
            have f3 := HD7.out.frozen 3
            have f4 := HD7.out.frozen 4
            go_wp2_with fail
            refine (mod_as HK5.out (gV_bd _) (by omega) _).mono ?_
            rintro e w9 ⟨rfl, rfl⟩
            go_upto_region 16 with (fail)
            have HS8 := Lib.hid ((HS7.out.far hb0 HFAR.out 3 (.int .i64 k4)).far hb0 HFAR.out 4 (.int .i64 (1 + k5)))
            have HD8 := Lib.hid (HD7.out.set34 (u := k4) (t := 1 + k5))
            have hfin : Hid (plan rs k s ++ [⟨1 + k1, k2, k3, k4, 1 + k5⟩] = plan rs (k + 1) s) := by
              show _ = _
              rw [plan_succ, HSG.out]
              unfold dmgOf
              rw [HPP.out, HZ.out]
              unfold pkKind pkReel pkPiece pkAt pkLen
              rw [HK1.out, HK2.out, HK3.out, HK4.out, HK5.out]
            have hst5 : Hid (gS (gS (gS (gS (gS σ)))) = stK (k + 1) s) := by
              show _ = gS5 (stK k s)
              rw [HSG.out]
              rfl
            clear d0 d1 d2 d3 d4 f3 f4 HS7 HD7
            generalize (w8.setCell ⟨b, 3, none⟩ (.int .i64 k4)).setCell ⟨b, 4, none⟩ (.int .i64 (1 + k5)) = Y at *
            obtain ⟨d0, d1, d2, d3, d4⟩ := HD8.out.cells
            have hYs : w.heap.size + 1 ≤ Y.heap.size := HS8.out.2.2.2
            have hpl : (plan rs k s).length ≤ 65536 := by rw [plan_length]; omega
            go_wp2_with (at_builtin; refine wpList_appD rfl (.tmp 68) (.tmp 70) rfl (w.heap.size + 1) u8 (plan rs k s) rfl HS8.out.2.1 ⟨1 + k1, k2, k3, k4, 1 + k5⟩ rfl hpl hYs ?_; intro v' Z ho hbz hgz)
            go_roundw
            case rel =>
              rw [hfin.out] at ho
              have hps := HS8.out.app ho hbz
              rw [hst5.out] at hps
              first | exact ⟨k + 1, by omega, by go_num, hps⟩ | ((repeat apply Exists.intro); exact ⟨⟨k + 1, by omega, by go_num, hps⟩, rfl⟩)
            case measure => simp [intOf]; omega
    · obtain rfl : k = N := by omega
      go_wp2_with fail
      go_ret
      exact ⟨_, rfl, OwnD.more hS.2.1 (by omega), hS.2.2.1⟩
end Go.Proofs.YtghpolfmhnnbaaaDoor
