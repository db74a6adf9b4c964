/-
  The walk of steleref10.before. Written by gen_vitrefb.py.
-/
import Derived.Test.YtnklgppfggkeoaaDoorVitRefM
import Derived.Test.YtnklgppfggkeoaaDoorVitRefP
import Derived.Test.YtnklgppfggkeoaaDoorVitTab
import Derived.Test.YtnklgppfggkeoaaDoorConvRef
namespace Go.Proofs.YtnklgppfggkeoaaDoor
open Go.RowKit

/-- The blocks of the reference's before. -/
def RefB (w : World) (S : Vit.Stg) (L : Array Value) (W : World) : Prop :=
  W.heap[w.heap.size]? = some (.cells (stgC S) 60 (0, 0)) ∧ W.heap[w.heap.size + 1]? = some (.cells zero8 60 (0, 0)) ∧ W.heap[w.heap.size + 1 + 1]? = some (.cells L 60 (0, 0)) ∧ Below w.heap.size w W
theorem RefB.lt {w W : World} {S : Vit.Stg} {L : Array Value} (h : RefB w S L W) : w.heap.size + 1 + 1 < W.heap.size := (Array.getElem?_eq_some_iff.1 h.2.2.1).1
theorem RefB.below {w W W' : World} {S : Vit.Stg} {L : Array Value} (h : RefB w S L W) (hb : Below W.heap.size W W') : RefB w S L W' := by
  have hl := h.lt
  exact ⟨(hb.block _ (by omega)).trans h.1, (hb.block _ (by omega)).trans h.2.1, (hb.block _ (by omega)).trans h.2.2.1, h.2.2.2.trans (hb.mono (by omega))⟩
theorem RefB.store {w W : World} {S : Vit.Stg} {L : Array Value} (h : RefB w S L W) (i : Nat) (v : Value) : RefB w S (L.setIfInBounds i v) (W.setCell ⟨w.heap.size + 1 + 1, i, none⟩ v) :=
  ⟨(Below.heap_setCell W _ _ _ (by simp; omega)).trans h.1, (Below.heap_setCell W _ _ _ (by simp)).trans h.2.1, block_set h.2.2.1 v, h.2.2.2.setCell (by simp; omega) _⟩
theorem RefB.drewN {w W : World} {S : Vit.Stg} {L : Array Value} (h : RefB w S L W) (n : Nat) : RefB w S L (W.drewN n) := ⟨h.1, h.2.1, h.2.2.1, below_drewN h.2.2.2 n⟩
/-- The result with the state k under way. -/
def curL (R : Vit.Stg) (k : Nat) (c : Vit.Suf) : Array Value := ((outC R k).setIfInBounds (k * 2) (.int .i64 c.1)).setIfInBounds (k * 2 + 1) (.int .i64 c.2)
theorem curL_set (R : Vit.Stg) (p q : Bool) (c : Vit.Suf) (a b : Int) : ((curL R (Conv.st p q) c).setIfInBounds (Conv.st p q * 2) (.int .i64 a)).setIfInBounds (Conv.st p q * 2 + 1) (.int .i64 b) = curL R (Conv.st p q) (a, b) := by
  cases p <;> cases q <;> rfl
theorem curL_two (R : Vit.Stg) (p q : Bool) (c : Vit.Suf) : (curL R (Conv.st p q) c).setIfInBounds (Conv.st p q * 2 + 1) (.int .i64 2) = curL R (Conv.st p q) (c.1, 2) := by
  cases p <;> cases q <;> rfl
theorem curL_get (R : Vit.Stg) (p q : Bool) (c : Vit.Suf) : (curL R (Conv.st p q) c)[Conv.st p q * 2]? = some (.int .i64 c.1) ∧ (curL R (Conv.st p q) c)[Conv.st p q * 2 + 1]? = some (.int .i64 c.2) := by
  cases p <;> cases q <;> exact ⟨rfl, rfl⟩
theorem stgC_at (S : Vit.Stg) (u p : Bool) : (stgC S)[Conv.st u p * 2]? = some (.int .i64 (S.get u p).1) ∧ (stgC S)[Conv.st u p * 2 + 1]? = some (.int .i64 (S.get u p).2) := by
  cases u <;> cases p <;> exact ⟨rfl, rfl⟩
theorem st_lt (p q : Bool) : Conv.st p q < 4 := by cases p <;> cases q <;> decide
theorem bit_lt (j : Nat) (h : j < 2) : ∃ u, j = Conv.bn u := by
  have : j = 0 ∨ j = 1 := by omega
  rcases this with rfl | rfl
  · exact ⟨false, rfl⟩
  · exact ⟨true, rfl⟩
theorem st_mod (p q : Bool) : ((Conv.st p q : Nat) : Int) % 4 = Conv.st p q := by cases p <;> cases q <;> rfl
theorem bn_mod (u : Bool) : ((Conv.bn u : Nat) : Int) % 2 = Conv.bn u := by cases u <;> rfl

set_option maxHeartbeats 4000000 in
set_option maxRecDepth 100000 in
theorem rbefore_any (s : ByteArray) (k : Nat) (x y : UInt8) (S : Vit.Stg) (hS : Small S) (hG : Vit.Good S)
    (hmis : ∀ (p q u : Bool) (w : World), Calls Tryd.prog 30 #[.string s, .int .i64 k, .string ⟨#[Conv.ch ((u ^^ p) ^^ q), Conv.ch (u ^^ q)]⟩] w fun e w' => e = .returned (.int .i64 (Vit.mis x y p q u)) ∧ ∃ n, w' = w.drewN n) (w : World) :
    Calls Tryd.prog 40 #[.string s, .int .i64 k, stgV S] w fun e w' => e = .returned (stgV (Vit.before x y S)) ∧ Below w.heap.size w w' := by
  have c59 : Tryd.prog.cellsOf 59 = 2 := by kernel_rfl
  have c60 : Tryd.prog.cellsOf 60 = 8 := by kernel_rfl
  obtain ⟨R, hR⟩ : ∃ R, Vit.before x y S = R := ⟨_, rfl⟩
  have HGET := Lib.hid fun (p q : Bool) => (by rw [← hR, Vit.get_before, Vit.rcur_one hG] : R.get p q = Vit.rcur x y S p q 2)
  have HMIS := Lib.hid hmis
  rw [hR]
  clear hmis hR
  simp only [stgV]
  obtain ⟨⟨c0, p0⟩, ⟨c1, p1⟩, ⟨c2, p2⟩, ⟨c3, p3⟩⟩ := S
  go_enter Tryd.func40, Tryd.ntmps40
  go_wp2_with fail
  go_loopg [8] 4 (fun g iv wr => ∃ k : Nat, g = 4 - k ∧ k ≤ 4 ∧ iv = .int .i64 k ∧ RefB w ⟨(c0, p0), (c1, p1), (c2, p2), (c3, p3)⟩ (outC R k) wr)
  case atStart =>
    have e0 := heap_alloc_new w (.cells (stgC ⟨(c0, p0), (c1, p1), (c2, p2), (c3, p3)⟩) 60)
    have e1 := heap_alloc_new (w.alloc (.cells (stgC ⟨(c0, p0), (c1, p1), (c2, p2), (c3, p3)⟩) 60)) (.cells zero8 60)
    have e2 := heap_alloc_new ((w.alloc (.cells (stgC ⟨(c0, p0), (c1, p1), (c2, p2), (c3, p3)⟩) 60)).alloc (.cells zero8 60)) (.cells zero8 60)
    rw [World.size_alloc] at e1
    rw [World.size_alloc, World.size_alloc] at e2
    exact ⟨0, rfl, by omega, rfl, hb_alloc (hb_alloc e0), hb_alloc e1, e2, (((Below.refl _ w).alloc (Nat.le_refl _) _).alloc (by simp) _).alloc (by simp; omega) _⟩
  case round =>
    obtain ⟨i, hg, hi, rfl, hB⟩ := hrel
    have HG := Lib.hid hg
    clear hg
    by_cases hlt : i < 4
    · obtain ⟨p, q, rfl⟩ := state_lt i hlt
      have hO := outC_get R p q
      have o0 := block_cell hB.2.2.1 (Conv.st p q * 2) _ hO.1
      have o1 := block_cell hB.2.2.1 (Conv.st p q * 2 + 1) _ hO.2
      have o2 := block_free hB.2.2.1 (Conv.st p q * 2)
      have o3 := block_free hB.2.2.1 (Conv.st p q * 2 + 1)
      have hfin := (hB.store (Conv.st p q * 2) (.int .i64 (-1))).store (Conv.st p q * 2 + 1) (.int .i64 0)
      have hfin : RefB w ⟨(c0, p0), (c1, p1), (c2, p2), (c3, p3)⟩ (curL R (Conv.st p q) (Vit.rcur x y ⟨(c0, p0), (c1, p1), (c2, p2), (c3, p3)⟩ p q 0)) _ := hfin
      clear hB hO
      have hst := st_lt p q
      have hsucc : curL R (Conv.st p q) (R.get p q) = outC R (Conv.st p q + 1) := outC_succ R p q
      rw [HGET.out p q] at hsucc
      have HSUCC := Lib.hid hsucc
      have HSET := Lib.hid (curL_set R p q)
      have HTWO := Lib.hid (curL_two R p q)
      have HGC := Lib.hid (curL_get R p q)
      have HNX := Lib.hid fun (u : Bool) (w : World) => rnext_any (Conv.st p q) (Conv.bn u) p q u w (st_mod p q) (bn_mod u) (by omega) (by omega) (by omega) (by cases u <;> decide)
      clear hsucc
      generalize Conv.st p q = i at *
      have hlti : (i : Int) < 4 := by omega
      go_wp2_with fail
      go_loopg [9] 2 (fun g jv wx => ∃ j : Nat, g = 2 - j ∧ j ≤ 2 ∧ jv = .int .i64 j ∧ RefB w ⟨(c0, p0), (c1, p1), (c2, p2), (c3, p3)⟩ (curL R i (Vit.rcur x y ⟨(c0, p0), (c1, p1), (c2, p2), (c3, p3)⟩ p q j)) wx)
      case atStart => exact ⟨0, rfl, by omega, rfl, hfin⟩
      case round =>
        obtain ⟨j, hg2, hj, rfl, hC⟩ := hrel
        have HG2 := Lib.hid hg2
        clear hg2 hfin o0 o1 o2 o3
        by_cases hj2 : j < 2
        · obtain ⟨u, rfl⟩ := bit_lt j hj2
          have hnx := HNX.out u
          have hat := stgC_at ⟨(c0, p0), (c1, p1), (c2, p2), (c3, p3)⟩ u p
          have hsu := st_lt u p
          have hsb := hS u p
          have hcb := Vit.rcur_cost x y ⟨(c0, p0), (c1, p1), (c2, p2), (c3, p3)⟩ p q (fun u p => ⟨(hS u p).1, (hS u p).2.1⟩) (Conv.bn u)
          have hnext := Vit.rcur_bn x y ⟨(c0, p0), (c1, p1), (c2, p2), (c3, p3)⟩ p q u
          have hcg := HGC.out (Vit.rcur x y ⟨(c0, p0), (c1, p1), (c2, p2), (c3, p3)⟩ p q (Conv.bn u))
          have hm := HMIS.out p q u
          have hmb := Vit.mis_bd x y p q u
          have hset := fun a b => HSET.out (Vit.rcur x y ⟨(c0, p0), (c1, p1), (c2, p2), (c3, p3)⟩ p q (Conv.bn u)) a b
          have htwo := HTWO.out (Vit.rcur x y ⟨(c0, p0), (c1, p1), (c2, p2), (c3, p3)⟩ p q (Conv.bn u))
          unfold Vit.rstep at hnext
          obtain ⟨⟨nc, np⟩, hn⟩ : ∃ n, Vit.Stg.get ⟨(c0, p0), (c1, p1), (c2, p2), (c3, p3)⟩ u p = n := ⟨_, rfl⟩
          obtain ⟨⟨cc, cp⟩, hcc⟩ : ∃ n, Vit.rcur x y ⟨(c0, p0), (c1, p1), (c2, p2), (c3, p3)⟩ p q (Conv.bn u) = n := ⟨_, rfl⟩
          rw [hn] at hat hsb hnext
          rw [hcc] at hC hcb hnext hcg hset htwo
          simp only at hat hsb hnext hcg hcb htwo
          clear hn hcc
          have HN := Lib.hid hnext
          have HS2 := Lib.hid hset
          have HT2 := Lib.hid htwo
          have HM := Lib.hid hm
          have HAT := Lib.hid hat
          have HCG := Lib.hid hcg
          clear hnext hset htwo hm hat hcg HSET HTWO HGC HMIS HGET
          have hbn : Conv.bn u < 2 := hj2
          have hbni : ((Conv.bn u : Nat) : Int) < 2 := by omega
          generalize Vit.mis x y p q u = M at *
          generalize Conv.st u p = nx at *
          generalize (#[Conv.ch ((u ^^ p) ^^ q), Conv.ch (u ^^ q)] : Array UInt8) = OO at *
          generalize Conv.bn u = j at *
          go_wp2_with fail
          refine (hnx _).mono ?_
          rintro e w5 ⟨rfl, hb5⟩
          have hC5 := hC.below hb5
          have a0 := block_cell hC5.1 _ _ HAT.out.1
          have a1 := block_cell hC5.1 _ _ HAT.out.2
          clear hnx hC
          by_cases h1 : nc < 0
          · have hfin2 : RefB w ⟨(c0, p0), (c1, p1), (c2, p2), (c3, p3)⟩ (curL R i (Vit.rcur x y ⟨(c0, p0), (c1, p1), (c2, p2), (c3, p3)⟩ p q (j + 1))) w5 := by
              rw [HN.out, if_pos h1]
              exact hC5
            go_wp2_with fail
            go_roundg (2 - (j + 1))
            case measure => have := HG2.out; omega
            case rel => exact ⟨j + 1, rfl, by omega, by go_num, hfin2⟩
          · go_wp2_with fail
            go_quiet (exact Calls.quiet_of (HM.out _))
            have hC6 := hC5.drewN nq
            have a2 : (w5.drewN nq).cell? _ = _ := a0
            have a3 : (w5.drewN nq).cell? _ = _ := a1
            have o0 := block_cell hC6.2.2.1 (i * 2) _ HCG.out.1
            have o1 := block_cell hC6.2.2.1 (i * 2 + 1) _ HCG.out.2
            have o2 := block_free hC6.2.2.1 (i * 2)
            have o3 := block_free hC6.2.2.1 (i * 2 + 1)
            clear a0 a1 hC5
            generalize w5.drewN nq = W6 at *
            have hsetw := (hC6.store (i * 2) (.int .i64 (M + nc))).store (i * 2 + 1) (.int .i64 np)
            rw [HS2.out] at hsetw
            have htwow := hC6.store (i * 2 + 1) (.int .i64 2)
            rw [HT2.out] at htwow
            by_cases h2 : cc < 0
            · rw [show (M + nc, np) = Vit.rcur x y ⟨(c0, p0), (c1, p1), (c2, p2), (c3, p3)⟩ p q (j + 1) by rw [HN.out, if_neg (show ¬ nc < 0 by omega), if_pos (.inl h2)]] at hsetw
              clear htwow hC6
              go_wp2_with fail
              go_roundg (2 - (j + 1))
              case measure => have := HG2.out; omega
              case rel => exact ⟨j + 1, rfl, by omega, by go_num, hsetw⟩
            · by_cases h3 : M + nc < cc
              · rw [show (M + nc, np) = Vit.rcur x y ⟨(c0, p0), (c1, p1), (c2, p2), (c3, p3)⟩ p q (j + 1) by rw [HN.out, if_neg (show ¬ nc < 0 by omega), if_pos (.inr h3)]] at hsetw
                clear htwow hC6
                go_wp2_with fail
                go_roundg (2 - (j + 1))
                case measure => have := HG2.out; omega
                case rel => exact ⟨j + 1, rfl, by omega, by go_num, hsetw⟩
              · by_cases h4 : M + nc = cc
                · rw [show (cc, (2 : Int)) = Vit.rcur x y ⟨(c0, p0), (c1, p1), (c2, p2), (c3, p3)⟩ p q (j + 1) by rw [HN.out, if_neg (show ¬ nc < 0 by omega), if_neg (show ¬ (cc < 0 ∨ M + nc < cc) by omega), if_pos h4]] at htwow
                  have h5 : (M + nc == cc) = true := beq_iff_eq.2 h4
                  clear hsetw hC6 h4
                  go_wp2_with fail
                  go_roundg (2 - (j + 1))
                  case measure => have := HG2.out; omega
                  case rel => exact ⟨j + 1, rfl, by omega, by go_num, htwow⟩
                · have hkeep : RefB w ⟨(c0, p0), (c1, p1), (c2, p2), (c3, p3)⟩ (curL R i (Vit.rcur x y ⟨(c0, p0), (c1, p1), (c2, p2), (c3, p3)⟩ p q (j + 1))) W6 := by
                    rw [HN.out, if_neg (show ¬ nc < 0 by omega), if_neg (show ¬ (cc < 0 ∨ M + nc < cc) by omega), if_neg (show ¬ M + nc = cc by omega)]
                    exact hC6
                  have h5 : (M + nc == cc) = false := beq_eq_false_iff_ne.2 h4
                  clear hsetw htwow hC6
                  go_wp2_with fail
                  go_roundg (2 - (j + 1))
                  case measure => have := HG2.out; omega
                  case rel => exact ⟨j + 1, rfl, by omega, by go_num, hkeep⟩
        · obtain rfl : j = 2 := by omega
          rw [HSUCC.out] at hC
          go_wp2_with fail
          go_roundg (4 - (i + 1))
          case measure => have := HG.out; omega
          case rel => exact ⟨i + 1, rfl, by omega, by go_num, hC⟩
    · obtain rfl : i = 4 := by omega
      obtain ⟨⟨r0, s0⟩, ⟨r1, s1⟩, ⟨r2, s2⟩, ⟨r3, s3⟩⟩ := R
      have hw3 := hB.lt
      have y0 := block_cell hB.2.2.1 0 (.int .i64 r0) rfl
      have y1 := block_cell hB.2.2.1 1 (.int .i64 s0) rfl
      have y2 := block_cell hB.2.2.1 2 (.int .i64 r1) rfl
      have y3 := block_cell hB.2.2.1 3 (.int .i64 s1) rfl
      have y4 := block_cell hB.2.2.1 4 (.int .i64 r2) rfl
      have y5 := block_cell hB.2.2.1 5 (.int .i64 s2) rfl
      have y6 := block_cell hB.2.2.1 6 (.int .i64 r3) rfl
      have y7 := block_cell hB.2.2.1 7 (.int .i64 s3) rfl
      have x0 := block_cell hB.2.1 0 (.int .i64 0) rfl
      have f0 := block_free hB.2.1 0
      have x1 := block_cell hB.2.1 1 (.int .i64 0) rfl
      have f1 := block_free hB.2.1 1
      have x2 := block_cell hB.2.1 2 (.int .i64 0) rfl
      have f2 := block_free hB.2.1 2
      have x3 := block_cell hB.2.1 3 (.int .i64 0) rfl
      have f3 := block_free hB.2.1 3
      have x4 := block_cell hB.2.1 4 (.int .i64 0) rfl
      have f4 := block_free hB.2.1 4
      have x5 := block_cell hB.2.1 5 (.int .i64 0) rfl
      have f5 := block_free hB.2.1 5
      have x6 := block_cell hB.2.1 6 (.int .i64 0) rfl
      have f6 := block_free hB.2.1 6
      have x7 := block_cell hB.2.1 7 (.int .i64 0) rfl
      have f7 := block_free hB.2.1 7
      have g0 : (wr.setCell ⟨w.heap.size + 1, 0, none⟩ (.int .i64 r0)).heap[w.heap.size + 1]? = some (.cells #[.int .i64 r0, .int .i64 0, .int .i64 0, .int .i64 0, .int .i64 0, .int .i64 0, .int .i64 0, .int .i64 0] 60 (0, 0)) := block_set hB.2.1 (.int .i64 r0)
      have g1 : ((wr.setCell ⟨w.heap.size + 1, 0, none⟩ (.int .i64 r0)).setCell ⟨w.heap.size + 1, 1, none⟩ (.int .i64 s0)).heap[w.heap.size + 1]? = some (.cells #[.int .i64 r0, .int .i64 s0, .int .i64 0, .int .i64 0, .int .i64 0, .int .i64 0, .int .i64 0, .int .i64 0] 60 (0, 0)) := block_set g0 (.int .i64 s0)
      have g2 : (((wr.setCell ⟨w.heap.size + 1, 0, none⟩ (.int .i64 r0)).setCell ⟨w.heap.size + 1, 1, none⟩ (.int .i64 s0)).setCell ⟨w.heap.size + 1, 2, none⟩ (.int .i64 r1)).heap[w.heap.size + 1]? = some (.cells #[.int .i64 r0, .int .i64 s0, .int .i64 r1, .int .i64 0, .int .i64 0, .int .i64 0, .int .i64 0, .int .i64 0] 60 (0, 0)) := block_set g1 (.int .i64 r1)
      have g3 : ((((wr.setCell ⟨w.heap.size + 1, 0, none⟩ (.int .i64 r0)).setCell ⟨w.heap.size + 1, 1, none⟩ (.int .i64 s0)).setCell ⟨w.heap.size + 1, 2, none⟩ (.int .i64 r1)).setCell ⟨w.heap.size + 1, 3, none⟩ (.int .i64 s1)).heap[w.heap.size + 1]? = some (.cells #[.int .i64 r0, .int .i64 s0, .int .i64 r1, .int .i64 s1, .int .i64 0, .int .i64 0, .int .i64 0, .int .i64 0] 60 (0, 0)) := block_set g2 (.int .i64 s1)
      have g4 : (((((wr.setCell ⟨w.heap.size + 1, 0, none⟩ (.int .i64 r0)).setCell ⟨w.heap.size + 1, 1, none⟩ (.int .i64 s0)).setCell ⟨w.heap.size + 1, 2, none⟩ (.int .i64 r1)).setCell ⟨w.heap.size + 1, 3, none⟩ (.int .i64 s1)).setCell ⟨w.heap.size + 1, 4, none⟩ (.int .i64 r2)).heap[w.heap.size + 1]? = some (.cells #[.int .i64 r0, .int .i64 s0, .int .i64 r1, .int .i64 s1, .int .i64 r2, .int .i64 0, .int .i64 0, .int .i64 0] 60 (0, 0)) := block_set g3 (.int .i64 r2)
      have g5 : ((((((wr.setCell ⟨w.heap.size + 1, 0, none⟩ (.int .i64 r0)).setCell ⟨w.heap.size + 1, 1, none⟩ (.int .i64 s0)).setCell ⟨w.heap.size + 1, 2, none⟩ (.int .i64 r1)).setCell ⟨w.heap.size + 1, 3, none⟩ (.int .i64 s1)).setCell ⟨w.heap.size + 1, 4, none⟩ (.int .i64 r2)).setCell ⟨w.heap.size + 1, 5, none⟩ (.int .i64 s2)).heap[w.heap.size + 1]? = some (.cells #[.int .i64 r0, .int .i64 s0, .int .i64 r1, .int .i64 s1, .int .i64 r2, .int .i64 s2, .int .i64 0, .int .i64 0] 60 (0, 0)) := block_set g4 (.int .i64 s2)
      have g6 : (((((((wr.setCell ⟨w.heap.size + 1, 0, none⟩ (.int .i64 r0)).setCell ⟨w.heap.size + 1, 1, none⟩ (.int .i64 s0)).setCell ⟨w.heap.size + 1, 2, none⟩ (.int .i64 r1)).setCell ⟨w.heap.size + 1, 3, none⟩ (.int .i64 s1)).setCell ⟨w.heap.size + 1, 4, none⟩ (.int .i64 r2)).setCell ⟨w.heap.size + 1, 5, none⟩ (.int .i64 s2)).setCell ⟨w.heap.size + 1, 6, none⟩ (.int .i64 r3)).heap[w.heap.size + 1]? = some (.cells #[.int .i64 r0, .int .i64 s0, .int .i64 r1, .int .i64 s1, .int .i64 r2, .int .i64 s2, .int .i64 r3, .int .i64 0] 60 (0, 0)) := block_set g5 (.int .i64 r3)
      have g7 : ((((((((wr.setCell ⟨w.heap.size + 1, 0, none⟩ (.int .i64 r0)).setCell ⟨w.heap.size + 1, 1, none⟩ (.int .i64 s0)).setCell ⟨w.heap.size + 1, 2, none⟩ (.int .i64 r1)).setCell ⟨w.heap.size + 1, 3, none⟩ (.int .i64 s1)).setCell ⟨w.heap.size + 1, 4, none⟩ (.int .i64 r2)).setCell ⟨w.heap.size + 1, 5, none⟩ (.int .i64 s2)).setCell ⟨w.heap.size + 1, 6, none⟩ (.int .i64 r3)).setCell ⟨w.heap.size + 1, 7, none⟩ (.int .i64 s3)).heap[w.heap.size + 1]? = some (.cells #[.int .i64 r0, .int .i64 s0, .int .i64 r1, .int .i64 s1, .int .i64 r2, .int .i64 s2, .int .i64 r3, .int .i64 s3] 60 (0, 0)) := block_set g6 (.int .i64 s3)
      have j0 := block_cell g0 0 (.int .i64 r0) rfl
      have j1 := block_cell g1 1 (.int .i64 s0) rfl
      have j2 := block_cell g2 2 (.int .i64 r1) rfl
      have j3 := block_cell g3 3 (.int .i64 s1) rfl
      have j4 := block_cell g4 4 (.int .i64 r2) rfl
      have j5 := block_cell g5 5 (.int .i64 s2) rfl
      have j6 := block_cell g6 6 (.int .i64 r3) rfl
      have j7 := block_cell g7 7 (.int .i64 s3) rfl
      have hb := hB.2.2.2
      clear g0 g1 g2 g3 g4 g5 g6 g7 hB
      go_wp2_with fail
      refine bodyPost_ret (v := stgV ⟨(r0, s0), (r1, s1), (r2, s2), (r3, s3)⟩) (by simp [results, Tryd.results40, go_sem, stgV, j0, j1, j2, j3, j4, j5, j6, j7]) rfl ⟨rfl, ?_⟩
      exact (((((((hb.setCell (by simp) _).setCell (by simp) _).setCell (by simp) _).setCell (by simp) _).setCell (by simp) _).setCell (by simp) _).setCell (by simp) _).setCell (by simp) _
end Go.Proofs.YtnklgppfggkeoaaDoor
