/-
  The walk of viterbi.before.
-/
import Derived.Test.YtnklgppfggkeoaaDoorVitB
import Derived.Deep.RegionHeld3
import Derived.Deep.DeepCutAuto
import Derived.Deep.CutRange
namespace Go.Proofs.YtnklgppfggkeoaaDoor
open Go.RowKit

def stgC (S : Vit.Stg) : Array Value := #[.int .i64 S.a.1, .int .i64 S.a.2, .int .i64 S.b.1, .int .i64 S.b.2, .int .i64 S.c.1, .int .i64 S.c.2, .int .i64 S.d.1, .int .i64 S.d.2]
def zero8 : Array Value := #[.int .i64 0, .int .i64 0, .int .i64 0, .int .i64 0, .int .i64 0, .int .i64 0, .int .i64 0, .int .i64 0]
/-- The first k states of the result. -/
def outC (S : Vit.Stg) : Nat → Array Value
  | 0 => zero8
  | 1 => #[.int .i64 S.a.1, .int .i64 S.a.2, .int .i64 0, .int .i64 0, .int .i64 0, .int .i64 0, .int .i64 0, .int .i64 0]
  | 2 => #[.int .i64 S.a.1, .int .i64 S.a.2, .int .i64 S.b.1, .int .i64 S.b.2, .int .i64 0, .int .i64 0, .int .i64 0, .int .i64 0]
  | 3 => #[.int .i64 S.a.1, .int .i64 S.a.2, .int .i64 S.b.1, .int .i64 S.b.2, .int .i64 S.c.1, .int .i64 S.c.2, .int .i64 0, .int .i64 0]
  | _ => stgC S
theorem outC_size (S : Vit.Stg) (k : Nat) : (outC S k).size = 8 := by
  unfold outC
  split <;> rfl
theorem outC_succ (S : Vit.Stg) (p q : Bool) : ((outC S (Conv.st p q)).setIfInBounds (Conv.st p q * 2) (.int .i64 (S.get p q).1)).setIfInBounds (Conv.st p q * 2 + 1) (.int .i64 (S.get p q).2) = outC S (Conv.st p q + 1) := by
  cases p <;> cases q <;> rfl
theorem outC_get (S : Vit.Stg) (p q : Bool) : (outC S (Conv.st p q))[Conv.st p q * 2]? = some (.int .i64 0) ∧ (outC S (Conv.st p q))[Conv.st p q * 2 + 1]? = some (.int .i64 0) := by
  cases p <;> cases q <;> exact ⟨rfl, rfl⟩
/-- The blocks of before. -/
def BefB (w : World) (S : Vit.Stg) (L : Array Value) (W : World) : Prop :=
  W.heap[w.heap.size]? = some (.cells (stgC S) 55 (0, 0)) ∧ W.heap[w.heap.size + 1]? = some (.cells zero8 55 (0, 0)) ∧ W.heap[w.heap.size + 1 + 1]? = some (.cells L 55 (0, 0)) ∧ Below w.heap.size w W
theorem BefB.lt {w W : World} {S : Vit.Stg} {L : Array Value} (h : BefB w S L W) : w.heap.size + 1 + 1 < W.heap.size := (Array.getElem?_eq_some_iff.1 h.2.2.1).1
theorem BefB.below {w W W' : World} {S : Vit.Stg} {L : Array Value} (h : BefB w S L W) (hb : Below W.heap.size W W') : BefB w S L W' := by
  have hl := h.lt
  exact ⟨(hb.block _ (by omega)).trans h.1, (hb.block _ (by omega)).trans h.2.1, (hb.block _ (by omega)).trans h.2.2.1, h.2.2.2.trans (hb.mono (by omega))⟩
theorem BefB.far {w W : World} {S : Vit.Stg} {L : Array Value} (h : BefB w S L W) {g : Nat} (hg : w.heap.size + 1 + 1 < g) (i : Nat) (v : Value) : BefB w S L (W.setCell ⟨g, i, none⟩ v) :=
  ⟨(Below.heap_setCell W _ _ _ (by simp; omega)).trans h.1, (Below.heap_setCell W _ _ _ (by simp; omega)).trans h.2.1, (Below.heap_setCell W _ _ _ (by simp; omega)).trans h.2.2.1, h.2.2.2.setCell (by simp; omega) _⟩
theorem BefB.store {w W : World} {S : Vit.Stg} {L : Array Value} (h : BefB w S L W) (i : Nat) (v : Value) : BefB w S (L.setIfInBounds i v) (W.setCell ⟨w.heap.size + 1 + 1, i, none⟩ v) :=
  ⟨(Below.heap_setCell W _ _ _ (by simp; omega)).trans h.1, (Below.heap_setCell W _ _ _ (by simp)).trans h.2.1, block_set h.2.2.1 v, h.2.2.2.setCell (by simp; omega) _⟩
theorem BefB.drewN {w W : World} {S : Vit.Stg} {L : Array Value} (h : BefB w S L W) (n : Nat) : BefB w S L (W.drewN n) := ⟨h.1, h.2.1, h.2.2.1, below_drewN h.2.2.2 n⟩
theorem bcell {W w1 : World} (hb : Below W.heap.size W w1) : (∀ b o, b < W.heap.size → w1.cell? ⟨b, o, none⟩ = W.cell? ⟨b, o, none⟩) ∧ (∀ b o, b < W.heap.size → w1.frozen? ⟨b, o, none⟩ = W.frozen? ⟨b, o, none⟩) :=
  ⟨fun b o h => hb.cell (p := ⟨b, o, none⟩) h, fun b o h => hb.frozen (p := ⟨b, o, none⟩) h⟩
theorem state_lt (k : Nat) (h : k < 4) : ∃ p q, k = Conv.st p q := by
  have h4 : k = 0 ∨ k = 1 ∨ k = 2 ∨ k = 3 := by omega
  rcases h4 with rfl | rfl | rfl | rfl
  · exact ⟨false, false, rfl⟩
  · exact ⟨false, true, rfl⟩
  · exact ⟨true, false, rfl⟩
  · exact ⟨true, true, rfl⟩
theorem keepB {w0 W : World} {g : Nat} {v0 v1 v2 v3 v4 v5 v6 v7 : Value} (hb : Below (g + 1) w0 W) (h : w0.cell? ⟨g, 0, none⟩ = some v0 ∧ w0.cell? ⟨g, 1, none⟩ = some v1 ∧ w0.cell? ⟨g, 2, none⟩ = some v2 ∧ w0.cell? ⟨g, 3, none⟩ = some v3 ∧ w0.cell? ⟨g, 4, none⟩ = some v4 ∧ w0.cell? ⟨g, 5, none⟩ = some v5 ∧ w0.cell? ⟨g, 6, none⟩ = some v6 ∧ w0.cell? ⟨g, 7, none⟩ = some v7) :
    W.cell? ⟨g, 0, none⟩ = some v0 ∧ W.cell? ⟨g, 1, none⟩ = some v1 ∧ W.cell? ⟨g, 2, none⟩ = some v2 ∧ W.cell? ⟨g, 3, none⟩ = some v3 ∧ W.cell? ⟨g, 4, none⟩ = some v4 ∧ W.cell? ⟨g, 5, none⟩ = some v5 ∧ W.cell? ⟨g, 6, none⟩ = some v6 ∧ W.cell? ⟨g, 7, none⟩ = some v7 := by
  have hc : ∀ o, W.cell? ⟨g, o, none⟩ = w0.cell? ⟨g, o, none⟩ := fun o => hb.cell (p := ⟨g, o, none⟩) (Nat.lt_succ_self g)
  simp only [hc]
  exact h
theorem hb_new {W : World} {o : Obj} {g : Nat} (hg : g = W.heap.size) : (W.alloc o).heap[g]? = some o := by
  subst hg
  exact heap_alloc_new W o
theorem hb_drew {W : World} {x : Obj} {g : Nat} (h : W.heap[g]? = some x) : W.drew.heap[g]? = some x := h
theorem hb_alloc {W : World} {o x : Obj} {g : Nat} (h : W.heap[g]? = some x) : (W.alloc o).heap[g]? = some x := (Below.heap_alloc W o g (Array.getElem?_eq_some_iff.1 h).1).trans h
theorem hb_far {W : World} {b i g : Nat} {v : Value} {x : Obj} (hne : g ≠ b) (h : W.heap[g]? = some x) : (W.setCell ⟨b, i, none⟩ v).heap[g]? = some x := (Below.heap_setCell W _ _ _ (by simpa using hne)).trans h
theorem hb_set2 {W : World} {b : Nat} {z0 z1 v0 v1 : Value} {E : TypeId} {m : Nat × Nat} (h : W.heap[b]? = some (.cells #[z0, z1] E m)) : ((W.setCell ⟨b, 0, none⟩ v0).setCell ⟨b, 1, none⟩ v1).heap[b]? = some (.cells #[v0, v1] E m) := block_set (block_set h v0) v1
theorem hb_below {B : Nat} {W w2 : World} {g : Nat} {x : Obj} (hb : Below B W w2) (hlt : g < B) (h : W.heap[g]? = some x) : w2.heap[g]? = some x := (hb.block g hlt).trans h
theorem sufV_eq (s : Vit.Suf) : sufV s = .agg #[.int .i64 s.1, .int .i64 s.2] := rfl

set_option maxHeartbeats 4000000 in
set_option maxRecDepth 100000 in
theorem before_any (X : ByteArray) (x y : UInt8) (hX : X.data.toList = [x, y]) (S : Vit.Stg) (hS : Small S) (w : World) :
    Calls Tryd.prog 38 #[.string X, stgV S] w fun e w' => e = .returned (stgV (Vit.before x y S)) ∧ Below w.heap.size w w' := by
  have c52 : Tryd.prog.cellsOf 52 = 2 := by kernel_rfl
  have c55 : Tryd.prog.cellsOf 55 = 8 := by kernel_rfl
  have hbr := fun p q u w => branch_any X x y p q u hX S hS w
  have HBR := Lib.hid hbr
  obtain ⟨R, hR⟩ : ∃ R, Vit.before x y S = R := ⟨_, rfl⟩
  have hget : ∀ p q, R.get p q = Vit.step (Vit.branch x y S p q false) (Vit.branch x y S p q true) := fun p q => by rw [← hR]; exact Vit.get_before _ _ _ _ _
  have HGET := Lib.hid hget
  have HR := Lib.hid hR
  rw [hR]
  clear hbr hget hR
  simp only [stgV] at HBR ⊢
  obtain ⟨⟨c0, p0⟩, ⟨c1, p1⟩, ⟨c2, p2⟩, ⟨c3, p3⟩⟩ := S
  go_enter Tryd.func38, Tryd.ntmps38
  go_wp2_with fail
  go_loopg [6, 9] 4 (fun g _ iv wr => ∃ k : Nat, g = 4 - k ∧ k ≤ 4 ∧ iv = .int .i64 k ∧ BefB w ⟨(c0, p0), (c1, p1), (c2, p2), (c3, p3)⟩ (outC R k) wr)
  case atStart =>
    have e0 := heap_alloc_new w (.cells (stgC ⟨(c0, p0), (c1, p1), (c2, p2), (c3, p3)⟩) 55)
    have e1 := heap_alloc_new (w.alloc (.cells (stgC ⟨(c0, p0), (c1, p1), (c2, p2), (c3, p3)⟩) 55)) (.cells zero8 55)
    have e2 := heap_alloc_new ((w.alloc (.cells (stgC ⟨(c0, p0), (c1, p1), (c2, p2), (c3, p3)⟩) 55)).alloc (.cells zero8 55)) (.cells zero8 55)
    rw [World.size_alloc] at e1
    rw [World.size_alloc, World.size_alloc] at e2
    exact ⟨0, rfl, by omega, rfl, hb_alloc (hb_alloc e0), hb_alloc e1, e2, (((Below.refl _ w).alloc (Nat.le_refl _) _).alloc (by simp) _).alloc (by simp; omega) _⟩
  case round =>
    obtain ⟨k, hg, hk, rfl, hB⟩ := hrel
    have HG := Lib.hid hg
    clear hg
    by_cases hlt : k < 4
    · obtain ⟨p, q, rfl⟩ := state_lt k hlt
      have b0 := fun w => HBR.out p q false w
      have b1 := fun w => HBR.out p q true w
      simp only [sufV_eq] at b0 b1
      have e0 : ((Conv.bn false : Nat) : Int) = 0 := rfl
      have e1 : ((Conv.bn true : Nat) : Int) = 1 := rfl
      rw [e0] at b0
      rw [e1] at b1
      obtain ⟨a, hA2⟩ : ∃ a, Vit.branch x y ⟨(c0, p0), (c1, p1), (c2, p2), (c3, p3)⟩ p q false = a := ⟨_, rfl⟩
      obtain ⟨b, hB2⟩ : ∃ b, Vit.branch x y ⟨(c0, p0), (c1, p1), (c2, p2), (c3, p3)⟩ p q true = b := ⟨_, rfl⟩
      rw [hA2] at b0
      rw [hB2] at b1
      have B0 := Lib.hid b0
      have B1 := Lib.hid b1
      clear b0 b1 e0 e1
      have hBlt : w.heap.size < wr.heap.size := by have := hB.lt; omega
      have z0 := block_cell hB.1 0 (.int .i64 c0) rfl
      have z1 := block_cell hB.1 1 (.int .i64 p0) rfl
      have z2 := block_cell hB.1 2 (.int .i64 c1) rfl
      have z3 := block_cell hB.1 3 (.int .i64 p1) rfl
      have z4 := block_cell hB.1 4 (.int .i64 c2) rfl
      have z5 := block_cell hB.1 5 (.int .i64 p2) rfl
      have z6 := block_cell hB.1 6 (.int .i64 c3) rfl
      have z7 := block_cell hB.1 7 (.int .i64 p3) rfl
      have hpa : 0 ≤ a.2 ∧ a.2 ≤ 2 := by
        have h := hS false p
        rw [← hA2]
        unfold Vit.branch
        split
        · exact h.2.2
        · exact h.2.2
      have hpb : 0 ≤ b.2 ∧ b.2 ≤ 2 := by
        have h := hS true p
        rw [← hB2]
        unfold Vit.branch
        split
        · exact h.2.2
        · exact h.2.2
      have hO := outC_get R p q
      have hsucc := outC_succ R p q
      have hst := HGET.out p q
      rw [hA2, hB2] at hst
      rw [hst] at hsucc
      have HST := Lib.hid hst
      have HSUCC := Lib.hid hsucc
      have HO := Lib.hid hO
      clear hst hsucc hA2 hB2 hO
      generalize Conv.st p q = k at *
      go_upto_region 5 with fail
      go_cut [7, 8, 9] from 9 to 53 (fun s7 s8 s9 wx => ∃ ga gb : Nat, s7 = .pointer (some ⟨ga, 0, none⟩) ∧ s8 = .pointer (some ⟨gb, 0, none⟩) ∧ s9 = .int .i64 k ∧ ga ≠ gb ∧ wr.heap.size ≤ ga ∧ wr.heap.size ≤ gb ∧
        wx.heap[ga]? = some (.cells #[.int .i64 a.1, .int .i64 a.2] 52 (0, 0)) ∧ wx.heap[gb]? = some (.cells #[.int .i64 b.1, .int .i64 b.2] 52 (0, 0)) ∧ Below wr.heap.size wr wx)
      case first =>
        go_region_held3 (fun w' => w'.cell? ⟨w.heap.size, 0, none⟩ = some (.int .i64 c0) ∧ w'.cell? ⟨w.heap.size, 1, none⟩ = some (.int .i64 p0) ∧ w'.cell? ⟨w.heap.size, 2, none⟩ = some (.int .i64 c1) ∧ w'.cell? ⟨w.heap.size, 3, none⟩ = some (.int .i64 p1) ∧ w'.cell? ⟨w.heap.size, 4, none⟩ = some (.int .i64 c2) ∧ w'.cell? ⟨w.heap.size, 5, none⟩ = some (.int .i64 p2) ∧ w'.cell? ⟨w.heap.size, 6, none⟩ = some (.int .i64 c3) ∧ w'.cell? ⟨w.heap.size, 7, none⟩ = some (.int .i64 p3)) ((refine keepB (w0 := wr) ?_ ⟨z0, z1, z2, z3, z4, z5, z6, z7⟩; (repeat (first | assumption | exact Below.refl _ _ | refine Below.drew ?_ | refine Below.alloc ?_ (by first | omega | (simp; done) | (simp; omega)) _ | refine Below.setCell ?_ (by first | omega | (simp; done) | (simp; omega)) _))))
          (first | (go_at_call 26; (with_reducible refine (B0.out _).mono ?_); rintro e w1 ⟨rfl, hb1⟩; have hz1 := hb1.size; have hy1 : Below wr.heap.size wr w1 := by { refine Below.trans ?_ (hb1.mono (by first | omega | (simp; done) | (simp; omega))); (repeat (first | assumption | exact Below.refl _ _ | refine Below.drew ?_ | refine Below.alloc ?_ (by first | omega | (simp; done) | (simp; omega)) _ | refine Below.setCell ?_ (by first | omega | (simp; done) | (simp; omega)) _)) }; have hx1 : Below (w.heap.size + 1) wr w1 := by { refine Below.trans ?_ (hb1.mono (by first | omega | (simp; done) | (simp; omega))); (repeat (first | assumption | exact Below.refl _ _ | refine Below.drew ?_ | refine Below.alloc ?_ (by first | omega | (simp; done) | (simp; omega)) _ | refine Below.setCell ?_ (by first | omega | (simp; done) | (simp; omega)) _)) }; (try simp at hz1); (try (have hl1 : wr.heap.size < w1.heap.size := by omega)); (try (have hm1 : wr.heap.size + 1 < w1.heap.size := by omega)); obtain ⟨hc1, hf1⟩ := bcell hb1) | (go_at_call 26; (with_reducible refine (B1.out _).mono ?_); rintro e w2 ⟨rfl, hb2⟩; have hz2 := hb2.size; have hy2 : Below wr.heap.size wr w2 := by { refine Below.trans ?_ (hb2.mono (by first | omega | (simp; done) | (simp; omega))); (repeat (first | assumption | exact Below.refl _ _ | refine Below.drew ?_ | refine Below.alloc ?_ (by first | omega | (simp; done) | (simp; omega)) _ | refine Below.setCell ?_ (by first | omega | (simp; done) | (simp; omega)) _)) }; have hx2 : Below (w.heap.size + 1) wr w2 := by { refine Below.trans ?_ (hb2.mono (by first | omega | (simp; done) | (simp; omega))); (repeat (first | assumption | exact Below.refl _ _ | refine Below.drew ?_ | refine Below.alloc ?_ (by first | omega | (simp; done) | (simp; omega)) _ | refine Below.setCell ?_ (by first | omega | (simp; done) | (simp; omega)) _)) }; (try simp at hz2); (try (have hl2 : wr.heap.size < w2.heap.size := by omega)); (try (have hm2 : wr.heap.size + 1 < w2.heap.size := by omega)); (try (have hn2 : w1.heap.size < w2.heap.size := by omega)); (try (have ho2 : w1.heap.size + 1 < w2.heap.size := by omega)); obtain ⟨hc2, hf2⟩ := bcell hb2))
        all_goals
          go_wp2_with fail
          go_meet
          case rel =>
            clear B0 B1 HBR HGET HR HG z0 z1 z2 z3 z4 z5 z6 z7 hS hX hB hx1 hx2 c52 c55 hc1 hc2 hf1 hf2
            refine ⟨_, _, rfl, rfl, rfl, ?_, ?_, ?_, ?_, ?_, ?_⟩
            · omega
            · omega
            · omega
            · repeat (first | with_reducible refine hb_new (by first | omega | (simp; done) | (simp; omega)) | with_reducible refine hb_drew ?_ | with_reducible apply hb_set2 | with_reducible refine hb_far (by first | omega | (simp; done) | (simp; omega)) ?_ | with_reducible refine hb_alloc ?_ | with_reducible refine hb_below hb2 (by first | omega | (simp; done) | (simp; omega)) ?_ | with_reducible refine hb_below hb1 (by first | omega | (simp; done) | (simp; omega)) ?_)
            · repeat (first | with_reducible refine hb_new (by first | omega | (simp; done) | (simp; omega)) | with_reducible refine hb_drew ?_ | with_reducible apply hb_set2 | with_reducible refine hb_far (by first | omega | (simp; done) | (simp; omega)) ?_ | with_reducible refine hb_alloc ?_ | with_reducible refine hb_below hb2 (by first | omega | (simp; done) | (simp; omega)) ?_ | with_reducible refine hb_below hb1 (by first | omega | (simp; done) | (simp; omega)) ?_)
            · repeat (first | with_reducible assumption | with_reducible exact Below.refl _ _ | with_reducible refine Below.drew ?_ | with_reducible refine Below.alloc ?_ (by first | omega | (simp; done) | (simp; omega)) _ | with_reducible refine Below.setCell ?_ (by first | omega | (simp; done) | (simp; omega)) _)
      case rest =>
        obtain ⟨ga, gb, rfl, rfl, rfl, hne, hga, hgb, hA, hBb, hbx⟩ := hcut
        have hBw := hB.below hbx
        have hw3 := hB.lt
        have a0 := block_cell hA 0 (.int .i64 a.1) rfl
        have a1 := block_cell hA 1 (.int .i64 a.2) rfl
        have a2 := block_free hA 0
        have a3 := block_free hA 1
        have d0 := block_cell hBb 0 (.int .i64 b.1) rfl
        have d1 := block_cell hBb 1 (.int .i64 b.2) rfl
        have hne' : gb ≠ ga := fun e => hne e.symm
        have hga2 : w.heap.size + 1 + 1 < ga := by omega
        have hga3 : ga ≠ w.heap.size + 1 + 1 := by omega
        have hga4 : w.heap.size + 1 + 1 ≠ ga := by omega
        clear hA hBb B0 B1 z0 z1 z2 z3 z4 z5 z6 z7
        by_cases q1 : a.1 < 0
        · by_cases q0 : b.1 < 0
          all_goals
            have hBB : BefB w ⟨(c0, p0), (c1, p1), (c2, p2), (c3, p3)⟩ (outC R k) ((wc.setCell ⟨ga, 0, none⟩ (.int .i64 b.1)).setCell ⟨ga, 1, none⟩ (.int .i64 b.2)) := (hBw.far (by omega) 0 _).far (by omega) 1 _
            have o0 := block_cell hBB.2.2.1 (k * 2) _ HO.out.1
            have o1 := block_cell hBB.2.2.1 (k * 2 + 1) _ HO.out.2
            have o2 := block_free hBB.2.2.1 (k * 2)
            have o3 := block_free hBB.2.2.1 (k * 2 + 1)
            have hfin := (hBB.store (k * 2) (.int .i64 b.1)).store (k * 2 + 1) (.int .i64 b.2)
            rw [show Vit.step a b = (b.1, b.2) by unfold Vit.step Vit.worse; rw [if_pos (by rw [decide_eq_true_iff]; omega)]] at HSUCC
            rw [HSUCC.out] at hfin
            go_wp2_with fail
            go_roundg (4 - (k + 1))
            case measure => have := HG.out; omega
            case rel => exact ⟨k + 1, rfl, by omega, by go_num, hfin⟩
        · by_cases q0 : b.1 < 0
          · have q3 : (a.1 == b.1) = false := by rw [beq_eq_false_iff_ne]; omega
            have hBB : BefB w ⟨(c0, p0), (c1, p1), (c2, p2), (c3, p3)⟩ (outC R k) wc := hBw
            have o0 := block_cell hBB.2.2.1 (k * 2) _ HO.out.1
            have o1 := block_cell hBB.2.2.1 (k * 2 + 1) _ HO.out.2
            have o2 := block_free hBB.2.2.1 (k * 2)
            have o3 := block_free hBB.2.2.1 (k * 2 + 1)
            have hfin := (hBB.store (k * 2) (.int .i64 a.1)).store (k * 2 + 1) (.int .i64 a.2)
            rw [show Vit.step a b = (a.1, a.2) by unfold Vit.step Vit.worse; rw [if_neg (by rw [decide_eq_true_iff]; omega), if_neg (by omega)]] at HSUCC
            rw [HSUCC.out] at hfin
            go_wp2_with fail
            go_roundg (4 - (k + 1))
            case measure => have := HG.out; omega
            case rel => exact ⟨k + 1, rfl, by omega, by go_num, hfin⟩
          · by_cases q2 : b.1 < a.1
            · skip
              have hBB : BefB w ⟨(c0, p0), (c1, p1), (c2, p2), (c3, p3)⟩ (outC R k) ((wc.setCell ⟨ga, 0, none⟩ (.int .i64 b.1)).setCell ⟨ga, 1, none⟩ (.int .i64 b.2)) := (hBw.far (by omega) 0 _).far (by omega) 1 _
              have o0 := block_cell hBB.2.2.1 (k * 2) _ HO.out.1
              have o1 := block_cell hBB.2.2.1 (k * 2 + 1) _ HO.out.2
              have o2 := block_free hBB.2.2.1 (k * 2)
              have o3 := block_free hBB.2.2.1 (k * 2 + 1)
              have hfin := (hBB.store (k * 2) (.int .i64 b.1)).store (k * 2 + 1) (.int .i64 b.2)
              rw [show Vit.step a b = (b.1, b.2) by unfold Vit.step Vit.worse; rw [if_pos (by rw [decide_eq_true_iff]; omega)]] at HSUCC
              rw [HSUCC.out] at hfin
              go_wp2_with fail
              go_roundg (4 - (k + 1))
              case measure => have := HG.out; omega
              case rel => exact ⟨k + 1, rfl, by omega, by go_num, hfin⟩
            · by_cases q4 : a.1 = b.1
              · have q3 : (a.1 == b.1) = true := by rw [beq_iff_eq]; exact q4
                have Q4 := Lib.hid q4
                clear q4
                have hBB : BefB w ⟨(c0, p0), (c1, p1), (c2, p2), (c3, p3)⟩ (outC R k) (wc.setCell ⟨ga, 1, none⟩ (.int .i64 (min 2 (a.2 + b.2)))) := hBw.far (by omega) 1 _
                have o0 := block_cell hBB.2.2.1 (k * 2) _ HO.out.1
                have o1 := block_cell hBB.2.2.1 (k * 2 + 1) _ HO.out.2
                have o2 := block_free hBB.2.2.1 (k * 2)
                have o3 := block_free hBB.2.2.1 (k * 2 + 1)
                have hfin := (hBB.store (k * 2) (.int .i64 a.1)).store (k * 2 + 1) (.int .i64 (min 2 (a.2 + b.2)))
                rw [show Vit.step a b = (a.1, (min 2 (a.2 + b.2))) by unfold Vit.step Vit.worse; rw [if_neg (by rw [decide_eq_true_iff]; omega), if_pos Q4.out]] at HSUCC
                rw [HSUCC.out] at hfin
                go_wp2_with fail
                go_roundg (4 - (k + 1))
                case measure => have := HG.out; omega
                case rel => exact ⟨k + 1, rfl, by omega, by go_num, hfin⟩
              · have q3 : (a.1 == b.1) = false := by rw [beq_eq_false_iff_ne]; exact q4
                have hBB : BefB w ⟨(c0, p0), (c1, p1), (c2, p2), (c3, p3)⟩ (outC R k) wc := hBw
                have o0 := block_cell hBB.2.2.1 (k * 2) _ HO.out.1
                have o1 := block_cell hBB.2.2.1 (k * 2 + 1) _ HO.out.2
                have o2 := block_free hBB.2.2.1 (k * 2)
                have o3 := block_free hBB.2.2.1 (k * 2 + 1)
                have hfin := (hBB.store (k * 2) (.int .i64 a.1)).store (k * 2 + 1) (.int .i64 a.2)
                rw [show Vit.step a b = (a.1, a.2) by unfold Vit.step Vit.worse; rw [if_neg (by rw [decide_eq_true_iff]; omega), if_neg q4]] at HSUCC
                rw [HSUCC.out] at hfin
                go_wp2_with fail
                go_roundg (4 - (k + 1))
                case measure => have := HG.out; omega
                case rel => exact ⟨k + 1, rfl, by omega, by go_num, hfin⟩
    · obtain rfl : k = 4 := by omega
      obtain ⟨⟨r0, s0⟩, ⟨r1, s1⟩, ⟨r2, s2⟩, ⟨r3, s3⟩⟩ := R
      have hw3 := hB.lt
      have y0 := block_cell hB.2.2.1 0 (.int .i64 r0) rfl
      have y1 := block_cell hB.2.2.1 1 (.int .i64 s0) rfl
      have y2 := block_cell hB.2.2.1 2 (.int .i64 r1) rfl
      have y3 := block_cell hB.2.2.1 3 (.int .i64 s1) rfl
      have y4 := block_cell hB.2.2.1 4 (.int .i64 r2) rfl
      have y5 := block_cell hB.2.2.1 5 (.int .i64 s2) rfl
      have y6 := block_cell hB.2.2.1 6 (.int .i64 r3) rfl
      have y7 := block_cell hB.2.2.1 7 (.int .i64 s3) rfl
      have x0 := block_cell hB.2.1 0 (.int .i64 0) rfl
      have f0 := block_free hB.2.1 0
      have x1 := block_cell hB.2.1 1 (.int .i64 0) rfl
      have f1 := block_free hB.2.1 1
      have x2 := block_cell hB.2.1 2 (.int .i64 0) rfl
      have f2 := block_free hB.2.1 2
      have x3 := block_cell hB.2.1 3 (.int .i64 0) rfl
      have f3 := block_free hB.2.1 3
      have x4 := block_cell hB.2.1 4 (.int .i64 0) rfl
      have f4 := block_free hB.2.1 4
      have x5 := block_cell hB.2.1 5 (.int .i64 0) rfl
      have f5 := block_free hB.2.1 5
      have x6 := block_cell hB.2.1 6 (.int .i64 0) rfl
      have f6 := block_free hB.2.1 6
      have x7 := block_cell hB.2.1 7 (.int .i64 0) rfl
      have f7 := block_free hB.2.1 7
      have g0 : (wr.setCell ⟨w.heap.size + 1, 0, none⟩ (.int .i64 r0)).heap[w.heap.size + 1]? = some (.cells #[.int .i64 r0, .int .i64 0, .int .i64 0, .int .i64 0, .int .i64 0, .int .i64 0, .int .i64 0, .int .i64 0] 55 (0, 0)) := block_set hB.2.1 (.int .i64 r0)
      have g1 : ((wr.setCell ⟨w.heap.size + 1, 0, none⟩ (.int .i64 r0)).setCell ⟨w.heap.size + 1, 1, none⟩ (.int .i64 s0)).heap[w.heap.size + 1]? = some (.cells #[.int .i64 r0, .int .i64 s0, .int .i64 0, .int .i64 0, .int .i64 0, .int .i64 0, .int .i64 0, .int .i64 0] 55 (0, 0)) := block_set g0 (.int .i64 s0)
      have g2 : (((wr.setCell ⟨w.heap.size + 1, 0, none⟩ (.int .i64 r0)).setCell ⟨w.heap.size + 1, 1, none⟩ (.int .i64 s0)).setCell ⟨w.heap.size + 1, 2, none⟩ (.int .i64 r1)).heap[w.heap.size + 1]? = some (.cells #[.int .i64 r0, .int .i64 s0, .int .i64 r1, .int .i64 0, .int .i64 0, .int .i64 0, .int .i64 0, .int .i64 0] 55 (0, 0)) := block_set g1 (.int .i64 r1)
      have g3 : ((((wr.setCell ⟨w.heap.size + 1, 0, none⟩ (.int .i64 r0)).setCell ⟨w.heap.size + 1, 1, none⟩ (.int .i64 s0)).setCell ⟨w.heap.size + 1, 2, none⟩ (.int .i64 r1)).setCell ⟨w.heap.size + 1, 3, none⟩ (.int .i64 s1)).heap[w.heap.size + 1]? = some (.cells #[.int .i64 r0, .int .i64 s0, .int .i64 r1, .int .i64 s1, .int .i64 0, .int .i64 0, .int .i64 0, .int .i64 0] 55 (0, 0)) := block_set g2 (.int .i64 s1)
      have g4 : (((((wr.setCell ⟨w.heap.size + 1, 0, none⟩ (.int .i64 r0)).setCell ⟨w.heap.size + 1, 1, none⟩ (.int .i64 s0)).setCell ⟨w.heap.size + 1, 2, none⟩ (.int .i64 r1)).setCell ⟨w.heap.size + 1, 3, none⟩ (.int .i64 s1)).setCell ⟨w.heap.size + 1, 4, none⟩ (.int .i64 r2)).heap[w.heap.size + 1]? = some (.cells #[.int .i64 r0, .int .i64 s0, .int .i64 r1, .int .i64 s1, .int .i64 r2, .int .i64 0, .int .i64 0, .int .i64 0] 55 (0, 0)) := block_set g3 (.int .i64 r2)
      have g5 : ((((((wr.setCell ⟨w.heap.size + 1, 0, none⟩ (.int .i64 r0)).setCell ⟨w.heap.size + 1, 1, none⟩ (.int .i64 s0)).setCell ⟨w.heap.size + 1, 2, none⟩ (.int .i64 r1)).setCell ⟨w.heap.size + 1, 3, none⟩ (.int .i64 s1)).setCell ⟨w.heap.size + 1, 4, none⟩ (.int .i64 r2)).setCell ⟨w.heap.size + 1, 5, none⟩ (.int .i64 s2)).heap[w.heap.size + 1]? = some (.cells #[.int .i64 r0, .int .i64 s0, .int .i64 r1, .int .i64 s1, .int .i64 r2, .int .i64 s2, .int .i64 0, .int .i64 0] 55 (0, 0)) := block_set g4 (.int .i64 s2)
      have g6 : (((((((wr.setCell ⟨w.heap.size + 1, 0, none⟩ (.int .i64 r0)).setCell ⟨w.heap.size + 1, 1, none⟩ (.int .i64 s0)).setCell ⟨w.heap.size + 1, 2, none⟩ (.int .i64 r1)).setCell ⟨w.heap.size + 1, 3, none⟩ (.int .i64 s1)).setCell ⟨w.heap.size + 1, 4, none⟩ (.int .i64 r2)).setCell ⟨w.heap.size + 1, 5, none⟩ (.int .i64 s2)).setCell ⟨w.heap.size + 1, 6, none⟩ (.int .i64 r3)).heap[w.heap.size + 1]? = some (.cells #[.int .i64 r0, .int .i64 s0, .int .i64 r1, .int .i64 s1, .int .i64 r2, .int .i64 s2, .int .i64 r3, .int .i64 0] 55 (0, 0)) := block_set g5 (.int .i64 r3)
      have g7 : ((((((((wr.setCell ⟨w.heap.size + 1, 0, none⟩ (.int .i64 r0)).setCell ⟨w.heap.size + 1, 1, none⟩ (.int .i64 s0)).setCell ⟨w.heap.size + 1, 2, none⟩ (.int .i64 r1)).setCell ⟨w.heap.size + 1, 3, none⟩ (.int .i64 s1)).setCell ⟨w.heap.size + 1, 4, none⟩ (.int .i64 r2)).setCell ⟨w.heap.size + 1, 5, none⟩ (.int .i64 s2)).setCell ⟨w.heap.size + 1, 6, none⟩ (.int .i64 r3)).setCell ⟨w.heap.size + 1, 7, none⟩ (.int .i64 s3)).heap[w.heap.size + 1]? = some (.cells #[.int .i64 r0, .int .i64 s0, .int .i64 r1, .int .i64 s1, .int .i64 r2, .int .i64 s2, .int .i64 r3, .int .i64 s3] 55 (0, 0)) := block_set g6 (.int .i64 s3)
      have j0 := block_cell g0 0 (.int .i64 r0) rfl
      have j1 := block_cell g1 1 (.int .i64 s0) rfl
      have j2 := block_cell g2 2 (.int .i64 r1) rfl
      have j3 := block_cell g3 3 (.int .i64 s1) rfl
      have j4 := block_cell g4 4 (.int .i64 r2) rfl
      have j5 := block_cell g5 5 (.int .i64 s2) rfl
      have j6 := block_cell g6 6 (.int .i64 r3) rfl
      have j7 := block_cell g7 7 (.int .i64 s3) rfl
      have hb := hB.2.2.2
      clear g0 g1 g2 g3 g4 g5 g6 g7 hB
      go_wp2_with fail
      refine bodyPost_ret (v := stgV ⟨(r0, s0), (r1, s1), (r2, s2), (r3, s3)⟩) (by simp [results, Tryd.results38, go_sem, stgV, j0, j1, j2, j3, j4, j5, j6, j7]) rfl ⟨rfl, ?_⟩
      exact (((((((hb.setCell (by simp) _).setCell (by simp) _).setCell (by simp) _).setCell (by simp) _).setCell (by simp) _).setCell (by simp) _).setCell (by simp) _).setCell (by simp) _
end Go.Proofs.YtnklgppfggkeoaaDoor
