/-
  The walk of viterbi.branch.
-/
import Derived.Test.YtnklgppfggkeoaaDoorConv
import Derived.Test.YtnklgppfggkeoaaDoorVitPlain
namespace Go.Proofs.YtnklgppfggkeoaaDoor
open Go.RowKit

def stgV (S : Vit.Stg) : Value := .agg #[.int .i64 S.a.1, .int .i64 S.a.2, .int .i64 S.b.1, .int .i64 S.b.2, .int .i64 S.c.1, .int .i64 S.c.2, .int .i64 S.d.1, .int .i64 S.d.2]
def sufV (s : Vit.Suf) : Value := .agg #[.int .i64 s.1, .int .i64 s.2]
/-- The costs of a stage are small. -/
def Small (S : Vit.Stg) : Prop := ∀ p q, -1 ≤ (S.get p q).1 ∧ (S.get p q).1 ≤ 100000 ∧ 0 ≤ (S.get p q).2 ∧ (S.get p q).2 ≤ 2

theorem block_set {w : World} {b i : Nat} {cs : Array Value} {E : TypeId} {m : Nat × Nat} (h : w.heap[b]? = some (.cells cs E m)) (v : Value) : (w.setCell ⟨b, i, none⟩ v).heap[b]? = some (.cells (cs.setIfInBounds i v) E m) := by
  simp [World.setCell, Array.getElem?_modify, h]
theorem block_cell {w : World} {b : Nat} {cs : Array Value} {E : TypeId} {m : Nat × Nat} (h : w.heap[b]? = some (.cells cs E m)) (i : Nat) (v : Value) (hv : cs[i]? = some v) : w.cell? ⟨b, i, none⟩ = some v := by
  simp [World.cell?, h, hv]
theorem block_free {w : World} {b : Nat} {cs : Array Value} {E : TypeId} (h : w.heap[b]? = some (.cells cs E (0, 0))) (i : Nat) : w.frozen? ⟨b, i, none⟩ = false := by
  simp [World.frozen?, h]
theorem mis1_walk (x o : UInt8) (b : Bool) (ho : o = Conv.ch b) : Vit.mis1 x b = if (((x.toNat : Int) != 63) && ((x.toNat : Int) != (o.toNat : Int))) = true then 1 else 0 := by
  subst ho
  unfold Vit.mis1
  rw [bne63, byte_bne]
  by_cases h1 : x = 63
  · subst h1
    rfl
  · by_cases h2 : x = Conv.ch b
    · subst h2
      simp
    · have e1 : (x != 63) = true := by rw [bne_iff_ne]; exact h1
      have e2 : (x != Conv.ch b) = true := by rw [bne_iff_ne]; exact h2
      rw [if_pos ⟨h1, h2⟩, e1, e2]
      rfl
def misTo (a b : Int) (k : Nat) : Int := (if 0 < k then a else 0) + (if 1 < k then b else 0)
/-- What the loop of branch keeps. -/
def BrRel (w : World) (C P a b : Int) (O : ByteArray) (k : Nat) (wr : World) : Prop :=
  k ≤ 2 ∧ wr.heap[w.heap.size + 1 + 1]? = some (.cells #[.int .i64 (C + misTo a b k), .int .i64 P] 52 (0, 0)) ∧ wr.heap[w.heap.size + 1 + 1 + 1]? = some (.stringIter O k) ∧
  wr.heap[w.heap.size + 1]? = some (.cells #[.int .i64 0, .int .i64 0] 52 (0, 0)) ∧ Below w.heap.size w wr
theorem BrRel.next {w wr : World} {C P a b : Int} {O : ByteArray} {k : Nat} (h : BrRel w C P a b O k wr) (j : Nat) :
    (wr.iterAt (w.heap.size + 1 + 1 + 1) O j).heap[w.heap.size + 1 + 1]? = some (.cells #[.int .i64 (C + misTo a b k), .int .i64 P] 52 (0, 0)) ∧ (wr.iterAt (w.heap.size + 1 + 1 + 1) O j).heap[w.heap.size + 1 + 1 + 1]? = some (.stringIter O j) ∧
    (wr.iterAt (w.heap.size + 1 + 1 + 1) O j).heap[w.heap.size + 1]? = some (.cells #[.int .i64 0, .int .i64 0] 52 (0, 0)) ∧ Below w.heap.size w (wr.iterAt (w.heap.size + 1 + 1 + 1) O j) :=
  ⟨(Lib.iterAt_other wr _ _ O j (by omega)).trans h.2.1, Lib.iterAt_heap wr _ O k j h.2.2.1, (Lib.iterAt_other wr _ _ O j (by omega)).trans h.2.2.2.1, Lib.below_iterAt h.2.2.2.2 (by omega) O j⟩
theorem BrRel.start (w : World) (A : Array Value) (C P a b : Int) (O : ByteArray) :
    BrRel w C P a b O 0 ((((w.alloc (.cells A 55)).alloc (.cells #[.int .i64 0, .int .i64 0] 52)).alloc (.cells #[.int .i64 C, .int .i64 P] 52)).iter O 0) := by
  have e1 := heap_alloc_new ((w.alloc (.cells A 55)).alloc (.cells #[.int .i64 0, .int .i64 0] 52)) (.cells #[.int .i64 C, .int .i64 P] 52)
  have e2 := heap_alloc_new (w.alloc (.cells A 55)) (.cells #[.int .i64 0, .int .i64 0] 52)
  rw [World.size_alloc, World.size_alloc] at e1
  rw [World.size_alloc] at e2
  refine ⟨by omega, ?_, ?_, ?_, ?_⟩
  · rw [show C + misTo a b 0 = C by simp [misTo]]
    exact (Below.heap_alloc _ _ _ (by simp)).trans e1
  · have e3 := heap_alloc_new (((w.alloc (.cells A 55)).alloc (.cells #[.int .i64 0, .int .i64 0] 52)).alloc (.cells #[.int .i64 C, .int .i64 P] 52)) (.stringIter O 0)
    rw [World.size_alloc, World.size_alloc, World.size_alloc] at e3
    exact e3
  · exact (Below.heap_alloc _ _ _ (by simp)).trans ((Below.heap_alloc _ _ _ (by simp)).trans e2)
  · exact ((((Below.refl _ w).alloc (Nat.le_refl _) _).alloc (by simp) _).alloc (by simp; omega) _).alloc (by simp; omega) _
theorem BrRel.keep {w W1 : World} {C P a b : Int} {O : ByteArray} {k : Nat} (hk : k + 1 ≤ 2) (hm : misTo a b (k + 1) = misTo a b k) (n1 : W1.heap[w.heap.size + 1 + 1]? = some (.cells #[.int .i64 (C + misTo a b k), .int .i64 P] 52 (0, 0)))
    (n2 : W1.heap[w.heap.size + 1 + 1 + 1]? = some (.stringIter O (k + 1))) (n3 : W1.heap[w.heap.size + 1]? = some (.cells #[.int .i64 0, .int .i64 0] 52 (0, 0))) (n4 : Below w.heap.size w W1) (n : Nat) : BrRel w C P a b O (k + 1) (W1.drewN n) :=
  ⟨hk, by rw [hm]; exact n1, n2, n3, below_drewN n4 n⟩
theorem BrRel.bump {w W1 : World} {C P a b v : Int} {O : ByteArray} {k : Nat} (hk : k + 1 ≤ 2) (hv : v = C + misTo a b (k + 1)) (n1 : W1.heap[w.heap.size + 1 + 1]? = some (.cells #[.int .i64 (C + misTo a b k), .int .i64 P] 52 (0, 0)))
    (n2 : W1.heap[w.heap.size + 1 + 1 + 1]? = some (.stringIter O (k + 1))) (n3 : W1.heap[w.heap.size + 1]? = some (.cells #[.int .i64 0, .int .i64 0] 52 (0, 0))) (n4 : Below w.heap.size w W1) (n : Nat) : BrRel w C P a b O (k + 1) ((W1.setCell ⟨w.heap.size + 1 + 1, 0, none⟩ (.int .i64 v)).drewN n) := by
  subst hv
  refine ⟨hk, block_set n1 _, (Below.heap_setCell W1 _ _ _ (by simp)).trans n2, (Below.heap_setCell W1 _ _ _ (by simp)).trans n3, below_drewN (n4.setCell (by simp; omega) _) n⟩

set_option maxHeartbeats 4000000 in
set_option maxRecDepth 100000 in
theorem branch_falsefalse (X O : ByteArray) (x y : UInt8) (q : Bool) (hX : X.data.toList = [x, y]) (hO : O.data.toList = [Conv.ch ((false ^^ false) ^^ q), Conv.ch (false ^^ q)]) (S : Vit.Stg) (hS : Small S) (w : World)
    (hn : ∀ w, Calls Tryd.prog 18 #[.int .i64 (Conv.st false q : Nat), .int .i64 (Conv.bn false : Nat)] w fun e w' => e = .returned (.tuple #[.int .i64 (Conv.st false false : Nat), .string O]) ∧ w' = w) :
    Calls Tryd.prog 26 #[.string X, stgV S, .int .i64 (Conv.st false q : Nat), .int .i64 (Conv.bn false : Nat)] w fun e w' => e = .returned (sufV (Vit.branch x y S false q false)) ∧ Below w.heap.size w w' := by
  have hs := hS false false
  have HN := Lib.hid hn
  clear hn hS
  have c52 : Tryd.prog.cellsOf 52 = 2 := by kernel_rfl
  have c55 : Tryd.prog.cellsOf 55 = 8 := by kernel_rfl
  obtain ⟨⟨c0, p0⟩, ⟨c1, p1⟩, ⟨c2, p2⟩, ⟨c3, p3⟩⟩ := S
  have hst : ((Conv.st false false : Nat) : Int) = 0 := rfl
  have zX2 : 2 ≤ X.size := by rw [← toList_length, hX]; exact Nat.le_refl 2
  have zO2 : 2 ≤ O.size := by rw [← toList_length, hO]; exact Nat.le_refl 2
  have zO3 : O.size ≤ 2 := by rw [← toList_length, hO]; exact Nat.le_refl 2
  have x0 : X[0]'(by omega) = x := by have h := get_of_lt X 0 (by omega); rw [hX] at h; exact (Option.some.inj h).symm
  have x1 : X[1]'(by omega) = y := by have h := get_of_lt X 1 (by omega); rw [hX] at h; exact (Option.some.inj h).symm
  have o0 : O[0]'(by omega) = Conv.ch ((false ^^ false) ^^ q) := by have h := get_of_lt O 0 (by omega); rw [hO] at h; exact (Option.some.inj h).symm
  have o1 : O[1]'(by omega) = Conv.ch (false ^^ q) := by have h := get_of_lt O 1 (by omega); rw [hO] at h; exact (Option.some.inj h).symm
  have hm0 := mis1_walk x (Conv.ch ((false ^^ false) ^^ q)) ((false ^^ false) ^^ q) rfl
  have hm1 := mis1_walk y (Conv.ch (false ^^ q)) (false ^^ q) rfl
  have hb0 : Vit.branch x y ⟨(c0, p0), (c1, p1), (c2, p2), (c3, p3)⟩ false q false = if 0 ≤ c0 then (c0 + (Vit.mis1 x ((false ^^ false) ^^ q) + Vit.mis1 y (false ^^ q)), p0) else (c0, p0) := rfl
  have hA := Vit.mis1_bd x ((false ^^ false) ^^ q)
  have hB := Vit.mis1_bd y (false ^^ q)
  generalize Vit.mis1 x ((false ^^ false) ^^ q) = mA at *
  generalize Vit.mis1 y (false ^^ q) = mB at *
  have hq0 : (Conv.ch ((false ^^ false) ^^ q)).toNat < 128 := by cases ((false ^^ false) ^^ q) <;> decide
  have hq1 : (Conv.ch (false ^^ q)).toNat < 128 := by cases (false ^^ q) <;> decide
  generalize Conv.ch ((false ^^ false) ^^ q) = oA at *
  generalize Conv.ch (false ^^ q) = oB at *
  have HB0 := Lib.hid hb0
  have HM0 := Lib.hid hm0
  have HM1 := Lib.hid hm1
  have Q0 := Lib.hid hq0
  have Q1 := Lib.hid hq1
  clear hb0 hm0 hm1 hX hO hq0 hq1
  simp only [stgV]
  have hs1 : -1 ≤ c0 := hs.1
  have hs2 : c0 ≤ 100000 := hs.2.1
  clear hs
  by_cases hc : 0 ≤ c0
  · go_enter Tryd.func26, Tryd.ntmps26
    go_wp2_with fail
    refine (HN.out _).mono ?_
    rintro e w1 ⟨rfl, rfl⟩
    go_wp2_with fail
    go_loopg [12] 2 (fun g _ wr => ∃ k : Nat, g = 2 - k ∧ BrRel w c0 p0 mA mB O k wr)
    case atStart =>
      exact ⟨0, rfl, BrRel.start w _ c0 p0 mA mB O⟩
    case round =>
      obtain ⟨k, hg, hr⟩ := hrel
      have HG := Lib.hid hg
      clear hg
      have hk2 : k = 0 ∨ k = 1 ∨ k = 2 := by have := hr.1; omega
      rcases hk2 with rfl | rfl | rfl
      · have hnx : ∀ ty, (Instr.next (.pointer (some ⟨w.heap.size + 1 + 1 + 1, 0, none⟩)) true ty).run Tryd.prog wr = .ok (.tuple #[.bool true, .int .i64 (0 : Nat), .int .i32 (O[0]'(by omega)).toNat]) (wr.iterAt (w.heap.size + 1 + 1 + 1) O (0 + 1)) := fun ty =>
          Lib.run_next_ascii_at wr (w.heap.size + 1 + 1 + 1) O 0 ty hr.2.2.1 (by omega) (by rw [o0]; exact Q0.out)
        obtain ⟨n1, n2, n3, n4⟩ := hr.next (0 + 1)
        generalize wr.iterAt (w.heap.size + 1 + 1 + 1) O (0 + 1) = W1 at *
        have f1 : W1.cell? ⟨w.heap.size + 1 + 1, 0, none⟩ = some (.int .i64 c0) := by
          rw [show (c0 : Int) = c0 + misTo mA mB 0 by simp [misTo]]
          exact block_cell n1 0 _ rfl
        have f2 := block_free n1 0
        have N1 := Lib.hid n1
        have N2 := Lib.hid n2
        have N3 := Lib.hid n3
        clear n1 n2 n3 hr
        cases h1 : ((x.toNat : Int) != 63)
        · have hz : mA = 0 := by rw [HM0.out, h1]; rfl
          have HZ := Lib.hid hz
          clear hz
          go_wp2_with fail
          go_quiet (fail)
          go_wp2_with fail
          go_roundg (2 - (0 + 1))
          case measure => have := HG.out; omega
          case rel => exact ⟨0 + 1, rfl, BrRel.keep (by omega) (by have := HZ.out; simp [misTo]; omega) N1.out N2.out N3.out n4 nq⟩
        · cases h2 : ((x.toNat : Int) != (oA.toNat : Int))
          · have hz : mA = 0 := by rw [HM0.out, h1, h2]; rfl
            have HZ := Lib.hid hz
            clear hz
            go_wp2_with fail
            go_quiet (fail)
            go_wp2_with fail
            go_roundg (2 - (0 + 1))
            case measure => have := HG.out; omega
            case rel => exact ⟨0 + 1, rfl, BrRel.keep (by omega) (by have := HZ.out; simp [misTo]; omega) N1.out N2.out N3.out n4 nq⟩
          · have hz : mA = 1 := by rw [HM0.out, h1, h2]; rfl
            have HZ := Lib.hid hz
            clear hz
            go_wp2_with fail
            go_quiet (fail)
            go_wp2_with fail
            go_roundg (2 - (0 + 1))
            case measure => have := HG.out; omega
            case rel => exact ⟨0 + 1, rfl, BrRel.bump (by omega) (by have := HZ.out; simp [misTo]; omega) N1.out N2.out N3.out n4 nq⟩
      · have hnx : ∀ ty, (Instr.next (.pointer (some ⟨w.heap.size + 1 + 1 + 1, 0, none⟩)) true ty).run Tryd.prog wr = .ok (.tuple #[.bool true, .int .i64 (1 : Nat), .int .i32 (O[1]'(by omega)).toNat]) (wr.iterAt (w.heap.size + 1 + 1 + 1) O (1 + 1)) := fun ty =>
          Lib.run_next_ascii_at wr (w.heap.size + 1 + 1 + 1) O 1 ty hr.2.2.1 (by omega) (by rw [o1]; exact Q1.out)
        obtain ⟨n1, n2, n3, n4⟩ := hr.next (1 + 1)
        generalize wr.iterAt (w.heap.size + 1 + 1 + 1) O (1 + 1) = W1 at *
        have f1 : W1.cell? ⟨w.heap.size + 1 + 1, 0, none⟩ = some (.int .i64 (c0 + mA)) := by
          rw [show ((c0 + mA) : Int) = c0 + misTo mA mB 1 by simp [misTo]]
          exact block_cell n1 0 _ rfl
        have f2 := block_free n1 0
        have N1 := Lib.hid n1
        have N2 := Lib.hid n2
        have N3 := Lib.hid n3
        clear n1 n2 n3 hr
        cases h1 : ((y.toNat : Int) != 63)
        · have hz : mB = 0 := by rw [HM1.out, h1]; rfl
          have HZ := Lib.hid hz
          clear hz
          go_wp2_with fail
          go_quiet (fail)
          go_wp2_with fail
          go_roundg (2 - (1 + 1))
          case measure => have := HG.out; omega
          case rel => exact ⟨1 + 1, rfl, BrRel.keep (by omega) (by have := HZ.out; simp [misTo]; omega) N1.out N2.out N3.out n4 nq⟩
        · cases h2 : ((y.toNat : Int) != (oB.toNat : Int))
          · have hz : mB = 0 := by rw [HM1.out, h1, h2]; rfl
            have HZ := Lib.hid hz
            clear hz
            go_wp2_with fail
            go_quiet (fail)
            go_wp2_with fail
            go_roundg (2 - (1 + 1))
            case measure => have := HG.out; omega
            case rel => exact ⟨1 + 1, rfl, BrRel.keep (by omega) (by have := HZ.out; simp [misTo]; omega) N1.out N2.out N3.out n4 nq⟩
          · have hz : mB = 1 := by rw [HM1.out, h1, h2]; rfl
            have HZ := Lib.hid hz
            clear hz
            go_wp2_with fail
            go_quiet (fail)
            go_wp2_with fail
            go_roundg (2 - (1 + 1))
            case measure => have := HG.out; omega
            case rel => exact ⟨1 + 1, rfl, BrRel.bump (by omega) (by have := HZ.out; simp [misTo]; omega) N1.out N2.out N3.out n4 nq⟩
      · have hend : ∀ ty, (Instr.next (.pointer (some ⟨w.heap.size + 1 + 1 + 1, 0, none⟩)) true ty).run Tryd.prog wr = .ok (.tuple #[.bool false]) wr := fun ty =>
          Lib.run_next_end_at wr (w.heap.size + 1 + 1 + 1) O 2 ty hr.2.2.1 (by omega)
        have f1 : wr.cell? ⟨w.heap.size + 1 + 1, 0, none⟩ = some (.int .i64 (c0 + (mA + mB))) := by
          rw [show (c0 + (mA + mB) : Int) = c0 + misTo mA mB 2 by simp [misTo]]
          exact block_cell hr.2.1 0 _ rfl
        have f2 := block_cell hr.2.1 1 _ rfl
        have f3 := block_free hr.2.2.2.1 0
        have f4 := block_free hr.2.2.2.1 1
        have f5 := block_cell hr.2.2.2.1 0 _ rfl
        have f6 := block_cell hr.2.2.2.1 1 _ rfl
        have hb := hr.2.2.2.2
        have g0 := block_cell (block_set (i := 0) hr.2.2.2.1 (.int .i64 (c0 + (mA + mB)))) 0 _ rfl
        have g1 := block_cell (block_set (i := 1) (block_set (i := 0) hr.2.2.2.1 (.int .i64 (c0 + (mA + mB)))) (.int .i64 p0)) 1 _ rfl
        clear hr
        go_wp2_with fail
        refine bodyPost_ret (v := sufV (c0 + (mA + mB), p0)) (by simp [results, Tryd.results26, go_sem, sufV, g0, g1]) rfl ⟨?_, ?_⟩
        · rw [HB0.out, if_pos (by omega)]
        · exact (hb.setCell (by simp) _).setCell (by simp) _
  · have hc' : c0 < 0 := by omega
    go_enter Tryd.func26, Tryd.ntmps26
    go_wp2_with fail
    refine (HN.out _).mono ?_
    rintro e w1 ⟨rfl, rfl⟩
    go_wp2_with fail
    refine bodyPost_ret (v := sufV (c0, p0)) (by simp [results, Tryd.results26, go_sem, sufV]) rfl ⟨?_, ?_⟩
    · rw [HB0.out, if_neg (by omega)]
    · exact (((Below.refl _ w).alloc (Nat.le_refl _) _).alloc (by simp) _).alloc (by simp; omega) _

set_option maxHeartbeats 4000000 in
set_option maxRecDepth 100000 in
theorem branch_falsetrue (X O : ByteArray) (x y : UInt8) (q : Bool) (hX : X.data.toList = [x, y]) (hO : O.data.toList = [Conv.ch ((false ^^ true) ^^ q), Conv.ch (false ^^ q)]) (S : Vit.Stg) (hS : Small S) (w : World)
    (hn : ∀ w, Calls Tryd.prog 18 #[.int .i64 (Conv.st true q : Nat), .int .i64 (Conv.bn false : Nat)] w fun e w' => e = .returned (.tuple #[.int .i64 (Conv.st false true : Nat), .string O]) ∧ w' = w) :
    Calls Tryd.prog 26 #[.string X, stgV S, .int .i64 (Conv.st true q : Nat), .int .i64 (Conv.bn false : Nat)] w fun e w' => e = .returned (sufV (Vit.branch x y S true q false)) ∧ Below w.heap.size w w' := by
  have hs := hS false true
  have HN := Lib.hid hn
  clear hn hS
  have c52 : Tryd.prog.cellsOf 52 = 2 := by kernel_rfl
  have c55 : Tryd.prog.cellsOf 55 = 8 := by kernel_rfl
  obtain ⟨⟨c0, p0⟩, ⟨c1, p1⟩, ⟨c2, p2⟩, ⟨c3, p3⟩⟩ := S
  have hst : ((Conv.st false true : Nat) : Int) = 1 := rfl
  have zX2 : 2 ≤ X.size := by rw [← toList_length, hX]; exact Nat.le_refl 2
  have zO2 : 2 ≤ O.size := by rw [← toList_length, hO]; exact Nat.le_refl 2
  have zO3 : O.size ≤ 2 := by rw [← toList_length, hO]; exact Nat.le_refl 2
  have x0 : X[0]'(by omega) = x := by have h := get_of_lt X 0 (by omega); rw [hX] at h; exact (Option.some.inj h).symm
  have x1 : X[1]'(by omega) = y := by have h := get_of_lt X 1 (by omega); rw [hX] at h; exact (Option.some.inj h).symm
  have o0 : O[0]'(by omega) = Conv.ch ((false ^^ true) ^^ q) := by have h := get_of_lt O 0 (by omega); rw [hO] at h; exact (Option.some.inj h).symm
  have o1 : O[1]'(by omega) = Conv.ch (false ^^ q) := by have h := get_of_lt O 1 (by omega); rw [hO] at h; exact (Option.some.inj h).symm
  have hm0 := mis1_walk x (Conv.ch ((false ^^ true) ^^ q)) ((false ^^ true) ^^ q) rfl
  have hm1 := mis1_walk y (Conv.ch (false ^^ q)) (false ^^ q) rfl
  have hb0 : Vit.branch x y ⟨(c0, p0), (c1, p1), (c2, p2), (c3, p3)⟩ true q false = if 0 ≤ c1 then (c1 + (Vit.mis1 x ((false ^^ true) ^^ q) + Vit.mis1 y (false ^^ q)), p1) else (c1, p1) := rfl
  have hA := Vit.mis1_bd x ((false ^^ true) ^^ q)
  have hB := Vit.mis1_bd y (false ^^ q)
  generalize Vit.mis1 x ((false ^^ true) ^^ q) = mA at *
  generalize Vit.mis1 y (false ^^ q) = mB at *
  have hq0 : (Conv.ch ((false ^^ true) ^^ q)).toNat < 128 := by cases ((false ^^ true) ^^ q) <;> decide
  have hq1 : (Conv.ch (false ^^ q)).toNat < 128 := by cases (false ^^ q) <;> decide
  generalize Conv.ch ((false ^^ true) ^^ q) = oA at *
  generalize Conv.ch (false ^^ q) = oB at *
  have HB0 := Lib.hid hb0
  have HM0 := Lib.hid hm0
  have HM1 := Lib.hid hm1
  have Q0 := Lib.hid hq0
  have Q1 := Lib.hid hq1
  clear hb0 hm0 hm1 hX hO hq0 hq1
  simp only [stgV]
  have hs1 : -1 ≤ c1 := hs.1
  have hs2 : c1 ≤ 100000 := hs.2.1
  clear hs
  by_cases hc : 0 ≤ c1
  · go_enter Tryd.func26, Tryd.ntmps26
    go_wp2_with fail
    refine (HN.out _).mono ?_
    rintro e w1 ⟨rfl, rfl⟩
    go_wp2_with fail
    go_loopg [12] 2 (fun g _ wr => ∃ k : Nat, g = 2 - k ∧ BrRel w c1 p1 mA mB O k wr)
    case atStart =>
      exact ⟨0, rfl, BrRel.start w _ c1 p1 mA mB O⟩
    case round =>
      obtain ⟨k, hg, hr⟩ := hrel
      have HG := Lib.hid hg
      clear hg
      have hk2 : k = 0 ∨ k = 1 ∨ k = 2 := by have := hr.1; omega
      rcases hk2 with rfl | rfl | rfl
      · have hnx : ∀ ty, (Instr.next (.pointer (some ⟨w.heap.size + 1 + 1 + 1, 0, none⟩)) true ty).run Tryd.prog wr = .ok (.tuple #[.bool true, .int .i64 (0 : Nat), .int .i32 (O[0]'(by omega)).toNat]) (wr.iterAt (w.heap.size + 1 + 1 + 1) O (0 + 1)) := fun ty =>
          Lib.run_next_ascii_at wr (w.heap.size + 1 + 1 + 1) O 0 ty hr.2.2.1 (by omega) (by rw [o0]; exact Q0.out)
        obtain ⟨n1, n2, n3, n4⟩ := hr.next (0 + 1)
        generalize wr.iterAt (w.heap.size + 1 + 1 + 1) O (0 + 1) = W1 at *
        have f1 : W1.cell? ⟨w.heap.size + 1 + 1, 0, none⟩ = some (.int .i64 c1) := by
          rw [show (c1 : Int) = c1 + misTo mA mB 0 by simp [misTo]]
          exact block_cell n1 0 _ rfl
        have f2 := block_free n1 0
        have N1 := Lib.hid n1
        have N2 := Lib.hid n2
        have N3 := Lib.hid n3
        clear n1 n2 n3 hr
        cases h1 : ((x.toNat : Int) != 63)
        · have hz : mA = 0 := by rw [HM0.out, h1]; rfl
          have HZ := Lib.hid hz
          clear hz
          go_wp2_with fail
          go_quiet (fail)
          go_wp2_with fail
          go_roundg (2 - (0 + 1))
          case measure => have := HG.out; omega
          case rel => exact ⟨0 + 1, rfl, BrRel.keep (by omega) (by have := HZ.out; simp [misTo]; omega) N1.out N2.out N3.out n4 nq⟩
        · cases h2 : ((x.toNat : Int) != (oA.toNat : Int))
          · have hz : mA = 0 := by rw [HM0.out, h1, h2]; rfl
            have HZ := Lib.hid hz
            clear hz
            go_wp2_with fail
            go_quiet (fail)
            go_wp2_with fail
            go_roundg (2 - (0 + 1))
            case measure => have := HG.out; omega
            case rel => exact ⟨0 + 1, rfl, BrRel.keep (by omega) (by have := HZ.out; simp [misTo]; omega) N1.out N2.out N3.out n4 nq⟩
          · have hz : mA = 1 := by rw [HM0.out, h1, h2]; rfl
            have HZ := Lib.hid hz
            clear hz
            go_wp2_with fail
            go_quiet (fail)
            go_wp2_with fail
            go_roundg (2 - (0 + 1))
            case measure => have := HG.out; omega
            case rel => exact ⟨0 + 1, rfl, BrRel.bump (by omega) (by have := HZ.out; simp [misTo]; omega) N1.out N2.out N3.out n4 nq⟩
      · have hnx : ∀ ty, (Instr.next (.pointer (some ⟨w.heap.size + 1 + 1 + 1, 0, none⟩)) true ty).run Tryd.prog wr = .ok (.tuple #[.bool true, .int .i64 (1 : Nat), .int .i32 (O[1]'(by omega)).toNat]) (wr.iterAt (w.heap.size + 1 + 1 + 1) O (1 + 1)) := fun ty =>
          Lib.run_next_ascii_at wr (w.heap.size + 1 + 1 + 1) O 1 ty hr.2.2.1 (by omega) (by rw [o1]; exact Q1.out)
        obtain ⟨n1, n2, n3, n4⟩ := hr.next (1 + 1)
        generalize wr.iterAt (w.heap.size + 1 + 1 + 1) O (1 + 1) = W1 at *
        have f1 : W1.cell? ⟨w.heap.size + 1 + 1, 0, none⟩ = some (.int .i64 (c1 + mA)) := by
          rw [show ((c1 + mA) : Int) = c1 + misTo mA mB 1 by simp [misTo]]
          exact block_cell n1 0 _ rfl
        have f2 := block_free n1 0
        have N1 := Lib.hid n1
        have N2 := Lib.hid n2
        have N3 := Lib.hid n3
        clear n1 n2 n3 hr
        cases h1 : ((y.toNat : Int) != 63)
        · have hz : mB = 0 := by rw [HM1.out, h1]; rfl
          have HZ := Lib.hid hz
          clear hz
          go_wp2_with fail
          go_quiet (fail)
          go_wp2_with fail
          go_roundg (2 - (1 + 1))
          case measure => have := HG.out; omega
          case rel => exact ⟨1 + 1, rfl, BrRel.keep (by omega) (by have := HZ.out; simp [misTo]; omega) N1.out N2.out N3.out n4 nq⟩
        · cases h2 : ((y.toNat : Int) != (oB.toNat : Int))
          · have hz : mB = 0 := by rw [HM1.out, h1, h2]; rfl
            have HZ := Lib.hid hz
            clear hz
            go_wp2_with fail
            go_quiet (fail)
            go_wp2_with fail
            go_roundg (2 - (1 + 1))
            case measure => have := HG.out; omega
            case rel => exact ⟨1 + 1, rfl, BrRel.keep (by omega) (by have := HZ.out; simp [misTo]; omega) N1.out N2.out N3.out n4 nq⟩
          · have hz : mB = 1 := by rw [HM1.out, h1, h2]; rfl
            have HZ := Lib.hid hz
            clear hz
            go_wp2_with fail
            go_quiet (fail)
            go_wp2_with fail
            go_roundg (2 - (1 + 1))
            case measure => have := HG.out; omega
            case rel => exact ⟨1 + 1, rfl, BrRel.bump (by omega) (by have := HZ.out; simp [misTo]; omega) N1.out N2.out N3.out n4 nq⟩
      · have hend : ∀ ty, (Instr.next (.pointer (some ⟨w.heap.size + 1 + 1 + 1, 0, none⟩)) true ty).run Tryd.prog wr = .ok (.tuple #[.bool false]) wr := fun ty =>
          Lib.run_next_end_at wr (w.heap.size + 1 + 1 + 1) O 2 ty hr.2.2.1 (by omega)
        have f1 : wr.cell? ⟨w.heap.size + 1 + 1, 0, none⟩ = some (.int .i64 (c1 + (mA + mB))) := by
          rw [show (c1 + (mA + mB) : Int) = c1 + misTo mA mB 2 by simp [misTo]]
          exact block_cell hr.2.1 0 _ rfl
        have f2 := block_cell hr.2.1 1 _ rfl
        have f3 := block_free hr.2.2.2.1 0
        have f4 := block_free hr.2.2.2.1 1
        have f5 := block_cell hr.2.2.2.1 0 _ rfl
        have f6 := block_cell hr.2.2.2.1 1 _ rfl
        have hb := hr.2.2.2.2
        have g0 := block_cell (block_set (i := 0) hr.2.2.2.1 (.int .i64 (c1 + (mA + mB)))) 0 _ rfl
        have g1 := block_cell (block_set (i := 1) (block_set (i := 0) hr.2.2.2.1 (.int .i64 (c1 + (mA + mB)))) (.int .i64 p1)) 1 _ rfl
        clear hr
        go_wp2_with fail
        refine bodyPost_ret (v := sufV (c1 + (mA + mB), p1)) (by simp [results, Tryd.results26, go_sem, sufV, g0, g1]) rfl ⟨?_, ?_⟩
        · rw [HB0.out, if_pos (by omega)]
        · exact (hb.setCell (by simp) _).setCell (by simp) _
  · have hc' : c1 < 0 := by omega
    go_enter Tryd.func26, Tryd.ntmps26
    go_wp2_with fail
    refine (HN.out _).mono ?_
    rintro e w1 ⟨rfl, rfl⟩
    go_wp2_with fail
    refine bodyPost_ret (v := sufV (c1, p1)) (by simp [results, Tryd.results26, go_sem, sufV]) rfl ⟨?_, ?_⟩
    · rw [HB0.out, if_neg (by omega)]
    · exact (((Below.refl _ w).alloc (Nat.le_refl _) _).alloc (by simp) _).alloc (by simp; omega) _

set_option maxHeartbeats 4000000 in
set_option maxRecDepth 100000 in
theorem branch_truefalse (X O : ByteArray) (x y : UInt8) (q : Bool) (hX : X.data.toList = [x, y]) (hO : O.data.toList = [Conv.ch ((true ^^ false) ^^ q), Conv.ch (true ^^ q)]) (S : Vit.Stg) (hS : Small S) (w : World)
    (hn : ∀ w, Calls Tryd.prog 18 #[.int .i64 (Conv.st false q : Nat), .int .i64 (Conv.bn true : Nat)] w fun e w' => e = .returned (.tuple #[.int .i64 (Conv.st true false : Nat), .string O]) ∧ w' = w) :
    Calls Tryd.prog 26 #[.string X, stgV S, .int .i64 (Conv.st false q : Nat), .int .i64 (Conv.bn true : Nat)] w fun e w' => e = .returned (sufV (Vit.branch x y S false q true)) ∧ Below w.heap.size w w' := by
  have hs := hS true false
  have HN := Lib.hid hn
  clear hn hS
  have c52 : Tryd.prog.cellsOf 52 = 2 := by kernel_rfl
  have c55 : Tryd.prog.cellsOf 55 = 8 := by kernel_rfl
  obtain ⟨⟨c0, p0⟩, ⟨c1, p1⟩, ⟨c2, p2⟩, ⟨c3, p3⟩⟩ := S
  have hst : ((Conv.st true false : Nat) : Int) = 2 := rfl
  have zX2 : 2 ≤ X.size := by rw [← toList_length, hX]; exact Nat.le_refl 2
  have zO2 : 2 ≤ O.size := by rw [← toList_length, hO]; exact Nat.le_refl 2
  have zO3 : O.size ≤ 2 := by rw [← toList_length, hO]; exact Nat.le_refl 2
  have x0 : X[0]'(by omega) = x := by have h := get_of_lt X 0 (by omega); rw [hX] at h; exact (Option.some.inj h).symm
  have x1 : X[1]'(by omega) = y := by have h := get_of_lt X 1 (by omega); rw [hX] at h; exact (Option.some.inj h).symm
  have o0 : O[0]'(by omega) = Conv.ch ((true ^^ false) ^^ q) := by have h := get_of_lt O 0 (by omega); rw [hO] at h; exact (Option.some.inj h).symm
  have o1 : O[1]'(by omega) = Conv.ch (true ^^ q) := by have h := get_of_lt O 1 (by omega); rw [hO] at h; exact (Option.some.inj h).symm
  have hm0 := mis1_walk x (Conv.ch ((true ^^ false) ^^ q)) ((true ^^ false) ^^ q) rfl
  have hm1 := mis1_walk y (Conv.ch (true ^^ q)) (true ^^ q) rfl
  have hb0 : Vit.branch x y ⟨(c0, p0), (c1, p1), (c2, p2), (c3, p3)⟩ false q true = if 0 ≤ c2 then (c2 + (Vit.mis1 x ((true ^^ false) ^^ q) + Vit.mis1 y (true ^^ q)), p2) else (c2, p2) := rfl
  have hA := Vit.mis1_bd x ((true ^^ false) ^^ q)
  have hB := Vit.mis1_bd y (true ^^ q)
  generalize Vit.mis1 x ((true ^^ false) ^^ q) = mA at *
  generalize Vit.mis1 y (true ^^ q) = mB at *
  have hq0 : (Conv.ch ((true ^^ false) ^^ q)).toNat < 128 := by cases ((true ^^ false) ^^ q) <;> decide
  have hq1 : (Conv.ch (true ^^ q)).toNat < 128 := by cases (true ^^ q) <;> decide
  generalize Conv.ch ((true ^^ false) ^^ q) = oA at *
  generalize Conv.ch (true ^^ q) = oB at *
  have HB0 := Lib.hid hb0
  have HM0 := Lib.hid hm0
  have HM1 := Lib.hid hm1
  have Q0 := Lib.hid hq0
  have Q1 := Lib.hid hq1
  clear hb0 hm0 hm1 hX hO hq0 hq1
  simp only [stgV]
  have hs1 : -1 ≤ c2 := hs.1
  have hs2 : c2 ≤ 100000 := hs.2.1
  clear hs
  by_cases hc : 0 ≤ c2
  · go_enter Tryd.func26, Tryd.ntmps26
    go_wp2_with fail
    refine (HN.out _).mono ?_
    rintro e w1 ⟨rfl, rfl⟩
    go_wp2_with fail
    go_loopg [12] 2 (fun g _ wr => ∃ k : Nat, g = 2 - k ∧ BrRel w c2 p2 mA mB O k wr)
    case atStart =>
      exact ⟨0, rfl, BrRel.start w _ c2 p2 mA mB O⟩
    case round =>
      obtain ⟨k, hg, hr⟩ := hrel
      have HG := Lib.hid hg
      clear hg
      have hk2 : k = 0 ∨ k = 1 ∨ k = 2 := by have := hr.1; omega
      rcases hk2 with rfl | rfl | rfl
      · have hnx : ∀ ty, (Instr.next (.pointer (some ⟨w.heap.size + 1 + 1 + 1, 0, none⟩)) true ty).run Tryd.prog wr = .ok (.tuple #[.bool true, .int .i64 (0 : Nat), .int .i32 (O[0]'(by omega)).toNat]) (wr.iterAt (w.heap.size + 1 + 1 + 1) O (0 + 1)) := fun ty =>
          Lib.run_next_ascii_at wr (w.heap.size + 1 + 1 + 1) O 0 ty hr.2.2.1 (by omega) (by rw [o0]; exact Q0.out)
        obtain ⟨n1, n2, n3, n4⟩ := hr.next (0 + 1)
        generalize wr.iterAt (w.heap.size + 1 + 1 + 1) O (0 + 1) = W1 at *
        have f1 : W1.cell? ⟨w.heap.size + 1 + 1, 0, none⟩ = some (.int .i64 c2) := by
          rw [show (c2 : Int) = c2 + misTo mA mB 0 by simp [misTo]]
          exact block_cell n1 0 _ rfl
        have f2 := block_free n1 0
        have N1 := Lib.hid n1
        have N2 := Lib.hid n2
        have N3 := Lib.hid n3
        clear n1 n2 n3 hr
        cases h1 : ((x.toNat : Int) != 63)
        · have hz : mA = 0 := by rw [HM0.out, h1]; rfl
          have HZ := Lib.hid hz
          clear hz
          go_wp2_with fail
          go_quiet (fail)
          go_wp2_with fail
          go_roundg (2 - (0 + 1))
          case measure => have := HG.out; omega
          case rel => exact ⟨0 + 1, rfl, BrRel.keep (by omega) (by have := HZ.out; simp [misTo]; omega) N1.out N2.out N3.out n4 nq⟩
        · cases h2 : ((x.toNat : Int) != (oA.toNat : Int))
          · have hz : mA = 0 := by rw [HM0.out, h1, h2]; rfl
            have HZ := Lib.hid hz
            clear hz
            go_wp2_with fail
            go_quiet (fail)
            go_wp2_with fail
            go_roundg (2 - (0 + 1))
            case measure => have := HG.out; omega
            case rel => exact ⟨0 + 1, rfl, BrRel.keep (by omega) (by have := HZ.out; simp [misTo]; omega) N1.out N2.out N3.out n4 nq⟩
          · have hz : mA = 1 := by rw [HM0.out, h1, h2]; rfl
            have HZ := Lib.hid hz
            clear hz
            go_wp2_with fail
            go_quiet (fail)
            go_wp2_with fail
            go_roundg (2 - (0 + 1))
            case measure => have := HG.out; omega
            case rel => exact ⟨0 + 1, rfl, BrRel.bump (by omega) (by have := HZ.out; simp [misTo]; omega) N1.out N2.out N3.out n4 nq⟩
      · have hnx : ∀ ty, (Instr.next (.pointer (some ⟨w.heap.size + 1 + 1 + 1, 0, none⟩)) true ty).run Tryd.prog wr = .ok (.tuple #[.bool true, .int .i64 (1 : Nat), .int .i32 (O[1]'(by omega)).toNat]) (wr.iterAt (w.heap.size + 1 + 1 + 1) O (1 + 1)) := fun ty =>
          Lib.run_next_ascii_at wr (w.heap.size + 1 + 1 + 1) O 1 ty hr.2.2.1 (by omega) (by rw [o1]; exact Q1.out)
        obtain ⟨n1, n2, n3, n4⟩ := hr.next (1 + 1)
        generalize wr.iterAt (w.heap.size + 1 + 1 + 1) O (1 + 1) = W1 at *
        have f1 : W1.cell? ⟨w.heap.size + 1 + 1, 0, none⟩ = some (.int .i64 (c2 + mA)) := by
          rw [show ((c2 + mA) : Int) = c2 + misTo mA mB 1 by simp [misTo]]
          exact block_cell n1 0 _ rfl
        have f2 := block_free n1 0
        have N1 := Lib.hid n1
        have N2 := Lib.hid n2
        have N3 := Lib.hid n3
        clear n1 n2 n3 hr
        cases h1 : ((y.toNat : Int) != 63)
        · have hz : mB = 0 := by rw [HM1.out, h1]; rfl
          have HZ := Lib.hid hz
          clear hz
          go_wp2_with fail
          go_quiet (fail)
          go_wp2_with fail
          go_roundg (2 - (1 + 1))
          case measure => have := HG.out; omega
          case rel => exact ⟨1 + 1, rfl, BrRel.keep (by omega) (by have := HZ.out; simp [misTo]; omega) N1.out N2.out N3.out n4 nq⟩
        · cases h2 : ((y.toNat : Int) != (oB.toNat : Int))
          · have hz : mB = 0 := by rw [HM1.out, h1, h2]; rfl
            have HZ := Lib.hid hz
            clear hz
            go_wp2_with fail
            go_quiet (fail)
            go_wp2_with fail
            go_roundg (2 - (1 + 1))
            case measure => have := HG.out; omega
            case rel => exact ⟨1 + 1, rfl, BrRel.keep (by omega) (by have := HZ.out; simp [misTo]; omega) N1.out N2.out N3.out n4 nq⟩
          · have hz : mB = 1 := by rw [HM1.out, h1, h2]; rfl
            have HZ := Lib.hid hz
            clear hz
            go_wp2_with fail
            go_quiet (fail)
            go_wp2_with fail
            go_roundg (2 - (1 + 1))
            case measure => have := HG.out; omega
            case rel => exact ⟨1 + 1, rfl, BrRel.bump (by omega) (by have := HZ.out; simp [misTo]; omega) N1.out N2.out N3.out n4 nq⟩
      · have hend : ∀ ty, (Instr.next (.pointer (some ⟨w.heap.size + 1 + 1 + 1, 0, none⟩)) true ty).run Tryd.prog wr = .ok (.tuple #[.bool false]) wr := fun ty =>
          Lib.run_next_end_at wr (w.heap.size + 1 + 1 + 1) O 2 ty hr.2.2.1 (by omega)
        have f1 : wr.cell? ⟨w.heap.size + 1 + 1, 0, none⟩ = some (.int .i64 (c2 + (mA + mB))) := by
          rw [show (c2 + (mA + mB) : Int) = c2 + misTo mA mB 2 by simp [misTo]]
          exact block_cell hr.2.1 0 _ rfl
        have f2 := block_cell hr.2.1 1 _ rfl
        have f3 := block_free hr.2.2.2.1 0
        have f4 := block_free hr.2.2.2.1 1
        have f5 := block_cell hr.2.2.2.1 0 _ rfl
        have f6 := block_cell hr.2.2.2.1 1 _ rfl
        have hb := hr.2.2.2.2
        have g0 := block_cell (block_set (i := 0) hr.2.2.2.1 (.int .i64 (c2 + (mA + mB)))) 0 _ rfl
        have g1 := block_cell (block_set (i := 1) (block_set (i := 0) hr.2.2.2.1 (.int .i64 (c2 + (mA + mB)))) (.int .i64 p2)) 1 _ rfl
        clear hr
        go_wp2_with fail
        refine bodyPost_ret (v := sufV (c2 + (mA + mB), p2)) (by simp [results, Tryd.results26, go_sem, sufV, g0, g1]) rfl ⟨?_, ?_⟩
        · rw [HB0.out, if_pos (by omega)]
        · exact (hb.setCell (by simp) _).setCell (by simp) _
  · have hc' : c2 < 0 := by omega
    go_enter Tryd.func26, Tryd.ntmps26
    go_wp2_with fail
    refine (HN.out _).mono ?_
    rintro e w1 ⟨rfl, rfl⟩
    go_wp2_with fail
    refine bodyPost_ret (v := sufV (c2, p2)) (by simp [results, Tryd.results26, go_sem, sufV]) rfl ⟨?_, ?_⟩
    · rw [HB0.out, if_neg (by omega)]
    · exact (((Below.refl _ w).alloc (Nat.le_refl _) _).alloc (by simp) _).alloc (by simp; omega) _

set_option maxHeartbeats 4000000 in
set_option maxRecDepth 100000 in
theorem branch_truetrue (X O : ByteArray) (x y : UInt8) (q : Bool) (hX : X.data.toList = [x, y]) (hO : O.data.toList = [Conv.ch ((true ^^ true) ^^ q), Conv.ch (true ^^ q)]) (S : Vit.Stg) (hS : Small S) (w : World)
    (hn : ∀ w, Calls Tryd.prog 18 #[.int .i64 (Conv.st true q : Nat), .int .i64 (Conv.bn true : Nat)] w fun e w' => e = .returned (.tuple #[.int .i64 (Conv.st true true : Nat), .string O]) ∧ w' = w) :
    Calls Tryd.prog 26 #[.string X, stgV S, .int .i64 (Conv.st true q : Nat), .int .i64 (Conv.bn true : Nat)] w fun e w' => e = .returned (sufV (Vit.branch x y S true q true)) ∧ Below w.heap.size w w' := by
  have hs := hS true true
  have HN := Lib.hid hn
  clear hn hS
  have c52 : Tryd.prog.cellsOf 52 = 2 := by kernel_rfl
  have c55 : Tryd.prog.cellsOf 55 = 8 := by kernel_rfl
  obtain ⟨⟨c0, p0⟩, ⟨c1, p1⟩, ⟨c2, p2⟩, ⟨c3, p3⟩⟩ := S
  have hst : ((Conv.st true true : Nat) : Int) = 3 := rfl
  have zX2 : 2 ≤ X.size := by rw [← toList_length, hX]; exact Nat.le_refl 2
  have zO2 : 2 ≤ O.size := by rw [← toList_length, hO]; exact Nat.le_refl 2
  have zO3 : O.size ≤ 2 := by rw [← toList_length, hO]; exact Nat.le_refl 2
  have x0 : X[0]'(by omega) = x := by have h := get_of_lt X 0 (by omega); rw [hX] at h; exact (Option.some.inj h).symm
  have x1 : X[1]'(by omega) = y := by have h := get_of_lt X 1 (by omega); rw [hX] at h; exact (Option.some.inj h).symm
  have o0 : O[0]'(by omega) = Conv.ch ((true ^^ true) ^^ q) := by have h := get_of_lt O 0 (by omega); rw [hO] at h; exact (Option.some.inj h).symm
  have o1 : O[1]'(by omega) = Conv.ch (true ^^ q) := by have h := get_of_lt O 1 (by omega); rw [hO] at h; exact (Option.some.inj h).symm
  have hm0 := mis1_walk x (Conv.ch ((true ^^ true) ^^ q)) ((true ^^ true) ^^ q) rfl
  have hm1 := mis1_walk y (Conv.ch (true ^^ q)) (true ^^ q) rfl
  have hb0 : Vit.branch x y ⟨(c0, p0), (c1, p1), (c2, p2), (c3, p3)⟩ true q true = if 0 ≤ c3 then (c3 + (Vit.mis1 x ((true ^^ true) ^^ q) + Vit.mis1 y (true ^^ q)), p3) else (c3, p3) := rfl
  have hA := Vit.mis1_bd x ((true ^^ true) ^^ q)
  have hB := Vit.mis1_bd y (true ^^ q)
  generalize Vit.mis1 x ((true ^^ true) ^^ q) = mA at *
  generalize Vit.mis1 y (true ^^ q) = mB at *
  have hq0 : (Conv.ch ((true ^^ true) ^^ q)).toNat < 128 := by cases ((true ^^ true) ^^ q) <;> decide
  have hq1 : (Conv.ch (true ^^ q)).toNat < 128 := by cases (true ^^ q) <;> decide
  generalize Conv.ch ((true ^^ true) ^^ q) = oA at *
  generalize Conv.ch (true ^^ q) = oB at *
  have HB0 := Lib.hid hb0
  have HM0 := Lib.hid hm0
  have HM1 := Lib.hid hm1
  have Q0 := Lib.hid hq0
  have Q1 := Lib.hid hq1
  clear hb0 hm0 hm1 hX hO hq0 hq1
  simp only [stgV]
  have hs1 : -1 ≤ c3 := hs.1
  have hs2 : c3 ≤ 100000 := hs.2.1
  clear hs
  by_cases hc : 0 ≤ c3
  · go_enter Tryd.func26, Tryd.ntmps26
    go_wp2_with fail
    refine (HN.out _).mono ?_
    rintro e w1 ⟨rfl, rfl⟩
    go_wp2_with fail
    go_loopg [12] 2 (fun g _ wr => ∃ k : Nat, g = 2 - k ∧ BrRel w c3 p3 mA mB O k wr)
    case atStart =>
      exact ⟨0, rfl, BrRel.start w _ c3 p3 mA mB O⟩
    case round =>
      obtain ⟨k, hg, hr⟩ := hrel
      have HG := Lib.hid hg
      clear hg
      have hk2 : k = 0 ∨ k = 1 ∨ k = 2 := by have := hr.1; omega
      rcases hk2 with rfl | rfl | rfl
      · have hnx : ∀ ty, (Instr.next (.pointer (some ⟨w.heap.size + 1 + 1 + 1, 0, none⟩)) true ty).run Tryd.prog wr = .ok (.tuple #[.bool true, .int .i64 (0 : Nat), .int .i32 (O[0]'(by omega)).toNat]) (wr.iterAt (w.heap.size + 1 + 1 + 1) O (0 + 1)) := fun ty =>
          Lib.run_next_ascii_at wr (w.heap.size + 1 + 1 + 1) O 0 ty hr.2.2.1 (by omega) (by rw [o0]; exact Q0.out)
        obtain ⟨n1, n2, n3, n4⟩ := hr.next (0 + 1)
        generalize wr.iterAt (w.heap.size + 1 + 1 + 1) O (0 + 1) = W1 at *
        have f1 : W1.cell? ⟨w.heap.size + 1 + 1, 0, none⟩ = some (.int .i64 c3) := by
          rw [show (c3 : Int) = c3 + misTo mA mB 0 by simp [misTo]]
          exact block_cell n1 0 _ rfl
        have f2 := block_free n1 0
        have N1 := Lib.hid n1
        have N2 := Lib.hid n2
        have N3 := Lib.hid n3
        clear n1 n2 n3 hr
        cases h1 : ((x.toNat : Int) != 63)
        · have hz : mA = 0 := by rw [HM0.out, h1]; rfl
          have HZ := Lib.hid hz
          clear hz
          go_wp2_with fail
          go_quiet (fail)
          go_wp2_with fail
          go_roundg (2 - (0 + 1))
          case measure => have := HG.out; omega
          case rel => exact ⟨0 + 1, rfl, BrRel.keep (by omega) (by have := HZ.out; simp [misTo]; omega) N1.out N2.out N3.out n4 nq⟩
        · cases h2 : ((x.toNat : Int) != (oA.toNat : Int))
          · have hz : mA = 0 := by rw [HM0.out, h1, h2]; rfl
            have HZ := Lib.hid hz
            clear hz
            go_wp2_with fail
            go_quiet (fail)
            go_wp2_with fail
            go_roundg (2 - (0 + 1))
            case measure => have := HG.out; omega
            case rel => exact ⟨0 + 1, rfl, BrRel.keep (by omega) (by have := HZ.out; simp [misTo]; omega) N1.out N2.out N3.out n4 nq⟩
          · have hz : mA = 1 := by rw [HM0.out, h1, h2]; rfl
            have HZ := Lib.hid hz
            clear hz
            go_wp2_with fail
            go_quiet (fail)
            go_wp2_with fail
            go_roundg (2 - (0 + 1))
            case measure => have := HG.out; omega
            case rel => exact ⟨0 + 1, rfl, BrRel.bump (by omega) (by have := HZ.out; simp [misTo]; omega) N1.out N2.out N3.out n4 nq⟩
      · have hnx : ∀ ty, (Instr.next (.pointer (some ⟨w.heap.size + 1 + 1 + 1, 0, none⟩)) true ty).run Tryd.prog wr = .ok (.tuple #[.bool true, .int .i64 (1 : Nat), .int .i32 (O[1]'(by omega)).toNat]) (wr.iterAt (w.heap.size + 1 + 1 + 1) O (1 + 1)) := fun ty =>
          Lib.run_next_ascii_at wr (w.heap.size + 1 + 1 + 1) O 1 ty hr.2.2.1 (by omega) (by rw [o1]; exact Q1.out)
        obtain ⟨n1, n2, n3, n4⟩ := hr.next (1 + 1)
        generalize wr.iterAt (w.heap.size + 1 + 1 + 1) O (1 + 1) = W1 at *
        have f1 : W1.cell? ⟨w.heap.size + 1 + 1, 0, none⟩ = some (.int .i64 (c3 + mA)) := by
          rw [show ((c3 + mA) : Int) = c3 + misTo mA mB 1 by simp [misTo]]
          exact block_cell n1 0 _ rfl
        have f2 := block_free n1 0
        have N1 := Lib.hid n1
        have N2 := Lib.hid n2
        have N3 := Lib.hid n3
        clear n1 n2 n3 hr
        cases h1 : ((y.toNat : Int) != 63)
        · have hz : mB = 0 := by rw [HM1.out, h1]; rfl
          have HZ := Lib.hid hz
          clear hz
          go_wp2_with fail
          go_quiet (fail)
          go_wp2_with fail
          go_roundg (2 - (1 + 1))
          case measure => have := HG.out; omega
          case rel => exact ⟨1 + 1, rfl, BrRel.keep (by omega) (by have := HZ.out; simp [misTo]; omega) N1.out N2.out N3.out n4 nq⟩
        · cases h2 : ((y.toNat : Int) != (oB.toNat : Int))
          · have hz : mB = 0 := by rw [HM1.out, h1, h2]; rfl
            have HZ := Lib.hid hz
            clear hz
            go_wp2_with fail
            go_quiet (fail)
            go_wp2_with fail
            go_roundg (2 - (1 + 1))
            case measure => have := HG.out; omega
            case rel => exact ⟨1 + 1, rfl, BrRel.keep (by omega) (by have := HZ.out; simp [misTo]; omega) N1.out N2.out N3.out n4 nq⟩
          · have hz : mB = 1 := by rw [HM1.out, h1, h2]; rfl
            have HZ := Lib.hid hz
            clear hz
            go_wp2_with fail
            go_quiet (fail)
            go_wp2_with fail
            go_roundg (2 - (1 + 1))
            case measure => have := HG.out; omega
            case rel => exact ⟨1 + 1, rfl, BrRel.bump (by omega) (by have := HZ.out; simp [misTo]; omega) N1.out N2.out N3.out n4 nq⟩
      · have hend : ∀ ty, (Instr.next (.pointer (some ⟨w.heap.size + 1 + 1 + 1, 0, none⟩)) true ty).run Tryd.prog wr = .ok (.tuple #[.bool false]) wr := fun ty =>
          Lib.run_next_end_at wr (w.heap.size + 1 + 1 + 1) O 2 ty hr.2.2.1 (by omega)
        have f1 : wr.cell? ⟨w.heap.size + 1 + 1, 0, none⟩ = some (.int .i64 (c3 + (mA + mB))) := by
          rw [show (c3 + (mA + mB) : Int) = c3 + misTo mA mB 2 by simp [misTo]]
          exact block_cell hr.2.1 0 _ rfl
        have f2 := block_cell hr.2.1 1 _ rfl
        have f3 := block_free hr.2.2.2.1 0
        have f4 := block_free hr.2.2.2.1 1
        have f5 := block_cell hr.2.2.2.1 0 _ rfl
        have f6 := block_cell hr.2.2.2.1 1 _ rfl
        have hb := hr.2.2.2.2
        have g0 := block_cell (block_set (i := 0) hr.2.2.2.1 (.int .i64 (c3 + (mA + mB)))) 0 _ rfl
        have g1 := block_cell (block_set (i := 1) (block_set (i := 0) hr.2.2.2.1 (.int .i64 (c3 + (mA + mB)))) (.int .i64 p3)) 1 _ rfl
        clear hr
        go_wp2_with fail
        refine bodyPost_ret (v := sufV (c3 + (mA + mB), p3)) (by simp [results, Tryd.results26, go_sem, sufV, g0, g1]) rfl ⟨?_, ?_⟩
        · rw [HB0.out, if_pos (by omega)]
        · exact (hb.setCell (by simp) _).setCell (by simp) _
  · have hc' : c3 < 0 := by omega
    go_enter Tryd.func26, Tryd.ntmps26
    go_wp2_with fail
    refine (HN.out _).mono ?_
    rintro e w1 ⟨rfl, rfl⟩
    go_wp2_with fail
    refine bodyPost_ret (v := sufV (c3, p3)) (by simp [results, Tryd.results26, go_sem, sufV]) rfl ⟨?_, ?_⟩
    · rw [HB0.out, if_neg (by omega)]
    · exact (((Below.refl _ w).alloc (Nat.le_refl _) _).alloc (by simp) _).alloc (by simp; omega) _

theorem branch_any (X : ByteArray) (x y : UInt8) (p q u : Bool) (hX : X.data.toList = [x, y]) (S : Vit.Stg) (hS : Small S) (w : World) :
    Calls Tryd.prog 26 #[.string X, stgV S, .int .i64 (Conv.st p q : Nat), .int .i64 (Conv.bn u : Nat)] w fun e w' => e = .returned (sufV (Vit.branch x y S p q u)) ∧ Below w.heap.size w w' := by
  have hn := fun w => next_any (Conv.st p q : Nat) (Conv.bn u : Nat) p q u w (by cases p <;> cases q <;> rfl) (by cases u <;> rfl)
  cases u <;> cases p
  · exact branch_falsefalse X _ x y q hX rfl S hS w hn
  · exact branch_falsetrue X _ x y q hX rfl S hS w hn
  · exact branch_truefalse X _ x y q hX rfl S hS w hn
  · exact branch_truetrue X _ x y q hX rfl S hS w hn
end Go.Proofs.YtnklgppfggkeoaaDoor
