/-
  The law ViterbiCosts.
-/
import Derived.Test.YtnklgppfggkeoaaDoorVitRefC
import Derived.Test.YtnklgppfggkeoaaDoorVitLaw1
import Derived.DeepKeys
namespace Go.Proofs.YtnklgppfggkeoaaDoor
open Go.RowKit

/-- Four numbers are equal to themselves, as Go compares arrays. -/
theorem four_eq (a b c d : Int) (ha : (Lit.int .i64 a).wf = true) (hb : (Lit.int .i64 b).wf = true) (hc : (Lit.int .i64 c).wf = true) (hd : (Lit.int .i64 d).wf = true) (w : World) : Sem.run Tryd.prog (Op.equalIn 10000 31 (.agg #[.int .i64 a, .int .i64 b, .int .i64 c, .int .i64 d]) (.agg #[.int .i64 a, .int .i64 b, .int .i64 c, .int .i64 d])) w = .ok true w := by
  have u1 : Tryd.prog.underlying 31 = some (.array 4 3) := by kernel_rfl
  have u2 : Tryd.prog.underlying 3 = some (.int .i64) := by kernel_rfl
  have z1 : Tryd.prog.cellsOf 31 = 4 := by kernel_rfl
  have z2 : Tryd.prog.cellsOf 3 = 1 := by kernel_rfl
  have hk : Tryd.prog.keyTypeAt 10 31 = true := by kernel_rfl
  have e1 : ∀ x : Int, (Lit.int .i64 x).wf = true → Tryd.prog.keyLits 9 3 [Value.int .i64 x] = some [.int .i64 x] := fun x hx => by
    unfold Program.keyLits
    simp only [u2]
    rw [if_pos ⟨trivial, hx⟩]
  have hl : Tryd.prog.keyLits 10 31 [Value.int .i64 a, .int .i64 b, .int .i64 c, .int .i64 d] = some [.int .i64 a, .int .i64 b, .int .i64 c, .int .i64 d] := by
    unfold Program.keyLits
    simp only [u1]
    rw [if_pos (by rw [z1]; rfl), z2, show List.range 4 = [0, 1, 2, 3] from rfl]
    simp only [List.mapM_cons, List.mapM_nil]
    rw [show (List.take 1 (List.drop (0 * 1) [Value.int .i64 a, .int .i64 b, .int .i64 c, .int .i64 d])) = [.int .i64 a] from rfl, show (List.take 1 (List.drop (1 * 1) [Value.int .i64 a, .int .i64 b, .int .i64 c, .int .i64 d])) = [.int .i64 b] from rfl, show (List.take 1 (List.drop (2 * 1) [Value.int .i64 a, .int .i64 b, .int .i64 c, .int .i64 d])) = [.int .i64 c] from rfl, show (List.take 1 (List.drop (3 * 1) [Value.int .i64 a, .int .i64 b, .int .i64 c, .int .i64 d])) = [.int .i64 d] from rfl, e1 a ha, e1 b hb, e1 c hc, e1 d hd]
    rfl
  have hf : (Value.agg #[.int .i64 a, .int .i64 b, .int .i64 c, .int .i64 d]).formed Tryd.prog 31 = true := by kernel_rfl
  obtain ⟨r, hr, hiff⟩ := run_equalIn_deep (P := Tryd.prog) 9990 10 31 hk w 10 10 _ _ _ _ hf hf hl hl
  rw [hiff.2 rfl] at hr
  exact hr

theorem wf_small {n : Int} (h1 : -1 ≤ n) (h2 : n ≤ 100000) : (Lit.int .i64 n).wf = true := by
  simp only [Lit.wf, IntKind.min, IntKind.max, IntKind.signed, IntKind.bits, Bool.and_eq_true, decide_eq_true_eq, if_true]
  omega
theorem costs_pair (s : ByteArray) (hs : s.size ≤ 4000) (z : Int) : ∃ a b c d e : Int, (Lit.int .i64 a).wf = true ∧ (Lit.int .i64 b).wf = true ∧ (Lit.int .i64 c).wf = true ∧ (Lit.int .i64 d).wf = true ∧
    (∀ w, Calls Tryd.prog 16 #[.string s, .int .i64 z] w fun r w' => r = .returned (.tuple #[.agg #[.int .i64 a, .int .i64 b, .int .i64 c, .int .i64 d], .int .i64 e]) ∧ Below w.heap.size w w') ∧
    (∀ w, Calls Tryd.prog 17 #[.string s, .int .i64 z] w fun r w' => r = .returned (.tuple #[.agg #[.int .i64 a, .int .i64 b, .int .i64 c, .int .i64 d], .int .i64 e]) ∧ Below w.heap.size w w') := by
  have hl := toList_length s
  by_cases hE : vErr s.data.toList = 0
  · obtain ⟨h1, h2, h3⟩ := Vit.err_zero hE
    by_cases hk : z < 0 ∨ (s.size : Int) / 2 < z
    · exact ⟨0, 0, 0, 0, 2, by decide, by decide, by decide, by decide, fun w => costs_range s z w hs hE hk, fun w => rcosts_range s z w hs hE hk⟩
    · obtain ⟨k, rfl⟩ : ∃ k : Nat, z = k := ⟨z.toNat, by omega⟩
      have hsm := small_dp (s.size / 2 - k) (s.data.toList.drop (2 * k)) (by rw [List.length_drop]; omega) (by omega)
      have ha := hsm false false
      have hb := hsm false true
      have hc := hsm true false
      have hd := hsm true true
      exact ⟨_, _, _, _, 0, wf_small ha.1 ha.2.1, wf_small hb.1 hb.2.1, wf_small hc.1 hc.2.1, wf_small hd.1 hd.2.1, fun w => costs_ok s (s.size / 2) k (by omega) (by omega) (by omega) hE _ rfl w, fun w => rcosts_ok s (s.size / 2) k (by omega) (by omega) (by omega) hE _ rfl w⟩
  · exact ⟨0, 0, 0, 0, vErr s.data.toList, by decide, by decide, by decide, by decide, fun w => costs_bad s z w (by omega) hE, fun w => rcosts_bad s z w (by omega) hE⟩
theorem costs_zero (s : ByteArray) (hs : s.size ≤ 4000) : ∃ b c d : Int,
    (∀ w, Calls Tryd.prog 16 #[.string s, .int .i64 0] w fun r w' => r = .returned (.tuple #[.agg #[.int .i64 (Vit.decN s.data.toList), .int .i64 b, .int .i64 c, .int .i64 d], .int .i64 (vErr s.data.toList)]) ∧ Below w.heap.size w w') := by
  have hl := toList_length s
  by_cases hE : vErr s.data.toList = 0
  · obtain ⟨h1, h2, h3⟩ := Vit.err_zero hE
    obtain ⟨_, e2, _⟩ := Vit.dec_ok hE
    have e4 : Vit.cost s.data.toList = (Vit.dp s.data.toList).a.1 := rfl
    rw [e2, e4, hE]
    exact ⟨_, _, _, fun w => costs_ok s (s.size / 2) 0 (by omega) (by omega) (by omega) hE (Vit.dp s.data.toList) rfl w⟩
  · obtain ⟨_, e2, _⟩ := Vit.dec_bad hE
    rw [e2]
    exact ⟨0, 0, 0, fun w => costs_bad s 0 w (by omega) hE⟩

set_option maxHeartbeats 1000000 in
set_option maxRecDepth 100000 in
theorem law_costs (s : ByteArray) (z : Int) (_hs : s.size ≤ 140737488351232) (_hz : (Lit.int .i64 z).wf = true) (w : World) : Calls Tryd.prog 5 #[.string s, .int .i64 z] w fun e w' => e = .returned (.bool true) ∧ Below w.heap.size w w' := by
  have caw := fun w => awake_any w
  by_cases hbig : 300 < s.size
  · go_enter Tryd.func5, Tryd.ntmps5
    go_wp2_with fail
    refine (caw _).mono ?_
    rintro e w1 ⟨rfl, hb1⟩
    go_wp2_with fail
    go_ret
    exact ⟨rfl, hb1⟩
  obtain ⟨a, b, c, d, e, ha, hb, hc, hd, h1, h2⟩ := costs_pair s (by omega) z
  obtain ⟨b0, c0, d0, h3⟩ := costs_zero s (by omega)
  have h4 := fun w => decode_any s w (by omega)
  have hq := fun w => four_eq a b c d ha hb hc hd w
  have c31 : Tryd.prog.cellsOf 31 = 4 := by kernel_rfl
  clear ha hb hc hd
  generalize (⟨(Vit.decX s.data.toList).toArray⟩ : ByteArray) = X at *
  generalize Vit.decN s.data.toList = N at *
  generalize Vit.decO s.data.toList = O at *
  generalize vErr s.data.toList = E at *
  go_enter Tryd.func5, Tryd.ntmps5
  go_wp2_with fail
  refine (h1 _).mono ?_
  rintro r w1 ⟨rfl, hb1⟩
  have f1 := heap_alloc_new w1 (.cells #[.int .i64 a, .int .i64 b, .int .i64 c, .int .i64 d] 31)
  have hb2 := hb1.alloc hb1.size (.cells #[.int .i64 a, .int .i64 b, .int .i64 c, .int .i64 d] 31)
  go_wp2_with fail
  refine (h2 _).mono ?_
  rintro r w2 ⟨rfl, hb3⟩
  have f2 := hb_below hb3 (by simp) f1
  have g2 := heap_alloc_new w2 (.cells #[.int .i64 a, .int .i64 b, .int .i64 c, .int .i64 d] 31)
  have f3 := hb_alloc (o := .cells #[.int .i64 a, .int .i64 b, .int .i64 c, .int .i64 d] 31) f2
  have hb4 := bchain hb2 hb3
  have hb5 := hb4.alloc hb4.size (.cells #[.int .i64 a, .int .i64 b, .int .i64 c, .int .i64 d] 31)
  have hlt1 : w1.heap.size < w2.heap.size := (Array.getElem?_eq_some_iff.1 f2).1
  clear f1 f2 hb2 hb1 hb3 hb4
  go_wp2_with fail
  refine (h3 _).mono ?_
  rintro r w3 ⟨rfl, hb6⟩
  have f4 := hb_below hb6 (by simp; omega) f3
  have g4 := hb_below hb6 (by simp) g2
  have i4 := heap_alloc_new w3 (.cells #[.int .i64 N, .int .i64 b0, .int .i64 c0, .int .i64 d0] 31)
  have f5 := hb_alloc (o := .cells #[.int .i64 N, .int .i64 b0, .int .i64 c0, .int .i64 d0] 31) f4
  have g5 := hb_alloc (o := .cells #[.int .i64 N, .int .i64 b0, .int .i64 c0, .int .i64 d0] 31) g4
  have hb7 := bchain hb5 hb6
  have hb8 := hb7.alloc hb7.size (.cells #[.int .i64 N, .int .i64 b0, .int .i64 c0, .int .i64 d0] 31)
  have hlt2 : w2.heap.size < w3.heap.size := (Array.getElem?_eq_some_iff.1 g4).1
  clear f3 g2 f4 g4 hb5 hb6 hb7
  go_wp2_with fail
  refine (h4 _).mono ?_
  rintro r w4 ⟨rfl, hb9⟩
  have f6 := hb_below hb9 (by simp; omega) f5
  have g6 := hb_below hb9 (by simp; omega) g5
  have i6 := hb_below hb9 (by simp) i4
  have hb10 := bchain hb8 hb9
  clear f5 g5 i4 hb8 hb9
  have k0 := block_cell f6 0 (.int .i64 a) rfl
  have k1 := block_cell f6 1 (.int .i64 b) rfl
  have k2 := block_cell f6 2 (.int .i64 c) rfl
  have k3 := block_cell f6 3 (.int .i64 d) rfl
  have l0 := block_cell g6 0 (.int .i64 a) rfl
  have l1 := block_cell g6 1 (.int .i64 b) rfl
  have l2 := block_cell g6 2 (.int .i64 c) rfl
  have l3 := block_cell g6 3 (.int .i64 d) rfl
  have m0 := block_cell i6 0 (.int .i64 N) rfl
  clear f6 g6 i6
  go_wp2_with fail
  refine (caw _).mono ?_
  rintro r w5 ⟨rfl, hb11⟩
  go_wp2_with fail
  go_ret
  exact ⟨rfl, bchain hb10 hb11⟩
end Go.Proofs.YtnklgppfggkeoaaDoor
