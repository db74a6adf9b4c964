/-
  A reel taken out of a slice of the call's own: append(l[:i], l[i+1:]...), clear; slices.Delete.
-/
import Derived.Test.YtghpolfmhnnbaaaDoorAgOwn
import Derived.Deep.RegionLaw
import Derived.Laws.CopyOwn
namespace Go.Proofs.YtghpolfmhnnbaaaDoor
open Go.RowKit

theorem reelsC_len (qs : List (Int × Value)) : (reelsC qs).length = qs.length * 2 := flat_len reelC2 2 reelC2_len qs
theorem reelsC_take (qs : List (Int × Value)) (i : Nat) : reelsC (qs.take i) = (reelsC qs).take (i * 2) := by
  induction qs generalizing i with
  | nil => simp [reelsC]
  | cons q qs ih =>
    cases i with
    | zero => simp [reelsC]
    | succ i =>
      have := ih i
      simp only [reelsC, List.take_succ_cons, List.flatMap_cons] at this ⊢
      rw [this, show (i + 1) * 2 = i * 2 + 1 + 1 by omega]
      simp [reelC2]
theorem reelsC_drop (qs : List (Int × Value)) (i : Nat) : reelsC (qs.drop i) = (reelsC qs).drop (i * 2) := by
  induction qs generalizing i with
  | nil => simp [reelsC]
  | cons q qs ih =>
    cases i with
    | zero => simp [reelsC]
    | succ i =>
      have := ih i
      simp only [reelsC, List.drop_succ_cons, List.flatMap_cons] at this ⊢
      rw [this, show (i + 1) * 2 = i * 2 + 1 + 1 by omega]
      simp [reelC2]
theorem reelsC_erase (qs : List (Int × Value)) (i : Nat) : reelsC (qs.eraseIdx i) = (reelsC qs).take (i * 2) ++ (reelsC qs).drop ((i + 1) * 2) := by
  rw [List.eraseIdx_eq_take_drop_succ, ← reelsC_take, ← reelsC_drop]
  simp [reelsC]
theorem below_row {W : World} {B g : Nat} (hg : B ≤ g) (cs : Array Value) : Below B W (W.setRow g cs) := below_setRow (Below.refl B W) hg cs

/-- What is behind a change of the row alone. -/
theorem OwnRs.setRow {W : World} {B g m cap : Nat} {rs : List Reel} {qs : List (Int × Value)} {cur cs : Array Value} (hB : B ≤ g) (hh : W.heap[g]? = some (.cells cur 26 (0, 0))) (hmc : m ≤ cap) (hcm : cap ≤ maxLen) (hs : cs.size = cap * 2) (ht : cs.toList.take (m * 2) = reelsC qs) (hq : qs.length = m) (hr : rs.length = m)
    (h3 : ∀ (j : Nat) (r : Reel), rs[j]? = some r → ∃ pv, qs[j]? = some (r.num, pv) ∧ Own W B 9 pv (strsL r.ps)) : OwnRs (W.setRow g cs) B (.slice (some ⟨g, 0, none⟩) m cap) rs := by
  subst hr
  refine ⟨qs, ⟨by rw [reelsC_len, hq], .inr ⟨g, cap, cs, rfl, hB, setRow_heap W g cur cs _ _ hh, hmc, hcm, hs, ht⟩⟩, hq, fun j r hj => ?_⟩
  obtain ⟨pv, h4, h5⟩ := h3 j r hj
  refine ⟨pv, h4, ?_⟩
  have hg : W.grownBy (W.setRow g cs) (some g) := ⟨rfl, rfl, rfl, by simp, fun k _ hne => setRow_other W g k cs (fun e => hne (by rw [e]))⟩
  refine World.ownsRow.kept h5 hg ?_
  rcases h5.2 with ⟨rfl, _⟩ | ⟨g', cap', cur', rfl, _, hh', _⟩
  · exact .inl rfl
  · right
    intro e
    have : g' = g := by simpa [Value.ownBlock] using e
    subst this
    rw [hh] at hh'
    injection hh' with hh'
    injection hh' with _ ht
    exact type_ne ht.symm
theorem cut_run {W : World} {B g m cap i : Nat} {rs : List Reel} (h : OwnRs W B (.slice (some ⟨g, 0, none⟩) (m + 1) cap) rs) (hi : i ≤ m) (A : Addr) (hA : i < m → A = ⟨g, (i + 1) * 2, none⟩) (c : Nat) :
    ∃ W1, (∀ ty, (Builtin.append_ #[22, 22] ty #[.slice (some ⟨g, 0, none⟩) i cap, .slice (some A) (m - i) c]).run Tryd.prog W = .ok (.slice (some ⟨g, 0, none⟩) m cap) W1) ∧ OwnRs W1 B (.slice (some ⟨g, 0, none⟩) m cap) (rs.eraseIdx i) ∧ Below B W W1 ∧ W.grownBy W1 (some g) ∧ W1.heap.size = W.heap.size := by
  obtain ⟨i0, hi0, hz0, hz1, hz2⟩ := info_parts info_reel
  obtain ⟨qs, h1, h2, h3⟩ := h
  rcases h1.2 with ⟨e, _⟩ | ⟨g', cap', cur, e, hB, hh, hc, hcm, hcs, htk⟩
  · cases e
  injection e with e1 e2 e3
  injection e1 with e1
  injection e1 with e1
  subst e1 e3
  rw [← e2] at hc htk
  have hl : rs.length = m + 1 := by omega
  have hlen := reelsC_len qs
  have hnl : ((reelsC qs).drop ((i + 1) * 2)).length = (m - i) * 2 := by rw [List.length_drop, hlen]; omega
  have hnews : ∀ (j : Nat) (u : Value), ((reelsC qs).drop ((i + 1) * 2))[j]? = some u → W.cell? (A.add j) = some u := by
    intro j u hj
    have hjl := (List.getElem?_eq_some_iff.1 hj).1
    rw [hA (by omega), Addr.add_lit]
    rw [List.getElem?_drop] at hj
    have := World.ownsRow.cells h1 (g := g) rfl _ u hj
    rwa [Addr.add_lit, Nat.zero_add] at this
  have hone : ∀ u ∈ (reelsC qs).drop ((i + 1) * 2), u.oneCell' = true := by
    intro u hu
    have hu := List.mem_of_mem_drop hu
    obtain ⟨q, hq, hu⟩ := List.mem_flatMap.1 hu
    obtain ⟨j, hj⟩ := List.mem_iff_getElem?.1 hq
    have hjl := (List.getElem?_eq_some_iff.1 hj).1
    obtain ⟨r, hr⟩ : ∃ r, rs[j]? = some r := ⟨_, List.getElem?_eq_getElem (by omega)⟩
    obtain ⟨pv, h4, h5⟩ := h3 j r hr
    rw [hj] at h4
    injection h4 with h4
    subst h4
    exact reelC2_one h5 u hu
  have hrun := fun ty => run_append_room (P := Tryd.prog) W 22 ty 26 i0 Tryd.underlying22 hi0 g i cap cur hh A (m - i) c ((reelsC qs).drop ((i + 1) * 2)) (by rw [hz1]; exact hnl) hnews hone (by omega) (by rw [hz1, hnl, hcs]; omega)
  rw [hz1, show i + (m - i) = m by omega] at hrun
  refine ⟨_, hrun, ?_, below_row hB _, ⟨rfl, rfl, rfl, by simp, fun k _ hne => setRow_other W g k _ (fun e => hne (by rw [e]))⟩, by simp⟩
  have hcl : cur.toList.length = cap * 2 := by rw [Array.length_toList, hcs]
  have htk2 : cur.toList.take (i * 2) = (reelsC qs).take (i * 2) := by
    rw [← htk, List.take_take]
    congr 1
    omega
  refine OwnRs.setRow (qs := qs.eraseIdx i) hB hh (by omega) hcm ?_ ?_ ?_ ?_ fun j r hj => ?_
  · rw [List.size_toArray, List.length_append, List.length_append, hnl, List.length_take, List.length_drop, hcl]
    omega
  · rw [List.toList_toArray, htk2, reelsC_erase, List.take_left']
    rw [List.length_append, List.length_take, hnl, hlen]
    omega
  · rw [List.length_eraseIdx]
    split <;> omega
  · rw [List.length_eraseIdx]
    split <;> omega
  · rw [List.getElem?_eraseIdx] at hj
    split at hj
    · obtain ⟨pv, h4, h5⟩ := h3 j r hj
      exact ⟨pv, by rw [List.getElem?_eraseIdx, if_pos ‹_›]; exact h4, h5⟩
    · obtain ⟨pv, h4, h5⟩ := h3 (j + 1) r hj
      exact ⟨pv, by rw [List.getElem?_eraseIdx, if_neg ‹_›]; exact h4, h5⟩
theorem clear_run {W : World} {B g m cap c : Nat} {rs : List Reel} (h : OwnRs W B (.slice (some ⟨g, 0, none⟩) m cap) rs) (hm : m < cap) :
    ∃ W1, (∀ ty, (Builtin.clear_ #[22] ty #[.slice (some ⟨g, m * 2, none⟩) 1 c]).run Tryd.prog W = .ok (.tuple #[]) W1) ∧ OwnRs W1 B (.slice (some ⟨g, 0, none⟩) m cap) rs ∧ Below B W W1 := by
  obtain ⟨qs, h1, h2, h3⟩ := h
  rcases h1.2 with ⟨e, _⟩ | ⟨g', cap', cur, e, hB, hh, hc, hcm, hcs, htk⟩
  · cases e
  injection e with e1 e2 e3
  injection e1 with e1
  injection e1 with e1
  subst e1 e3
  rw [← e2] at hc htk
  have hst := run_storeCells_at Tryd.prog g (m * 2) 26 [.int .i64 0, .slice none 0 0] 0 cur W hh (by rw [hcs]; simp; omega) (by
    intro v hv
    simp only [List.mem_cons, List.not_mem_nil, or_false] at hv
    rcases hv with rfl | rfl <;> rfl)
  simp only [Nat.add_zero, List.length_cons, List.length_nil, Nat.zero_add] at hst
  have hz : (zeroValue 26).run Tryd.prog W = .ok (.agg #[.int .i64 0, .slice none 0 0]) W := by kernel_rfl
  have hzc : (Builtin.zeroCells (Value.agg #[.int .i64 0, .slice none 0 0]).cells 1).toList = [.int .i64 0, .slice none 0 0] := by kernel_rfl
  have hrun : ∀ ty, (Builtin.clear_ #[22] ty #[.slice (some ⟨g, m * 2, none⟩) 1 c]).run Tryd.prog W = .ok (.tuple #[]) (W.setRow g (cur.toList.take (m * 2) ++ [Value.int .i64 0, Value.slice none 0 0] ++ cur.toList.drop (m * 2 + (1 + 1))).toArray) := fun ty => by
    simp [Builtin.clear_, run_underlying Tryd.underlying22, hz, hzc, hst]
  refine ⟨_, hrun, ?_, below_row hB _⟩
  have hcl : cur.toList.length = cap * 2 := by rw [Array.length_toList, hcs]
  refine OwnRs.setRow (qs := qs) hB hh (by omega) hcm ?_ ?_ (by omega) (by omega) h3
  · simp [hcl]
    omega
  · rw [List.toList_toArray, List.append_assoc, List.take_append_of_le_length (by rw [List.length_take, hcl]; omega), List.take_take, Nat.min_self]
    exact htk

theorem step_runApp {ops : Array Oper} {o : Oper} {a : Act} {K : Act → World → Prop} {Q : Exit → Act → World → Prop} {X : Prop} {w : World} (hgd : o.guard = none) (s x : Operand)
    (ho : o.op = .call { callee := .builtin .append, args := #[s, x], argTypes := #[22, 22] }) (vs vx : Value) (hs : a.eval s = vs) (hx : a.eval x = vx) (v' : Value) (w' : World)
    (hr : ∀ ty, (Builtin.append_ #[22, 22] ty #[vs, vx]).run Tryd.prog w = .ok v' w') (h : K (a.put o.dst v') w') :
    if Region.wanted o (yielded ops a.tmps) = true then Oper.wp Tryd.prog o a w K Q else X := by
  have hw : Region.wanted o (yielded ops a.tmps) = true := by simp [Region.wanted, hgd]
  rw [if_pos hw]
  exact Lib.wp_append_run w s x _ _ ho vs vx hs hx v' w' (hr _) h

set_option maxHeartbeats 4000000 in
set_option maxRecDepth 100000 in
theorem delete_any (ao : Option Addr) (m cap i B : Nat) (rs : List Reel) (w : World) (h : OwnRs w B (.slice ao (m + 1) cap) rs) (hi : i ≤ m) (hm : m ≤ 65536) :
    Calls Tryd.prog 13 #[.slice ao (m + 1) cap, .int .i64 i, .int .i64 ((i : Int) + 1)] w fun e w' => e = .returned (.slice ao m cap) ∧ OwnRs w' B (.slice ao m cap) (rs.eraseIdx i) ∧ Below B w w' := by
  obtain ⟨ao', cap', e, hc, hcm, hao⟩ := h.form
  injection e with e1 e2 e3
  subst e3
  obtain ⟨g, rfl, hBg, hgl⟩ := hao (by omega)
  subst e1
  rw [← e2] at hc
  clear hao
  have HH := Lib.hid h
  have hlen : m + 1 = rs.length := e2
  have HL := Lib.hid hlen
  unfold maxLen at hcm
  clear h e2 hlen
  have h1 : (i : Int) + 1 ≤ (m : Int) + 1 := by omega
  have h2 : ((i : Int) == (i : Int) + 1) = false := beq_eq_false_iff_ne.2 (by omega)
  go_enter Tryd.func13, Tryd.ntmps13
  go_wp2_with fail
  have l1 : i ≤ cap := by omega
  have l2 : i + 1 ≤ m + 1 := by omega
  have l3 : i + 1 ≤ cap := by omega
  have l4 : (i : Int) + 1 ≤ (cap : Int) := by omega
  have l5 : 0 ≤ (i : Int) + 1 := by omega
  have l6 : (i : Int) ≤ (i : Int) + 1 := by omega
  by_cases hce : cap = i + 1
  · obtain rfl : i = m := by omega
    subst hce
    obtain ⟨W1, hrun, ho1, hb1, _, hz1⟩ := cut_run (W := w.drew) (i := i) HH.out hi ⟨g, 0, none⟩ (fun h => by omega) 0
    simp only [Nat.sub_self] at hrun
    have HRUN := Lib.hid hrun
    obtain ⟨W2, hclr, ho2, hb2⟩ := clear_run (c := 1) ho1 (by omega)
    have HO := Lib.hid ho2
    have HBB := Lib.hid (hb1.trans hb2)
    clear hrun ho1 hb1 hz1 ho2 hb2
    go_region_law (refine step_runApp (by rfl) (.tmp 22) (.tmp 25) (by rfl) (.slice (some ⟨g, 0, none⟩) i (i + 1)) (.slice (some ⟨g, 0, none⟩) 0 0) (by rfl) (by rfl) _ _ HRUN.out ?_)
    go_wp2_with fail
    go_ret
    exact ⟨rfl, HO.out, (Below.refl _ _).drew.trans HBB.out⟩
  · obtain ⟨W1, hrun, ho1, hb1, _, hz1⟩ := cut_run (W := w.drew) (i := i) HH.out hi ⟨g, (i + 1) * 2, none⟩ (fun _ => rfl) (cap - (i + 1))
    have HRUN := Lib.hid hrun
    obtain ⟨W2, hclr, ho2, hb2⟩ := clear_run (c := cap - m) ho1 (by omega)
    have HO := Lib.hid ho2
    have HBB := Lib.hid (hb1.trans hb2)
    have l7 : m ≤ cap := by omega
    have l8 : (m : Int) ≤ (m : Int) + 1 := by omega
    have l9 : (m : Int) + 1 ≤ (cap : Int) := by omega
    have l10 : m + 1 ≤ cap := hc
    have l11 : ¬ cap = m := by omega
    clear hrun ho1 hb1 hz1 ho2 hb2
    go_region_law (refine step_runApp (by rfl) (.tmp 22) (.tmp 25) (by rfl) (.slice (some ⟨g, 0, none⟩) i cap) (.slice (some ⟨g, (i + 1) * 2, none⟩) (m - i) (cap - (i + 1))) (by rfl) (by rfl) _ _ HRUN.out ?_)
    go_wp2_with fail
    go_ret
    exact ⟨rfl, HO.out, (Below.refl _ _).drew.trans HBB.out⟩
end Go.Proofs.YtghpolfmhnnbaaaDoor
