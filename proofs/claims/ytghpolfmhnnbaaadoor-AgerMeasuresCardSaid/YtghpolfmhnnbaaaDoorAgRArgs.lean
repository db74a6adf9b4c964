/-
  Arguments of the ager's laws: reels, an action.
-/
import Derived.Test.YtghpolfmhnnbaaaDoorAgArgs
import Derived.Test.YtghpolfmhnnbaaaDoorAgMem
namespace Go.Proofs.YtghpolfmhnnbaaaDoor
open Go.RowKit Go.Joins Go.WideShapes Go.ChangeShapes Go.ChangeAt Go.Deep

/-- The value v is a slice that reads as the reels rs. -/
def ReelsArg (w : World) (v : Value) (rs : List Reel) : Prop :=
  ∃ ao cap, v = .slice ao rs.length cap ∧ rs.length ≤ cap ∧ cap ≤ 9223372036854775807 ∧ Reels w ao rs.length rs ∧ ∀ r ∈ rs, r.ps.length ≤ 9223372036854775807 ∧ ∀ x ∈ r.ps, x.length ≤ 9223372036854775807
def DmgArg (v : Value) (d : Dmg) : Prop :=
  v = .agg #[.int .i64 d.kind, .int .i64 d.reel, .int .i64 d.piece, .int .i64 d.at_, .int .i64 d.len] ∧ (-9223372036854775808 ≤ d.kind ∧ d.kind ≤ 9223372036854775807) ∧ (-9223372036854775808 ≤ d.reel ∧ d.reel ≤ 9223372036854775807) ∧ (-9223372036854775808 ≤ d.piece ∧ d.piece ≤ 9223372036854775807) ∧
    (-9223372036854775808 ≤ d.at_ ∧ d.at_ ≤ 9223372036854775807) ∧ (-9223372036854775808 ≤ d.len ∧ d.len ≤ 9223372036854775807)

theorem addr_lit {w : World} {a : Addr} {v : Value} (h : w.cell? (a.add 0) = some v) : a = ⟨a.block, a.off, none⟩ := by
  obtain ⟨bk, off, sub⟩ := a
  cases sub with
  | none => rfl
  | some s => exact absurd h (by simp [World.cell?, Addr.add]; split <;> simp)
section
variable {H : Type} {enc : TypeId × Value → H} {P : Program} {w : World}
theorem strs_of {t e : TypeId} {fuel base : Nat} {v : Value} {x : DataW H × List MemPlace} (ht : P.underlying t = some (.slice e)) (he : P.underlying e = some .string) (hc : P.cellsOf e = 1)
    (h : DataW.trod enc P w base (fun _ => true) true fuel t [v] = some x) : ∃ ap cp ps, v = .slice ap ps.length cp ∧ ps.length ≤ cp ∧ ps.length ≤ 9223372036854775807 ∧ Strs w ap ps.length ps ∧ ∀ y ∈ ps, y.length ≤ 9223372036854775807 := by
  rcases open_strings ht he hc h with ⟨hcs, _⟩ | ⟨a, len, cap, ss, hcs, _, hl, hm, hlen, hx, hcell, hsz⟩
  · injection hcs with hcs
    exact ⟨none, 0, [], hcs, Nat.le_refl _, Nat.zero_le _, Strs.nil _ _, fun y hy => by simp at hy⟩
  · injection hcs with hcs
    rw [if_pos rfl] at hlen
    have hlen2 : ((ss.take len).map (·.data.toList)).length = len := by rw [List.length_map, List.length_take]; omega
    unfold maxLen at hm hsz
    refine ⟨some a, cap, (ss.take len).map (·.data.toList), by rw [hlen2, hcs], by omega, by omega, ⟨rfl, fun j y hj => ?_⟩, fun y hy => ?_⟩
    · have hjl := (List.getElem?_eq_some_iff.1 hj).1
      rw [hlen2] at hjl
      rw [List.getElem?_map, List.getElem?_take, if_pos hjl] at hj
      obtain ⟨s, hs, rfl⟩ := Option.map_eq_some_iff.1 hj
      have hjs := (List.getElem?_eq_some_iff.1 hs).1
      have h1 := hcell j hjs
      have ha := addr_lit (hcell 0 (by omega))
      refine ⟨a.block, a.off, by rw [← ha], ?_⟩
      rw [ha, Addr.add_lit, List.getD_eq_getElem?_getD, hs] at h1
      rw [mk_toList]
      exact h1
    · obtain ⟨s, hs, rfl⟩ := List.mem_map.1 hy
      rw [toList_length]
      exact hsz s (List.mem_of_mem_take hs)
theorem reels_of {t e : TypeId} {f0 f1 : Field} {ts : TypeId} {r : Reach} {b0 base : Nat} {v : Value} {d : DataW H} {ps : List MemPlace} (ht : P.underlying t = some (.slice e)) (he : P.underlying e = some (.struct #[f0, f1]))
    (hone : oneCellFields P #[f0, f1] = true) (hC : P.cellsOf e = 2) (h0 : P.underlying f0.type = some (.int .i64)) (h1 : P.underlying f1.type = some (.slice ts)) (hts : P.underlying ts = some .string) (hcs : P.cellsOf ts = 1)
    (hval : Value.okWide P w r b0 t v) (h : DataW.Trod enc P w base (fun _ => true) true t v d ps) : ∃ rs, ReelsArg w v rs := by
  obtain ⟨a0, len0, cap0, rfl⟩ := okWide_slice ht hval
  obtain ⟨fuel, hf⟩ := h
  rcases open_slice_fields ht he hone hC hf with ⟨hcs, _⟩ | ⟨a, len, cap, m, D, Pl, hcs, _, hl, hm, hmm, _, hi⟩
  · replace hcs : [Value.slice a0 len0 cap0] = _ := hcs
    injection hcs with hcs
    exact ⟨[], none, 0, hcs, Nat.le_refl _, Nat.zero_le _, Reels.nil _ _, fun r hr => by simp at hr⟩
  · replace hcs : [Value.slice a0 len0 cap0] = _ := hcs
    injection hcs with hcs
    rw [if_pos rfl] at hmm
    have key : ∀ i, i < len → ∃ r : Reel, w.cell? (a.add (i * 2)) = some (.int .i64 r.num) ∧ ∃ ap cp, w.cell? (a.add (i * 2 + 1)) = some (.slice ap r.ps.length cp) ∧ r.ps.length ≤ cp ∧ r.ps.length ≤ 9223372036854775807 ∧ Strs w ap r.ps.length r.ps ∧ ∀ y ∈ r.ps, y.length ≤ 9223372036854775807 := fun i hil => by
      obtain ⟨ys, n, _, _, _, hfield⟩ := hi i (by omega)
      obtain ⟨u0, y0, c0, _, t0⟩ := hfield 0 f0 rfl
      obtain ⟨u1, y1, c1, _, t1⟩ := hfield 1 f1 rfl
      obtain ⟨num, e0, _, _⟩ := DataW.trod_int h0 t0
      injection e0 with e0
      obtain ⟨ap, cp, qs, e1, k1, k2, k3, k4⟩ := strs_of h1 hts (by assumption) t1
      subst e0 e1
      exact ⟨⟨num, qs⟩, c0, ap, cp, c1, k1, k2, k3, k4⟩
    obtain ⟨f, hf⟩ := Classical.axiomOfChoice (r := fun (i : Nat) (r : Reel) => i < len → w.cell? (a.add (i * 2)) = some (.int .i64 r.num) ∧ ∃ ap cp, w.cell? (a.add (i * 2 + 1)) = some (.slice ap r.ps.length cp) ∧ r.ps.length ≤ cp ∧ r.ps.length ≤ 9223372036854775807 ∧ Strs w ap r.ps.length r.ps ∧ ∀ y ∈ r.ps, y.length ≤ 9223372036854775807) (fun i => by
      by_cases h : i < len
      · obtain ⟨r, hr⟩ := key i h
        exact ⟨r, fun _ => hr⟩
      · exact ⟨⟨0, []⟩, fun h2 => absurd h2 h⟩)
    have hlen : ((List.range len).map f).length = len := by simp
    refine ⟨(List.range len).map f, some a, cap, by rw [hlen, hcs], by omega, by unfold maxLen at hm; omega, ⟨rfl, fun j r hj => ?_⟩, fun r hr => ?_⟩
    · have hjl := (List.getElem?_eq_some_iff.1 hj).1
      rw [hlen] at hjl
      rw [List.getElem?_map, List.getElem?_range hjl] at hj
      obtain rfl := Option.some.inj hj
      obtain ⟨c0, ap, cp, c1, k1, _, k3, _⟩ := hf j hjl
      have h00 := (hf 0 (by omega)).1
      rw [Nat.zero_mul] at h00
      have ha := addr_lit h00
      rw [ha, Addr.add_lit] at c0 c1
      exact ⟨a.block, a.off, by rw [← ha], c0, ap, cp, c1, k1, k3⟩
    · obtain ⟨i, hi2, rfl⟩ := List.mem_map.1 hr
      obtain ⟨_, ap, cp, _, _, k2, _, k4⟩ := hf i (List.mem_range.1 hi2)
      exact ⟨k2, k4⟩
theorem dmg_of {t : TypeId} {f0 f1 f2 f3 f4 : Field} {r : Reach} {b0 base : Nat} {v : Value} {d : DataW H} {ps : List MemPlace} (hs : P.underlying t = some (.struct #[f0, f1, f2, f3, f4])) (hone : oneCellFields P #[f0, f1, f2, f3, f4] = true) (hC : P.cellsOf t = 5)
    (h0 : P.underlying f0.type = some (.int .i64)) (h1 : P.underlying f1.type = some (.int .i64)) (h2 : P.underlying f2.type = some (.int .i64)) (h3 : P.underlying f3.type = some (.int .i64)) (h4 : P.underlying f4.type = some (.int .i64))
    (hval : Value.okWide P w r b0 t v) (h : DataW.Trod enc P w base (fun _ => true) true t v d ps) : ∃ x, DmgArg v x := by
  obtain ⟨v0, v1, v2, v3, v4, y0, y1, y2, y3, y4, n, rfl, _, _, t0, t1, t2, t3, t4⟩ := open_agg5 hs hone hC hval h
  obtain ⟨n0, e0, _, w0⟩ := DataW.trod_int h0 t0
  obtain ⟨n1, e1, _, w1⟩ := DataW.trod_int h1 t1
  obtain ⟨n2, e2, _, w2⟩ := DataW.trod_int h2 t2
  obtain ⟨n3, e3, _, w3⟩ := DataW.trod_int h3 t3
  obtain ⟨n4, e4, _, w4⟩ := DataW.trod_int h4 t4
  injection e0 with e0
  injection e1 with e1
  injection e2 with e2
  injection e3 with e3
  injection e4 with e4
  subst e0 e1 e2 e3 e4
  exact ⟨⟨n0, n1, n2, n3, n4⟩, rfl, i64_in w0, i64_in w1, i64_in w2, i64_in w3, i64_in w4⟩
end
end Go.Proofs.YtghpolfmhnnbaaaDoor
