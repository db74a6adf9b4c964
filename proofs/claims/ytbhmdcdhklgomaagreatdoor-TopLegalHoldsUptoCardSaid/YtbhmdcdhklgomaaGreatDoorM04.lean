/-
  An argument that is a slice of slices of changes, of a reading of bounded bulk. (The first theorem: the how-to's own block on structs.)
-/
import Derived.Test.YtbhmdcdhklgomaaGreatDoorM03
import Derived.Test.YtbhmdcdhklgomaaGreatDoorRows
import Derived.SliceStrings
import Derived.Deep.Slices
import Derived.Deep.Fields
import Derived.ChangeSame
import Derived.Lib.SmallJoins
import Derived.Test.YtbhmdcdhklgomaaGreatDoorM02
import Derived.BigRegion
import Derived.BigQuiet
namespace Go.Proofs.YtbhmdcdhklgomaaGreatDoor
open Go.RowKit Go.Joins Go.WideShapes Go.ChangeShapes Go.ChangeAt Go.Deep Top

section
variable {H : Type} {enc : TypeId × Value → H} {P : Program} {w : World} {base : Nat} {spare : Nat → Bool} {held : Bool}
theorem open_slice_fields {t e : TypeId} {fs : Array Field} {fuel : Nat} {cs : List Value} {x : DataW H × List MemPlace} (ht : P.underlying t = some (.slice e)) (he : P.underlying e = some (.struct fs))
    (hone : oneCellFields P fs = true) (hC : P.cellsOf e = fs.size) (h : DataW.trod enc P w base spare held fuel t cs = some x) :
    (cs = [.slice none 0 0] ∧ x = (.nil, [])) ∨
    ∃ (a : Addr) (len cap m : Nat) (D : Nat → DataW H) (Pl : Nat → List MemPlace), cs = [.slice (some a) len cap] ∧ base ≤ a.block ∧ len ≤ cap ∧ cap ≤ maxLen ∧ m = (if spare a.block then cap else len) ∧
      x = (.slice ((List.range len).map D) ((List.range (m - len)).map fun j => D (len + j)), MemPlace.row a (m * fs.size) ++ (List.range m).flatMap Pl) ∧
      ∀ i, i < m → ∃ (ys : List (DataW H × List MemPlace)) (n : Nat), D i = .agg (ys.map (·.1)) ∧ Pl i = ys.flatMap (·.2) ∧ ys.length = fs.size ∧
        ∀ (j : Nat) (f : Field), fs[j]? = some f → ∃ (v : Value) (y : DataW H × List MemPlace), w.cell? (a.add (i * fs.size + j)) = some v ∧ ys[j]? = some y ∧ DataW.trod enc P w base spare held n f.type [v] = some y := by
  rcases open_slice ht h with h0 | ⟨a, len, cap, m, n, D, Pl, hcs, hb, hl, hm, hmm, hx, hi⟩
  · exact .inl h0
  · refine .inr ⟨a, len, cap, m, D, Pl, hcs, hb, hl, hm, hmm, by rw [hC] at hx; exact hx, fun i him => ?_⟩
    obtain ⟨cs', hc, ht'⟩ := hi i him
    rw [hC] at hc
    obtain ⟨ys, n', hn', hy, hlen, hyl, hf⟩ := DataW.trod_struct he ht'
    obtain ⟨_, hcl, hat⟩ := World.cells?_some hc
    simp only [Prod.mk.injEq] at hy
    refine ⟨ys, n', hy.1, hy.2, hyl, fun j f hj => ?_⟩
    obtain ⟨ho, hk⟩ := hone_of hone j f hj
    have hjl : j < fs.size := (Array.getElem?_eq_some_iff.1 hj).1
    have hcell := hat j hjl
    have hv : cs'[j]? = some (cs'[j]'(by omega)) := List.getElem?_eq_getElem (by omega)
    have h1 := hf j f hj
    rw [ho, hk] at h1
    have hone' : (cs'.drop j).take 1 = [cs'[j]'(by omega)] := by
      rw [List.drop_eq_getElem_cons (by omega)]
      rfl
    rw [hone'] at h1
    have hys : ys[j]? = some (ys[j]'(by omega)) := List.getElem?_eq_getElem (by omega)
    refine ⟨_, _, ?_, hys, h1.trans hys⟩
    rw [← Go.Deep.add_add, hcell, hv]
end

theorem addr_lit {w : World} {a : Addr} {v : Value} (h : w.cell? (a.add 0) = some v) : a = ⟨a.block, a.off, none⟩ := by
  obtain ⟨bk, off, sub⟩ := a
  cases sub with
  | none => rfl
  | some s => exact absurd h (by simp [World.cell?, Addr.add]; split <;> simp)
theorem bulkAll_app {H : Type} (l r : List (DataW H)) : Rows.uptoBulkAll (l ++ r) = Rows.uptoBulkAll l + Rows.uptoBulkAll r := by
  induction l with
  | nil => simp [Rows.uptoBulkAll]
  | cons x l ih => simp only [List.cons_append, Rows.uptoBulkAll, ih]; omega
theorem bulk_mem {H : Type} {d : DataW H} {l : List (DataW H)} (h : d ∈ l) : Rows.uptoBulk d ≤ Rows.uptoBulkAll l := by
  induction l with
  | nil => cases h
  | cons x r ih =>
    simp only [Rows.uptoBulkAll]
    cases List.mem_cons.1 h with
    | inl e => subst e; omega
    | inr e => have := ih e; omega
theorem sum_ones : ∀ n : Nat, ((List.range n).map (fun _ => 1)).sum = n
  | 0 => rfl
  | n + 1 => by
    rw [List.range_succ, List.map_append, List.sum_append, sum_ones n]
    rfl
theorem bulk_range {H : Type} (D : Nat → DataW H) (f : Nat → Nat) (k : Nat) : ∀ n, (∀ i, i < n → f i ≤ k * Rows.uptoBulk (D i)) → ((List.range n).map f).sum ≤ k * Rows.uptoBulkAll ((List.range n).map D)
  | 0, _ => by simp
  | n + 1, h => by
    have h1 := bulk_range D f k n (fun i hi => h i (by omega))
    have h2 := h n (by omega)
    rw [List.range_succ, List.map_append, List.map_append, List.sum_append, bulkAll_app, Nat.mul_add]
    simp only [List.map_cons, List.map_nil, List.sum_cons, List.sum_nil, Rows.uptoBulkAll, Nat.add_zero]
    omega
section
variable {H : Type} {enc : TypeId × Value → H} {P : Program} {w : World}
theorem attrs_of {t e : TypeId} {f0 f1 : Field} {fuel base : Nat} {v : Value} {x : DataW H × List MemPlace} (ht : P.underlying t = some (.slice e)) (he : P.underlying e = some (.struct #[f0, f1]))
    (hone : oneCellFields P #[f0, f1] = true) (hC : P.cellsOf e = 2) (h0 : P.underlying f0.type = some .string) (h1 : P.underlying f1.type = some .string)
    (h : DataW.trod enc P w base (fun _ => true) true fuel t [v] = some x) : ∃ l : List Top.Attr, Flat attrC 2 w v l ∧ (l.map attrCost).sum ≤ 1 * Rows.uptoBulk x.1 ∧ l.length ≤ Rows.uptoBulk x.1 := by
  rcases open_slice_fields ht he hone hC h with ⟨hcs, _⟩ | ⟨a, len, cap, m, D, Pl, hcs, _, hl, hm, hmm, hx, hi⟩
  · injection hcs with hcs
    subst hcs
    exact ⟨[], Flat.nil _ _ _, by simp, Nat.zero_le _⟩
  · injection hcs with hcs
    rw [if_pos rfl] at hmm
    have key : ∀ i, i < len → ∃ r : Top.Attr, w.cell? (a.add (i * 2)) = some (.string ⟨r.key.toArray⟩) ∧ w.cell? (a.add (i * 2 + 1)) = some (.string ⟨r.val.toArray⟩) ∧ attrCost r ≤ 1 * Rows.uptoBulk (D i) ∧ 1 ≤ 1 * Rows.uptoBulk (D i) := fun i hil => by
      obtain ⟨ys, n, hD, _, hyl, hfield⟩ := hi i (by omega)
      obtain ⟨u0, y0, c0, e0, t0⟩ := hfield 0 f0 rfl
      obtain ⟨u1, y1, c1, e1, t1⟩ := hfield 1 f1 rfl
      obtain ⟨s0, g0, k0, _⟩ := DataW.trod_string h0 t0
      obtain ⟨s1, g1, k1, _⟩ := DataW.trod_string h1 t1
      injection g0 with g0
      injection g1 with g1
      subst g0 g1 k0 k1
      match ys, hyl, e0, e1 with
      | [z0, z1], _, e0, e1 =>
        simp only [List.getElem?_cons_zero, List.getElem?_cons_succ, Option.some.injEq] at e0 e1
        subst e0 e1
        refine ⟨⟨s0.data.toList, s1.data.toList⟩, c0, c1, ?_⟩
        rw [hD]
        simp only [List.map_cons, List.map_nil, Rows.uptoBulk, Rows.uptoBulkAll, attrCost]
        omega
    obtain ⟨f, hf⟩ := Classical.axiomOfChoice (r := fun (i : Nat) (r : Top.Attr) => i < len → w.cell? (a.add (i * 2)) = some (.string ⟨r.key.toArray⟩) ∧ w.cell? (a.add (i * 2 + 1)) = some (.string ⟨r.val.toArray⟩) ∧ attrCost r ≤ 1 * Rows.uptoBulk (D i) ∧ 1 ≤ 1 * Rows.uptoBulk (D i)) (fun i => by
      by_cases h : i < len
      · obtain ⟨r, hr⟩ := key i h
        exact ⟨r, fun _ => hr⟩
      · exact ⟨⟨[], []⟩, fun h2 => absurd h2 h⟩)
    have hlen : ((List.range len).map f).length = len := by simp
    refine ⟨(List.range len).map f, ⟨some a, cap, by rw [hlen, hcs], by omega, by unfold maxLen at hm; omega, fun j vs hj => ?_⟩, ?_, ?_⟩
    · rw [List.map_map] at hj
      have hjl := (List.getElem?_eq_some_iff.1 hj).1
      rw [List.length_map, List.length_range] at hjl
      rw [List.getElem?_map, List.getElem?_range hjl] at hj
      obtain rfl := Option.some.inj hj
      obtain ⟨c0, c1, _⟩ := hf j hjl
      have h00 := (hf 0 (by omega)).1
      rw [Nat.zero_mul] at h00
      have ha := addr_lit h00
      rw [ha, Addr.add_lit] at c0 c1
      refine ⟨rfl, a.block, a.off, by rw [← ha], fun i u hu => ?_⟩
      match i, hu with
      | 0, hu =>
        obtain rfl := Option.some.inj hu
        exact c0
      | 1, hu =>
        obtain rfl := Option.some.inj hu
        exact c1
    · have hb := bulk_range D (fun i => attrCost (f i)) 1 len (fun i hi2 => (hf i hi2).2.2.1)
      have hx1 : x.1 = .slice ((List.range len).map D) ((List.range (m - len)).map fun j => D (len + j)) := congrArg Prod.fst hx
      rw [hx1, List.map_map]
      simp only [Rows.uptoBulk]
      have : ((List.range len).map (attrCost ∘ f)).sum = ((List.range len).map (fun i => attrCost (f i))).sum := rfl
      omega
    · have hb := bulk_range D (fun _ => 1) 1 len (fun i hi2 => (hf i hi2).2.2.2)
      have hx1 : x.1 = .slice ((List.range len).map D) ((List.range (m - len)).map fun j => D (len + j)) := congrArg Prod.fst hx
      rw [hx1, hlen]
      simp only [Rows.uptoBulk]
      have h1 := sum_ones len
      omega
/-- Five fields of a change. -/
theorem chgs_of {t e : TypeId} {f0 f1 f2 f3 f4 : Field} {ea : TypeId} {g0 g1 : Field} {fuel base : Nat} {v : Value} {x : DataW H × List MemPlace} (ht : P.underlying t = some (.slice e)) (he : P.underlying e = some (.struct #[f0, f1, f2, f3, f4]))
    (hone : oneCellFields P #[f0, f1, f2, f3, f4] = true) (hC : P.cellsOf e = 5) (h0 : P.underlying f0.type = some (.int .i64)) (h1 : P.underlying f1.type = some .string) (h2 : P.underlying f2.type = some (.slice ea)) (h3 : P.underlying f3.type = some .string) (h4 : P.underlying f4.type = some .string)
    (ha : P.underlying ea = some (.struct #[g0, g1])) (haone : oneCellFields P #[g0, g1] = true) (haC : P.cellsOf ea = 2) (hg0 : P.underlying g0.type = some .string) (hg1 : P.underlying g1.type = some .string)
    (h : DataW.trod enc P w base (fun _ => true) true fuel t [v] = some x) : ∃ l : List Change, Chgs w v l ∧ costL l ≤ 20 * Rows.uptoBulk x.1 ∧ ∀ c ∈ l, c.attrs.length ≤ Rows.uptoBulk x.1 := by
  rcases open_slice_fields ht he hone hC h with ⟨hcs, _⟩ | ⟨a, len, cap, m, D, Pl, hcs, _, hl, hm, hmm, hx, hi⟩
  · injection hcs with hcs
    subst hcs
    exact ⟨[], Chgs.nil _, by simp [costL], fun c hc => (List.not_mem_nil hc).elim⟩
  · injection hcs with hcs
    rw [if_pos rfl] at hmm
    let Q : Nat → Change → Prop := fun i c => w.cell? (a.add (i * 5)) = some (.int .i64 c.kind) ∧ w.cell? (a.add (i * 5 + 1)) = some (.string ⟨c.path.toArray⟩) ∧ (∃ aa ac, w.cell? (a.add (i * 5 + 2)) = some (.slice aa c.attrs.length ac) ∧ Flat attrC 2 w (.slice aa c.attrs.length ac) c.attrs) ∧
      w.cell? (a.add (i * 5 + 3)) = some (.string ⟨c.target.toArray⟩) ∧ w.cell? (a.add (i * 5 + 4)) = some (.string ⟨c.content.toArray⟩) ∧ costC c ≤ 20 * Rows.uptoBulk (D i) ∧ c.attrs.length ≤ Rows.uptoBulk (D i)
    have key : ∀ i, i < len → ∃ c : Change, Q i c := fun i hil => by
      obtain ⟨ys, n, hD, _, hyl, hfield⟩ := hi i (by omega)
      obtain ⟨u0, y0, c0, e0, t0⟩ := hfield 0 f0 rfl
      obtain ⟨u1, y1, c1, e1, t1⟩ := hfield 1 f1 rfl
      obtain ⟨u2, y2, c2, e2, t2⟩ := hfield 2 f2 rfl
      obtain ⟨u3, y3, c3, e3, t3⟩ := hfield 3 f3 rfl
      obtain ⟨u4, y4, c4, e4, t4⟩ := hfield 4 f4 rfl
      obtain ⟨num, q0, k0, _⟩ := DataW.trod_int h0 t0
      obtain ⟨s1, q1, k1, _⟩ := DataW.trod_string h1 t1
      obtain ⟨la, hla, hlb, hlc⟩ := attrs_of h2 ha haone haC hg0 hg1 t2
      obtain ⟨s3, q3, k3, _⟩ := DataW.trod_string h3 t3
      obtain ⟨s4, q4, k4, _⟩ := DataW.trod_string h4 t4
      injection q0 with q0
      injection q1 with q1
      injection q3 with q3
      injection q4 with q4
      subst q0 q1 q3 q4 k0 k1 k3 k4
      obtain ⟨aa, ac, e5, _, _⟩ := hla.form
      subst e5
      match ys, hyl, e0, e1, e2, e3, e4 with
      | [z0, z1, z2, z3, z4], _, e0, e1, e2, e3, e4 =>
        simp only [List.getElem?_cons_zero, List.getElem?_cons_succ, Option.some.injEq] at e0 e1 e2 e3 e4
        subst e0 e1 e2 e3 e4
        refine ⟨⟨num, s1.data.toList, la, s3.data.toList, s4.data.toList⟩, c0, c1, ⟨aa, ac, c2, hla⟩, c3, c4, ?_⟩
        rw [hD]
        simp only [List.map_cons, List.map_nil, Rows.uptoBulk, Rows.uptoBulkAll, costC]
        omega
    obtain ⟨f, hf⟩ := Classical.axiomOfChoice (r := fun (i : Nat) (c : Change) => i < len → Q i c) (fun i => by
      by_cases h : i < len
      · obtain ⟨r, hr⟩ := key i h
        exact ⟨r, fun _ => hr⟩
      · exact ⟨⟨0, [], [], [], []⟩, fun h2 => absurd h2 h⟩)
    have hlen : ((List.range len).map f).length = len := by simp
    obtain ⟨av, hav⟩ := Classical.axiomOfChoice (r := fun (i : Nat) (u : Value) => i < len → w.cell? (a.add (i * 5 + 2)) = some u ∧ ∃ aa ac, u = .slice aa (f i).attrs.length ac ∧ Flat attrC 2 w u (f i).attrs) (fun i => by
      by_cases h : i < len
      · obtain ⟨_, _, ⟨aa, ac, c2, hfl⟩, _⟩ := hf i h
        exact ⟨_, fun _ => ⟨c2, aa, ac, rfl, hfl⟩⟩
      · exact ⟨.nilIface, fun h2 => absurd h2 h⟩)
    refine ⟨(List.range len).map f, ⟨some a, cap, (List.range len).map fun i => chgL (f i) (av i), by rw [hlen, hcs], by omega, by unfold maxLen at hm; omega, fun j vs hj => ?_, by simp, fun j vs c hj hc => ?_⟩, ?_, ?_⟩
    · have hjl := (List.getElem?_eq_some_iff.1 hj).1
      rw [List.length_map, List.length_range] at hjl
      rw [List.getElem?_map, List.getElem?_range hjl] at hj
      obtain rfl := Option.some.inj hj
      obtain ⟨c0, c1, _, c3, c4, _, _⟩ := hf j hjl
      have c2 := (hav j hjl).1
      have h00 := (hf 0 (by omega)).1
      rw [Nat.zero_mul] at h00
      have ha := addr_lit h00
      rw [ha, Addr.add_lit] at c0 c1 c2 c3 c4
      refine ⟨rfl, a.block, a.off, by rw [← ha], fun i u hu => ?_⟩
      match i, hu with
      | 0, hu =>
        obtain rfl := Option.some.inj hu
        exact c0
      | 1, hu =>
        obtain rfl := Option.some.inj hu
        exact c1
      | 2, hu =>
        obtain rfl := Option.some.inj hu
        exact c2
      | 3, hu =>
        obtain rfl := Option.some.inj hu
        exact c3
      | 4, hu =>
        obtain rfl := Option.some.inj hu
        exact c4
    · have hjl := (List.getElem?_eq_some_iff.1 hj).1
      rw [List.length_map, List.length_range] at hjl
      rw [List.getElem?_map, List.getElem?_range hjl] at hj hc
      obtain rfl := Option.some.inj hj
      obtain rfl := Option.some.inj hc
      obtain ⟨_, aa, ac, e, hfl⟩ := hav j hjl
      exact ⟨aa, ac, by rw [← e], by rw [← e]; exact hfl⟩
    · have hb := bulk_range D (fun i => costC (f i)) 20 len (fun i hi2 => (hf i hi2).2.2.2.2.2.1)
      have hx1 : x.1 = .slice ((List.range len).map D) ((List.range (m - len)).map fun j => D (len + j)) := congrArg Prod.fst hx
      rw [hx1]
      unfold costL
      rw [List.map_map]
      simp only [Rows.uptoBulk]
      have : ((List.range len).map (costC ∘ f)).sum = ((List.range len).map (fun i => costC (f i))).sum := rfl
      omega
    · intro c hc
      obtain ⟨i, hi2, rfl⟩ := List.mem_map.1 hc
      have h1 := (hf i (List.mem_range.1 hi2)).2.2.2.2.2.2
      have h2 : Rows.uptoBulk (D i) ≤ Rows.uptoBulkAll ((List.range len).map D) := bulk_mem (List.mem_map.2 ⟨i, hi2, rfl⟩)
      have hx1 : x.1 = .slice ((List.range len).map D) ((List.range (m - len)).map fun j => D (len + j)) := congrArg Prod.fst hx
      rw [hx1]
      simp only [Rows.uptoBulk]
      omega
theorem lists_of {T t e : TypeId} {f0 f1 f2 f3 f4 : Field} {ea : TypeId} {g0 g1 : Field} {r : Reach} {b0 base : Nat} {v : Value} {d : DataW H} {ps : List MemPlace} (hT : P.underlying T = some (.slice t)) (ht1 : P.cellsOf t = 1) (ht : P.underlying t = some (.slice e)) (he : P.underlying e = some (.struct #[f0, f1, f2, f3, f4]))
    (hone : oneCellFields P #[f0, f1, f2, f3, f4] = true) (hC : P.cellsOf e = 5) (h0 : P.underlying f0.type = some (.int .i64)) (h1 : P.underlying f1.type = some .string) (h2 : P.underlying f2.type = some (.slice ea)) (h3 : P.underlying f3.type = some .string) (h4 : P.underlying f4.type = some .string)
    (ha : P.underlying ea = some (.struct #[g0, g1])) (haone : oneCellFields P #[g0, g1] = true) (haC : P.cellsOf ea = 2) (hg0 : P.underlying g0.type = some .string) (hg1 : P.underlying g1.type = some .string)
    (hval : Value.okWide P w r b0 T v) (h : DataW.Trod enc P w base (fun _ => true) true T v d ps) : ∃ ll, Lists w v ll ∧ costA ll ≤ 20 * Rows.uptoBulk d ∧ ∀ l ∈ ll, ∀ c ∈ l, c.attrs.length ≤ Rows.uptoBulk d := by
  obtain ⟨a0, len0, cap0, rfl⟩ := okWide_slice hT hval
  obtain ⟨fuel, hf⟩ := h
  rcases open_slice1 hT ht1 hf with ⟨hcs, _⟩ | ⟨a, len, cap, m, n, V, D, Pl, hcs, _, hl, hm, hmm, hx, hi⟩
  · replace hcs : [Value.slice a0 len0 cap0] = _ := hcs
    injection hcs with hcs
    rw [hcs]
    exact ⟨[], ⟨none, 0, rfl, by simp, by simp, fun j l hj => by simp at hj⟩, by simp [costA], fun l hl => (List.not_mem_nil hl).elim⟩
  · replace hcs : [Value.slice a0 len0 cap0] = _ := hcs
    injection hcs with hcs
    rw [if_pos rfl] at hmm
    have key : ∀ i, i < len → ∃ l : List Change, Chgs w (V i) l ∧ costL l ≤ 20 * Rows.uptoBulk (D i) ∧ ∀ c ∈ l, c.attrs.length ≤ Rows.uptoBulk (D i) := fun i hil =>
      chgs_of ht he hone hC h0 h1 h2 h3 h4 ha haone haC hg0 hg1 (hi i (by omega)).2
    obtain ⟨f, hf'⟩ := Classical.axiomOfChoice (r := fun (i : Nat) (l : List Change) => i < len → Chgs w (V i) l ∧ costL l ≤ 20 * Rows.uptoBulk (D i) ∧ ∀ c ∈ l, c.attrs.length ≤ Rows.uptoBulk (D i)) (fun i => by
      by_cases h : i < len
      · obtain ⟨r, hr⟩ := key i h
        exact ⟨r, fun _ => hr⟩
      · exact ⟨[], fun h2 => absurd h2 h⟩)
    have hlen : ((List.range len).map f).length = len := by simp
    refine ⟨(List.range len).map f, ⟨some a, cap, by rw [hlen, hcs], by omega, by unfold maxLen at hm; omega, fun j l hj => ?_⟩, ?_, ?_⟩
    · have hjl := (List.getElem?_eq_some_iff.1 hj).1
      rw [hlen] at hjl
      rw [List.getElem?_map, List.getElem?_range hjl] at hj
      obtain rfl := Option.some.inj hj
      have c0 := (hi j (by omega)).1
      have h00 := (hi 0 (by omega)).1
      have ha := addr_lit h00
      rw [ha, Addr.add_lit] at c0
      exact ⟨a.block, a.off, V j, by rw [← ha], c0, (hf' j hjl).1⟩
    · have hb := bulk_range D (fun i => costL (f i)) 20 len (fun i hi2 => (hf' i hi2).2.1)
      have hx1 : d = .slice ((List.range len).map D) ((List.range (m - len)).map fun j => D (len + j)) := congrArg Prod.fst hx
      rw [hx1]
      unfold costA
      rw [List.map_map]
      simp only [Rows.uptoBulk]
      have : ((List.range len).map (costL ∘ f)).sum = ((List.range len).map (fun i => costL (f i))).sum := rfl
      omega
    · intro l hl c hc
      obtain ⟨i, hi2, rfl⟩ := List.mem_map.1 hl
      have h1 := (hf' i (List.mem_range.1 hi2)).2.2 c hc
      have h2 : Rows.uptoBulk (D i) ≤ Rows.uptoBulkAll ((List.range len).map D) := bulk_mem (List.mem_map.2 ⟨i, hi2, rfl⟩)
      have hx1 : d = .slice ((List.range len).map D) ((List.range (m - len)).map fun j => D (len + j)) := congrArg Prod.fst hx
      rw [hx1]
      simp only [Rows.uptoBulk]
      omega
end
end Go.Proofs.YtbhmdcdhklgomaaGreatDoor

/-
  BLAKE2s: the rotations, the tables, the mixing of four words.
-/
namespace Go.Proofs.YtbhmdcdhklgomaaGreatDoor
open Go.RowKit Top

/-- The rotations by 16, 12, 8 and 7. -/
def RotAt (k : Int) (s : Nat) : Prop := ∀ (x : Int) (w : World), Calls Tryz.prog 166 #[.int .u32 x, .int .i64 k] w fun e w' => e = .returned (.int .u32 (Blk.rotl x s)) ∧ w' = w
theorem rot16 : RotAt (-16) 16 := by
  intro x w
  have e : bits .and .u64 (IntKind.u64.wrap (-16)) 31 = 16 := by decide
  go_enter Tryz.func166, Tryz.ntmps166
  go_wp2_with fail
  go_ret
  exact ⟨rfl, rfl⟩
theorem rot20 : RotAt (-12) 20 := by
  intro x w
  have e : bits .and .u64 (IntKind.u64.wrap (-12)) 31 = 20 := by decide
  go_enter Tryz.func166, Tryz.ntmps166
  go_wp2_with fail
  go_ret
  exact ⟨rfl, rfl⟩
theorem rot24 : RotAt (-8) 24 := by
  intro x w
  have e : bits .and .u64 (IntKind.u64.wrap (-8)) 31 = 24 := by decide
  go_enter Tryz.func166, Tryz.ntmps166
  go_wp2_with fail
  go_ret
  exact ⟨rfl, rfl⟩
theorem rot25 : RotAt (-7) 25 := by
  intro x w
  have e : bits .and .u64 (IntKind.u64.wrap (-7)) 31 = 25 := by decide
  go_enter Tryz.func166, Tryz.ntmps166
  go_wp2_with fail
  go_ret
  exact ⟨rfl, rfl⟩

set_option maxHeartbeats 1000000 in
theorem initial_any (w : World) : Calls Tryz.prog 106 #[] w fun e w' => e = .returned (.agg #[.int .u32 1779033703, .int .u32 3144134277, .int .u32 1013904242, .int .u32 2773480762, .int .u32 1359893119, .int .u32 2600822924, .int .u32 528734635, .int .u32 1541459225]) ∧ Below w.heap.size w w' := by
  go_enter Tryz.func106, Tryz.ntmps106
  go_wp2_with fail
  refine bodyPost_ret (v := .agg #[.int .u32 1779033703, .int .u32 3144134277, .int .u32 1013904242, .int .u32 2773480762, .int .u32 1359893119, .int .u32 2600822924, .int .u32 528734635, .int .u32 1541459225]) ?_ ?_ ?_
  · refine results_cell_row (p := 0) (ty := 174) rfl _ _ w.heap.size 174 _ (0, 0) _ ?_ (heap_alloc_new w _) Tryz.underlying174 ?_ ?_
    · rfl
    · rfl
    · kernel_rfl
  · rfl
  · exact ⟨rfl, (Below.refl _ w).alloc (Nat.le_refl _) _⟩
def permsV : Value := .agg #[.int .u64 81985529216486895, .int .u64 16881918945140062035, .int .u64 13312731748010193300, .int .u64 8733003861693448440, .int .u64 10400822202260547645, .int .u64 3200383143768358425, .int .u64 14204332651957162635, .int .u64 15816291393287259690, .int .u64 8064173457993569445, .int .u64 11710614767857974480]
set_option maxHeartbeats 1000000 in
theorem permutations_any (w : World) : Calls Tryz.prog 134 #[] w fun e w' => e = .returned permsV ∧ Below w.heap.size w w' := by
  go_enter Tryz.func134, Tryz.ntmps134
  go_wp2_with fail
  refine bodyPost_ret (v := permsV) ?_ ?_ ?_
  · unfold permsV
    refine results_cell_row (p := 0) (ty := 209) rfl _ _ w.heap.size 209 _ (0, 0) _ ?_ (heap_alloc_new w _) Tryz.underlying209 ?_ ?_
    · rfl
    · rfl
    · kernel_rfl
  · rfl
  · exact ⟨rfl, (Below.refl _ w).alloc (Nat.le_refl _) _⟩
def quadsA : Array Value := #[.int .i64 0, .int .i64 4, .int .i64 8, .int .i64 12, .int .i64 1, .int .i64 5, .int .i64 9, .int .i64 13, .int .i64 2, .int .i64 6, .int .i64 10, .int .i64 14, .int .i64 3, .int .i64 7, .int .i64 11, .int .i64 15, .int .i64 0, .int .i64 5, .int .i64 10, .int .i64 15, .int .i64 1, .int .i64 6, .int .i64 11, .int .i64 12, .int .i64 2, .int .i64 7, .int .i64 8, .int .i64 13, .int .i64 3, .int .i64 4, .int .i64 9, .int .i64 14]
abbrev quadsV : Value := .agg quadsA
set_option maxHeartbeats 200000 in
theorem quads_any (w : World) : Calls Tryz.prog 135 #[] w fun e w' => e = .returned quadsV ∧ Below w.heap.size w w' := by
  have hz := heap_alloc_new w (.cells #[.int .i64 0, .int .i64 0, .int .i64 0, .int .i64 0, .int .i64 0, .int .i64 0, .int .i64 0, .int .i64 0, .int .i64 0, .int .i64 0, .int .i64 0, .int .i64 0, .int .i64 0, .int .i64 0, .int .i64 0, .int .i64 0, .int .i64 0, .int .i64 0, .int .i64 0, .int .i64 0, .int .i64 0, .int .i64 0, .int .i64 0, .int .i64 0, .int .i64 0, .int .i64 0, .int .i64 0, .int .i64 0, .int .i64 0, .int .i64 0, .int .i64 0, .int .i64 0] 212)
  have hb := (Below.refl _ w).alloc (Nat.le_refl _) (.cells #[.int .i64 0, .int .i64 0, .int .i64 0, .int .i64 0, .int .i64 0, .int .i64 0, .int .i64 0, .int .i64 0, .int .i64 0, .int .i64 0, .int .i64 0, .int .i64 0, .int .i64 0, .int .i64 0, .int .i64 0, .int .i64 0, .int .i64 0, .int .i64 0, .int .i64 0, .int .i64 0, .int .i64 0, .int .i64 0, .int .i64 0, .int .i64 0, .int .i64 0, .int .i64 0, .int .i64 0, .int .i64 0, .int .i64 0, .int .i64 0, .int .i64 0, .int .i64 0] 212)
  generalize hW : w.alloc (.cells #[.int .i64 0, .int .i64 0, .int .i64 0, .int .i64 0, .int .i64 0, .int .i64 0, .int .i64 0, .int .i64 0, .int .i64 0, .int .i64 0, .int .i64 0, .int .i64 0, .int .i64 0, .int .i64 0, .int .i64 0, .int .i64 0, .int .i64 0, .int .i64 0, .int .i64 0, .int .i64 0, .int .i64 0, .int .i64 0, .int .i64 0, .int .i64 0, .int .i64 0, .int .i64 0, .int .i64 0, .int .i64 0, .int .i64 0, .int .i64 0, .int .i64 0, .int .i64 0] 212) = W at *
  go_enter Tryz.func135, Tryz.ntmps135
  go_upto_region 1 with (fail)
  try rw [show (w.alloc _) = W from hW]
  clear hW
  go_wp2_with (first | (refine wpList_build rfl _ _ rfl (by kernel_rfl) ?_) | (refine wpList_store_row rfl _ _ _ rfl w.heap.size quadsA (by kernel_rfl) (by kernel_rfl) _ _ hz (by kernel_rfl) (by kernel_rfl) (by kernel_rfl) ?_))
  refine bodyPost_ret (v := quadsV) ?_ ?_ ?_
  · refine results_cell_row (p := 0) (ty := 212) (by kernel_rfl) _ _ w.heap.size 212 _ (0, 0) _ ?_ (setRow_heap _ _ _ _ _ _ hz) Tryz.underlying212 (by kernel_rfl) (by kernel_rfl)
    kernel_rfl
  · kernel_rfl
  · exact ⟨rfl, below_setRow hb (Nat.le_refl _) _⟩

def wordsA (v : List Int) : Array Value := (v.map (Value.int .u32)).toArray
theorem wordsA_get {v : List Int} {i : Nat} (h : i < v.length) : (wordsA v)[i]? = some (.int .u32 (v.getD i 0)) := by
  simp [wordsA, List.getD, List.getElem?_eq_getElem h]
theorem wordsA_set (v : List Int) (i : Nat) (x : Int) : (wordsA v).setIfInBounds i (.int .u32 x) = wordsA (v.set i x) := by
  simp [wordsA, List.map_set]

theorem set1W {w : World} {b : Nat} {v : List Int} {E : TypeId} (h : w.heap[b]? = some (.cells (wordsA v) E (0, 0))) (i : Nat) (x : Int) :
    (w.setCell ⟨b, i, none⟩ (.int .u32 x)).heap[b]? = some (.cells (wordsA (v.set i x)) E (0, 0)) ∧ w.grownBy (w.setCell ⟨b, i, none⟩ (.int .u32 x)) (some b) := by
  constructor
  · rw [tset h, wordsA_set]
  · exact ⟨rfl, rfl, rfl, by simp, fun k _ hk => heap_setCell_other w ⟨b, i, none⟩ k _ (fun e => hk (by rw [e]))⟩
theorem set4W {w : World} {b : Nat} {v : List Int} {E : TypeId} (h : w.heap[b]? = some (.cells (wordsA v) E (0, 0))) (q0 q1 q2 q3 : Nat) (x0 x1 x2 x3 : Int) :
    ((((w.setCell ⟨b, q0, none⟩ (.int .u32 x0)).setCell ⟨b, q1, none⟩ (.int .u32 x1)).setCell ⟨b, q2, none⟩ (.int .u32 x2)).setCell ⟨b, q3, none⟩ (.int .u32 x3)).heap[b]? = some (.cells (wordsA ((((v.set q0 x0).set q1 x1).set q2 x2).set q3 x3)) E (0, 0)) ∧
    w.grownBy ((((w.setCell ⟨b, q0, none⟩ (.int .u32 x0)).setCell ⟨b, q1, none⟩ (.int .u32 x1)).setCell ⟨b, q2, none⟩ (.int .u32 x2)).setCell ⟨b, q3, none⟩ (.int .u32 x3)) (some b) := by
  obtain ⟨a0, g0⟩ := set1W h q0 x0
  obtain ⟨a1, g1⟩ := set1W a0 q1 x1
  obtain ⟨a2, g2⟩ := set1W a1 q2 x2
  obtain ⟨a3, g3⟩ := set1W a2 q3 x3
  exact ⟨a3, ((g0.trans g1).trans g2).trans g3⟩

set_option maxHeartbeats 3000000 in
set_option maxRecDepth 100000 in
/-- The mixing of four words of a block. -/
theorem mix_any (b : Nat) (v : List Int) (hv : v.length = 16) (q0 q1 q2 q3 : Nat) (h0 : q0 < 16) (h1 : q1 < 16) (h2 : q2 < 16) (h3 : q3 < 16) (h01 : q0 ≠ q1) (h02 : q0 ≠ q2) (h03 : q0 ≠ q3) (h12 : q1 ≠ q2) (h13 : q1 ≠ q3) (h23 : q2 ≠ q3) (x y : Int) (w : World) (hb : w.heap[b]? = some (.cells (wordsA v) 207 (0, 0))) :
    Calls Tryz.prog 136 #[.pointer (some ⟨b, 0, none⟩), .agg #[.int .i64 q0, .int .i64 q1, .int .i64 q2, .int .i64 q3], .int .u32 x, .int .u32 y] w fun e w' => e = .returned (.tuple #[]) ∧ w'.heap[b]? = some (.cells (wordsA (Blk.mix v (q0, q1, q2, q3) x y)) 207 (0, 0)) ∧ w.grownBy w' (some b) := by
  have hbl : b < w.heap.size := (Array.getElem?_eq_some_iff.1 hb).1
  have hbx := (Below.heap_alloc w (.cells #[.int .i64 q0, .int .i64 q1, .int .i64 q2, .int .i64 q3] 211) b hbl).trans hb
  have hq := heap_alloc_new w (.cells #[.int .i64 q0, .int .i64 q1, .int .i64 q2, .int .i64 q3] 211)
  have hg := World.grownBy_alloc w (.cells #[.int .i64 q0, .int .i64 q1, .int .i64 q2, .int .i64 q3] 211) (some b)
  have e0 := tcell hq 0 (.int .i64 q0) rfl
  have e1 := tcell hq 1 (.int .i64 q1) rfl
  have e2 := tcell hq 2 (.int .i64 q2) rfl
  have e3 := tcell hq 3 (.int .i64 q3) rfl
  have c0 := tcell hbx q0 _ (wordsA_get (by omega))
  have c1 := tcell hbx q1 _ (wordsA_get (by omega))
  have c2 := tcell hbx q2 _ (wordsA_get (by omega))
  have c3 := tcell hbx q3 _ (wordsA_get (by omega))
  have f0 := tfree hbx q0
  have f1 := tfree hbx q1
  have f2 := tfree hbx q2
  have f3 := tfree hbx q3
  have HB := Lib.hid hbx
  clear hq hb hbx
  have R16 := rot16
  have R20 := rot20
  have R24 := rot24
  have R25 := rot25
  unfold RotAt at R16 R20 R24 R25
  generalize hW : w.alloc (.cells #[.int .i64 q0, .int .i64 q1, .int .i64 q2, .int .i64 q3] 211) = W at *
  have hlt : b ≠ w.heap.size := by omega
  have HR : Hid (Blk.mix v (q0, q1, q2, q3) x y = (((v.set q0 (Blk.mixQ ⟨v.getD q0 0, v.getD q1 0, v.getD q2 0, v.getD q3 0⟩ x y).a).set q1 (Blk.mixQ ⟨v.getD q0 0, v.getD q1 0, v.getD q2 0, v.getD q3 0⟩ x y).b).set q2 (Blk.mixQ ⟨v.getD q0 0, v.getD q1 0, v.getD q2 0, v.getD q3 0⟩ x y).c).set q3 (Blk.mixQ ⟨v.getD q0 0, v.getD q1 0, v.getD q2 0, v.getD q3 0⟩ x y).d) := by
    show _ = _
    rfl
  generalize Blk.mix v (q0, q1, q2, q3) x y = res at *
  generalize v.getD q0 0 = a at *
  generalize v.getD q1 0 = bb at *
  generalize v.getD q2 0 = c at *
  generalize v.getD q3 0 = d at *
  go_enter Tryz.func136, Tryz.ntmps136
  go_upto_region 1 with (fail)
  try rw [hW]
  clear hW
  try go_quiet (fail)
  have c0 : (W.drewN nq).cell? ⟨b, q0, none⟩ = _ := c0
  have c1 : (W.drewN nq).cell? ⟨b, q1, none⟩ = _ := c1
  have c2 : (W.drewN nq).cell? ⟨b, q2, none⟩ = _ := c2
  have c3 : (W.drewN nq).cell? ⟨b, q3, none⟩ = _ := c3
  have f0 : (W.drewN nq).frozen? ⟨b, q0, none⟩ = _ := f0
  have f1 : (W.drewN nq).frozen? ⟨b, q1, none⟩ = _ := f1
  have f2 : (W.drewN nq).frozen? ⟨b, q2, none⟩ = _ := f2
  have f3 : (W.drewN nq).frozen? ⟨b, q3, none⟩ = _ := f3
  have e0 : (W.drewN nq).cell? ⟨w.heap.size, 0, none⟩ = _ := e0
  have e1 : (W.drewN nq).cell? ⟨w.heap.size, 1, none⟩ = _ := e1
  have e2 : (W.drewN nq).cell? ⟨w.heap.size, 2, none⟩ = _ := e2
  have e3 : (W.drewN nq).cell? ⟨w.heap.size, 3, none⟩ = _ := e3
  have HB : Hid ((W.drewN nq).heap[b]? = some (.cells (wordsA v) 207 (0, 0))) := HB
  have hg : w.grownBy (W.drewN nq) (some b) := ⟨hg.os, hg.tape, hg.output, hg.size, hg.block⟩
  generalize W.drewN nq = W1 at *
  go_wp2_with fail
  generalize ha1 : (a + (bb + x)) % 4294967296 = ax1
  have HA1 := Lib.hid ha1
  clear ha1
  refine (R16 _ _).mono ?_
  rintro e w2 ⟨rfl, rfl⟩
  generalize hd1 : Blk.rotl (bits .xor .u32 d ax1) 16 = dx1
  have HD1 := Lib.hid hd1
  clear hd1
  go_wp2_with fail
  generalize hc1 : (c + dx1) % 4294967296 = cx1
  have HC1 := Lib.hid hc1
  clear hc1
  refine (R20 _ _).mono ?_
  rintro e w2 ⟨rfl, rfl⟩
  generalize hb1 : Blk.rotl (bits .xor .u32 bb cx1) 20 = bx1
  have HB1 := Lib.hid hb1
  clear hb1
  go_wp2_with fail
  generalize ha2 : (a + (bb + x) + (bx1 + y)) % 4294967296 = ax2
  have HA2 := Lib.hid ha2
  clear ha2
  refine (R24 _ _).mono ?_
  rintro e w2 ⟨rfl, rfl⟩
  generalize hd2 : Blk.rotl (bits .xor .u32 dx1 ax2) 24 = dx2
  have HD2 := Lib.hid hd2
  clear hd2
  go_wp2_with fail
  generalize hc2 : (cx1 + dx2) % 4294967296 = cx2
  have HC2 := Lib.hid hc2
  clear hc2
  refine (R25 _ _).mono ?_
  rintro e w2 ⟨rfl, rfl⟩
  generalize hb2 : Blk.rotl (bits .xor .u32 bx1 cx2) 25 = bx2
  have HB2 := Lib.hid hb2
  clear hb2
  go_wp2_with fail
  go_region
  go_wp2_with fail
  go_end0
  have h4 := set4W HB.out q0 q1 q2 q3 ax2 bx2 cx2 dx2
  have hr : res = (((v.set q0 ax2).set q1 bx2).set q2 cx2).set q3 dx2 := by
    rw [HR.out, ← HB2.out, ← HC2.out, ← HD2.out, ← HA2.out, ← HB1.out, ← HC1.out, ← HD1.out, ← HA1.out]
    have hw : ∀ n, Blk.w32 n = n % 4294967296 := IntKind.wrap_u32
    simp only [Blk.mixQ, Blk.half, Blk.bx, hw, Int.emod_add_emod, Int.add_emod_emod]
  rw [hr, HA2.out]
  exact ⟨rfl, h4.1, hg.trans ⟨h4.2.os, h4.2.tape, h4.2.output, h4.2.size, h4.2.block⟩⟩
end Go.Proofs.YtbhmdcdhklgomaaGreatDoor
