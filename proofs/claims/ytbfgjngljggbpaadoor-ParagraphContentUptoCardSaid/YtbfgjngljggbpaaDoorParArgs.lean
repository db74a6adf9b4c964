/-
  An argument that is a slice of strings, of a reading of bounded bulk.
-/
import Derived.Test.YtbfgjngljggbpaaDoorParBase
import Derived.Test.YtbfgjngljggbpaaDoorArgs
import Derived.Test.YtbfgjngljggbpaaDoorRows
import Derived.SliceStrings
namespace Go.Proofs.YtbfgjngljggbpaaDoor
open Go.RowKit Go.WideShapes Go.ChangeShapes Go.ChangeAt

theorem bulk_part {H : Type} {d : DataW H} {l : List (DataW H)} (h : d ∈ l) : Rows.uptoBulk d ≤ Rows.uptoBulkAll l := by
  induction l with
  | nil => cases h
  | cons x r ih =>
    simp only [Rows.uptoBulkAll]
    cases List.mem_cons.1 h with
    | inl e => subst e; omega
    | inr e => have := ih e; omega
theorem bulk_of {H : Type} {l : List (DataW H)} (hk : Rows.uptoSmall H l = true) {d : DataW H} (h : d ∈ l) : Rows.uptoBulk d ≤ 1048576 := by
  have h1 : Rows.uptoBulkAll l ≤ 1048576 := of_decide_eq_true hk
  have h2 := bulk_part h
  omega
theorem bulk_strs {H : Type} : ∀ l : List ByteArray, Rows.uptoBulkAll (strs (H := H) l) = bulkL (l.map (·.data.toList))
  | [] => rfl
  | x :: r => by
    have ih := bulk_strs (H := H) r
    simp only [strs, List.map_cons, Rows.uptoBulkAll, bulkL, List.sum_cons] at ih ⊢
    rw [ih]
    simp [Rows.uptoBulk]
section
variable {H : Type} {enc : TypeId × Value → H} {P : Program}
theorem words_of {t e : TypeId} {W : World} {r : Reach} {b0 base : Nat} {v : Value} {d : DataW H} {ps : List MemPlace} (ht : P.underlying t = some (.slice e)) (he : P.underlying e = some .string) (hc : P.cellsOf e = 1)
    (hval : Value.okWide P W r b0 t v) (h : DataW.Trod enc P W base (fun _ => true) true t v d ps) (hk : Rows.uptoBulk d ≤ 1048576) : ∃ ws, Words W v ws := by
  obtain ⟨a0, len0, cap0, rfl⟩ := okWide_slice ht hval
  obtain ⟨fuel, hf⟩ := h
  rcases open_strings ht he hc hf with ⟨hcs, _⟩ | ⟨a, len, cap, ss, hcs, _, hl, hm, hlen, hx, hcell, _⟩
  · replace hcs : [Value.slice a0 len0 cap0] = _ := hcs
    simp only [List.cons.injEq, Value.slice.injEq, and_true] at hcs
    obtain ⟨rfl, rfl, rfl⟩ := hcs
    exact ⟨[], none, 0, rfl, Nat.le_refl _, Nat.zero_le _, Strs.nil _ _, Nat.zero_le _⟩
  · replace hcs : [Value.slice a0 len0 cap0] = _ := hcs
    simp only [List.cons.injEq, Value.slice.injEq, and_true] at hcs
    obtain ⟨rfl, rfl, rfl⟩ := hcs
    rw [if_pos rfl] at hlen
    have hd : d = .slice (strs (ss.take len0)) (strs (ss.drop len0)) := congrArg Prod.fst hx
    subst hd
    have hlen2 : ((ss.take len0).map (·.data.toList)).length = len0 := by rw [List.length_map, List.length_take]; omega
    obtain ⟨bk, off, sub⟩ := a
    have hsub : ss.length = 0 ∨ sub = none := by
      rcases Nat.eq_zero_or_pos ss.length with h0 | h0
      · exact .inl h0
      · have := hcell 0 h0
        cases sub with
        | none => exact .inr rfl
        | some s => exact .inr (absurd this (by simp [World.cell?, Addr.add]; split <;> simp))
    refine ⟨(ss.take len0).map (·.data.toList), some ⟨bk, off, sub⟩, cap0, by rw [hlen2], by omega, hm, ⟨rfl, fun j x hj => ?_⟩, ?_⟩
    · have hjl := (List.getElem?_eq_some_iff.1 hj).1
      rw [hlen2] at hjl
      rw [List.getElem?_map, List.getElem?_take, if_pos hjl] at hj
      obtain ⟨s, hs, rfl⟩ := Option.map_eq_some_iff.1 hj
      have hjs := (List.getElem?_eq_some_iff.1 hs).1
      rcases hsub with h0 | rfl
      · omega
      · refine ⟨bk, off, rfl, ?_⟩
        have h1 := hcell j hjs
        rw [Addr.add_lit, List.getD_eq_getElem?_getD, hs] at h1
        rw [mk_toList]
        exact h1
    · have h2 := bulk_strs (H := H) (ss.take len0)
      rw [← h2]
      simp only [Rows.uptoBulk] at hk
      omega
end
end Go.Proofs.YtbfgjngljggbpaaDoor
