/-
  Plain: inversions and exchanges undo themselves; a cut keeps the cells.
-/
import Derived.Test.YtghpolfmhnnbaaaDoorAgBnd
namespace Go.Proofs.YtghpolfmhnnbaaaDoor
open Go.RowKit

theorem rep_one {α : Type} {l : List α} {i : Nat} (y : α) (h : i < l.length) : rep l i [y] = l.set i y := by
  unfold rep
  rw [List.set_eq_take_append_cons_drop, if_pos h]
  rfl
theorem inv1_inv1 (c : UInt8) : inv1 (inv1 c) = c := by
  unfold inv1
  by_cases h : c = 48
  · subst h; rfl
  · by_cases h9 : c = 49
    · subst h9; rfl
    · rw [if_neg h, if_neg h9, if_neg h, if_neg h9]
theorem getD_lt {α : Type} {l : List α} {i : Nat} (z : α) (h : i < l.length) : l.getD i z = l[i] := by
  rw [List.getD_eq_getElem?_getD, List.getElem?_eq_getElem h, Option.getD_some]
theorem editP_in {d : Dmg} {ps : List (List UInt8)} {q : Nat} (hq : d.piece = q) (h : q < ps.length) : editP d ps = (edit d ps q ps[q]).getD ps := by
  unfold editP
  rw [if_pos ⟨by omega, by omega⟩, hq, Int.toNat_natCast, getD_lt _ h]
/-- An inversion. -/
theorem editP_2 {d : Dmg} (hk : d.kind = 2) (ps : List (List UInt8)) : editP d (editP d ps) = ps := by
  by_cases hp : 0 ≤ d.piece ∧ d.piece < ps.length
  · obtain ⟨q, hq⟩ : ∃ q : Nat, d.piece = q := ⟨d.piece.toNat, by omega⟩
    have hql : q < ps.length := by omega
    have hed : ∀ (l : List (List UInt8)) (x : List UInt8), edit d l q x = if inside x d then some (rep l q [rep x d.at_.toNat [inv1 (x.getD d.at_.toNat 0)]]) else none := fun l x => by
      unfold edit pieceE
      rw [hk, if_neg (by decide), if_neg (by decide), if_pos rfl]
      split <;> rfl
    by_cases hi : inside ps[q] d = true
    · have ha := (inside_lt hi).1
      obtain ⟨a, haa⟩ : ∃ a, d.at_.toNat = a := ⟨_, rfl⟩
      rw [haa] at ha
      have e1 : editP d ps = ps.set q (ps[q].set a (inv1 ps[q][a])) := by
        rw [editP_in hq hql, hed, if_pos hi, haa, getD_lt _ ha, rep_one _ ha, rep_one _ hql]
        rfl
      have hl2 : q < (ps.set q (ps[q].set a (inv1 ps[q][a]))).length := by rw [List.length_set]; exact hql
      have hi2 : inside (ps[q].set a (inv1 ps[q][a])) d = true := by
        unfold inside at hi ⊢
        rw [List.length_set]
        exact hi
      have ha2 : a < (ps[q].set a (inv1 ps[q][a])).length := by rw [List.length_set]; exact ha
      rw [e1, editP_in hq hl2, List.getElem_set_self, hed, if_pos hi2, haa, getD_lt _ ha2, List.getElem_set_self, inv1_inv1, rep_one _ ha2, rep_one _ hl2, Option.getD_some, List.set_set, List.set_set, List.set_getElem_self, List.set_getElem_self]
    · have e1 : editP d ps = ps := by rw [editP_in hq hql, hed, if_neg hi]; rfl
      rw [e1, e1]
  · rw [editP_out hp, editP_out hp]
/-- An exchange. -/
theorem editP_6 {d : Dmg} (hk : d.kind = 6) (ps : List (List UInt8)) : editP d (editP d ps) = ps := by
  by_cases hp : 0 ≤ d.piece ∧ d.piece < ps.length
  · obtain ⟨q, hq⟩ : ∃ q : Nat, d.piece = q := ⟨d.piece.toNat, by omega⟩
    have hql : q < ps.length := by omega
    have hed : ∀ (l : List (List UInt8)) (x : List UInt8), edit d l q x = if 0 ≤ d.at_ ∧ d.at_ < l.length then some ((l.set q (l.getD d.at_.toNat [])).set d.at_.toNat x) else none := fun l x => by
      unfold edit
      rw [if_pos hk]
    by_cases hi : 0 ≤ d.at_ ∧ d.at_ < ps.length
    · obtain ⟨a, haa⟩ : ∃ a, d.at_.toNat = a := ⟨_, rfl⟩
      have ha : a < ps.length := by omega
      have e1 : editP d ps = (ps.set q ps[a]).set a ps[q] := by
        rw [editP_in hq hql, hed, if_pos hi, haa, getD_lt _ ha]
        rfl
      have hlen : ((ps.set q ps[a]).set a ps[q]).length = ps.length := by rw [List.length_set, List.length_set]
      rw [e1, editP_in hq (by rw [hlen]; exact hql), hed, if_pos (by rw [hlen]; exact hi), haa, getD_lt _ (by rw [hlen]; exact ha), Option.getD_some]
      refine List.ext_getElem (by simp) fun i h1 h2 => ?_
      rw [hlen] at *
      simp only [List.getElem_set]
      by_cases hia : a = i
      · subst hia
        rw [if_pos rfl]
        by_cases hqa : a = q
        · subst hqa; simp
        · rw [if_neg hqa]; simp
      · rw [if_neg hia]
        by_cases hqi : q = i
        · subst hqi
          simp
        · rw [if_neg hqi, if_neg hia, if_neg hqi]
    · have e1 : editP d ps = ps := by rw [editP_in hq hql, hed, if_neg hi]; rfl
      rw [e1, e1]
  · rw [editP_out hp, editP_out hp]
theorem applyR_undo {d : Dmg} (h : ∀ ps, editP d (editP d ps) = ps) (hk : d.kind ≠ 4) (rs : List Reel) : applyR (applyR rs d) d = rs := by
  by_cases hin : 0 ≤ d.reel ∧ d.reel < rs.length
  · obtain ⟨k, r, p, a, l⟩ := d
    obtain ⟨j, rfl⟩ : ∃ j : Nat, r = j := ⟨r.toNat, by have := hin.1; exact (Int.toNat_of_nonneg this).symm⟩
    have hj : j < rs.length := Int.ofNat_lt.1 hin.2
    have e1 := applyR_in (k := k) (p := p) (a := a) (l := l) (List.getElem?_eq_getElem hj) hk
    rw [e1, applyR_in (r := ⟨rs[j].num, editP ⟨k, j, p, a, l⟩ rs[j].ps⟩) (by rw [List.getElem?_set, if_pos rfl, if_pos hj]) hk, List.set_set, h, set_same (List.getElem?_eq_getElem hj)]
  · have e1 : applyR rs d = rs := by
      unfold applyR
      rw [if_neg hin]
    rw [e1, e1]
theorem applyR_len {d : Dmg} (hk : d.kind ≠ 4) (rs : List Reel) : (applyR rs d).length = rs.length := by
  unfold applyR
  split
  · split
    · rw [List.length_set]
    · rfl
  · rfl
/-- What stands at a place behind an action that is no loss. -/
theorem applyR_get {d : Dmg} (hk : d.kind ≠ 4) {rs : List Reel} {i : Nat} {r : Reel} (h : rs[i]? = some r) : ∃ r2, (applyR rs d)[i]? = some r2 ∧ r2.num = r.num ∧ (r2.ps = r.ps ∨ (d.reel = i ∧ r2.ps = editP d r.ps)) ∧ ((i : Int) ≠ d.reel → r2 = r) := by
  unfold applyR
  split
  · rename_i hin
    split
    · rename_i r0 hr0
      by_cases hij : d.reel.toNat = i
      · subst hij
        have hl := (List.getElem?_eq_some_iff.1 h).1
        rw [hr0] at h
        injection h with h
        subst h
        exact ⟨⟨r0.num, editP d r0.ps⟩, by rw [List.getElem?_set, if_pos rfl, if_pos hl], rfl, .inr ⟨by omega, rfl⟩, fun hne => absurd (by omega) hne⟩
      · exact ⟨r, by rw [List.getElem?_set, if_neg hij]; exact h, rfl, .inl rfl, fun _ => rfl⟩
    · exact ⟨r, h, rfl, .inl rfl, fun _ => rfl⟩
  · exact ⟨r, h, rfl, .inl rfl, fun _ => rfl⟩
theorem editP_5 {d : Dmg} (hk : d.kind = 5) (ps : List (List UInt8)) : (editP d ps).flatten = ps.flatten := by
  by_cases hp : 0 ≤ d.piece ∧ d.piece < ps.length
  · obtain ⟨q, hq⟩ : ∃ q : Nat, d.piece = q := ⟨d.piece.toNat, by omega⟩
    have hql : q < ps.length := by omega
    rw [editP_in hq hql]
    unfold edit pieceE
    rw [hk, if_neg (by decide), if_neg (by decide), if_neg (by decide), if_neg (by decide), if_pos rfl]
    split
    · show (rep ps q [ps[q].take _, ps[q].drop _]).flatten = _
      unfold rep
      have e : ps.flatten = (ps.take q ++ (ps[q] :: ps.drop (q + 1))).flatten := by rw [← List.drop_eq_getElem_cons hql, List.take_append_drop]
      rw [e]
      simp only [List.flatten_append, List.flatten_cons, List.flatten_nil, List.append_nil]
      rw [List.take_append_drop]
    · rfl
  · rw [editP_out hp]
end Go.Proofs.YtghpolfmhnnbaaaDoor
