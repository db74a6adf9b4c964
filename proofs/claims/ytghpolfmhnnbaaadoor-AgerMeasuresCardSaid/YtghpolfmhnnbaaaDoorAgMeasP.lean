/-
  Plain: what fading or inverting one cell does to the cells' measures.
-/
import Derived.Test.YtghpolfmhnnbaaaDoorAgUndoP
import Derived.Test.YtghpolfmhnnbaaaDoorCellsC
import Derived.Test.YtghpolfmhnnbaaaDoorAgGreat
namespace Go.Proofs.YtghpolfmhnnbaaaDoor
open Go.RowKit

theorem meas_small {rs : List Reel} (h : smallR rs = true) : rs.length ≤ 6 ∧ (∀ r ∈ rs, r.ps.length ≤ 6 ∧ ∀ x ∈ r.ps, x.length ≤ 200) ∧ Fine rs := by
  unfold smallR smallP at h
  simp only [Bool.and_eq_true, decide_eq_true_eq, List.all_eq_true] at h
  refine ⟨h.1, h.2, by omega, fun r hr => ?_⟩
  obtain ⟨h1, h2⟩ := h.2 r hr
  exact ⟨by omega, fun x hx => by have := h2 x hx; omega⟩
theorem meas_great {rs : List Reel} {W : World} {ao : Option Addr} {cap : Nat} (hr : Reels W ao rs.length rs) (hb : ∀ r ∈ rs, r.ps.length ≤ 9223372036854775807 ∧ ∀ x ∈ r.ps, x.length ≤ 9223372036854775807) (hn : rs.length ≤ 9223372036854775807) (G : Int) (hG : (if smallR rs then (0 : Int) else 1) = G) :
    Hid (Calls Tryd.prog 4 #[.slice ao rs.length cap] W fun e w' => e = .returned (.int .i64 G) ∧ w' = W) := by
  have h := great59_any ao rs.length cap rs W hr hn hb
  rw [hG] at h
  exact h
theorem split_at {c : List UInt8} {a : Nat} {z : UInt8} (h : c[a]? = some z) : ∃ p s, c = p ++ z :: s ∧ p.length = a := by
  obtain ⟨hl, hz⟩ := List.getElem?_eq_some_iff.1 h
  refine ⟨c.take a, c.drop (a + 1), ?_, by rw [List.length_take]; omega⟩
  rw [← hz, ← List.drop_eq_getElem_cons hl, List.take_append_drop]
theorem set_mid (p s : List UInt8) (z v : UInt8) : (p ++ z :: s).set p.length v = p ++ v :: s := by simp
theorem unread_mid (p s : List UInt8) (v : UInt8) : Cells.unread (p ++ v :: s) = Cells.unread p + (if v = 63 then 1 else 0) + Cells.unread s := by
  unfold Cells.unread
  rw [List.count_append, List.count_cons]
  by_cases h : v = 63
  · subst h
    simp
    omega
  · simp [h]
theorem dist_mid (p s : List UInt8) (z v : UInt8) : Cells.dist (p ++ z :: s) (p ++ v :: s) = if Cells.differ z v then 1 else 0 := by
  rw [Cells.dist_append _ _ _ _ rfl, Cells.dist_self, Cells.dist_cons, Cells.dist_self]
  omega
theorem ok_mid {p s : List UInt8} {z v : UInt8} (h : Cells.ok (p ++ z :: s) = true) (hv : Cells.isCell v = true) : Cells.isCell z = true ∧ Cells.ok (p ++ v :: s) = true := by
  unfold Cells.ok at h ⊢
  rw [List.all_append, List.all_cons, Bool.and_eq_true, Bool.and_eq_true] at h ⊢
  exact ⟨h.2.1, h.1, hv, h.2.2⟩
theorem cell_inv1 {z : UInt8} (h : Cells.isCell z = true) : Cells.isCell (inv1 z) = true ∧ (z = 63 → inv1 z = 63) ∧ (z ≠ 63 → inv1 z ≠ 63 ∧ Cells.differ z (inv1 z) = true) := by
  unfold Cells.isCell at h
  simp only [Bool.or_eq_true, beq_iff_eq] at h
  rcases h with (rfl | rfl) | rfl <;> decide
/-- One more unreadable cell, or none; the distances. -/
theorem meas_plain {c : List UInt8} {a : Nat} {z : UInt8} (h : c[a]? = some z) (hk : Cells.ok c = true) (M : Nat) (hM : (if z = 63 then 0 else 1) = M) :
    Cells.unread (c.set a 63) = Cells.unread c + M ∧ Cells.unread (c.set a (inv1 z)) = Cells.unread c ∧ Cells.distE c (c.set a 63) = 0 ∧ Cells.distV c (c.set a 63) = 0 ∧ Cells.distE c (c.set a (inv1 z)) = 0 ∧ Cells.distV c (c.set a (inv1 z)) = (M : Int) := by
  obtain ⟨p, s, rfl, rfl⟩ := split_at h
  rw [set_mid, set_mid]
  obtain ⟨hz, h63⟩ := ok_mid (v := 63) hk (by decide)
  obtain ⟨hi, hi1, hi2⟩ := cell_inv1 hz
  obtain ⟨_, hki⟩ := ok_mid hk hi
  have l63 : (p ++ z :: s).length = (p ++ 63 :: s).length := by simp
  have li : (p ++ z :: s).length = (p ++ inv1 z :: s).length := by simp
  have k63 : (Cells.ok (p ++ z :: s) && Cells.ok (p ++ 63 :: s)) = true := by rw [hk, h63]; rfl
  have ki : (Cells.ok (p ++ z :: s) && Cells.ok (p ++ inv1 z :: s)) = true := by rw [hk, hki]; rfl
  have hd63 : Cells.differ z 63 = false := by simp [Cells.differ]
  rw [Cells.distE_ok k63 l63, Cells.distV_ok k63 l63, Cells.distE_ok ki li, Cells.distV_ok ki li, dist_mid, dist_mid, unread_mid, unread_mid, unread_mid, hd63]
  subst hM
  by_cases hz63 : z = 63
  · have := hi1 hz63
    subst hz63
    rw [this]
    simp [Cells.differ]
  · obtain ⟨h1, h2⟩ := hi2 hz63
    simp [hz63, h1, h2]
    omega
theorem meas_1 {rs : List Reel} {r : Reel} {j q a : Nat} {x : List UInt8} (l : Int) (hj : rs[j]? = some r) (hx : r.ps[q]? = some x) (ha : a < x.length) : applyR rs ⟨1, j, q, a, l⟩ = rs.set j ⟨r.num, r.ps.set q (x.set a 63)⟩ := by
  have hq := (List.getElem?_eq_some_iff.1 hx).1
  have hi : inside x ⟨1, j, q, a, l⟩ = true := by simp [inside]; omega
  have he : edit ⟨1, j, q, a, l⟩ r.ps q x = some (r.ps.set q (x.set a 63)) := by
    unfold edit
    rw [if_neg (by show ¬ ((1 : Int) = 6); decide)]
    unfold pieceE
    rw [if_pos rfl, if_pos hi]
    show some (rep r.ps q [rep x a [63]]) = _
    rw [rep_one _ hq, rep_one _ ha]
  rw [applyR_in hj (by decide), editP_some rfl hx he]
theorem meas_2 {rs : List Reel} {r : Reel} {j q a : Nat} {x : List UInt8} {z : UInt8} (l : Int) (hj : rs[j]? = some r) (hx : r.ps[q]? = some x) (hz : x[a]? = some z) : applyR rs ⟨2, j, q, a, l⟩ = rs.set j ⟨r.num, r.ps.set q (x.set a (inv1 z))⟩ := by
  have hq := (List.getElem?_eq_some_iff.1 hx).1
  have ha := (List.getElem?_eq_some_iff.1 hz).1
  have hi : inside x ⟨2, j, q, a, l⟩ = true := by simp [inside]; omega
  have he : edit ⟨2, j, q, a, l⟩ r.ps q x = some (r.ps.set q (x.set a (inv1 z))) := by
    unfold edit
    rw [if_neg (by show ¬ ((2 : Int) = 6); decide)]
    unfold pieceE
    rw [if_neg (by show ¬ ((2 : Int) = 1); decide), if_pos rfl, if_pos hi]
    show some (rep r.ps q [rep x a [inv1 (x.getD a 0)]]) = _
    rw [rep_one _ hq, rep_one _ ha, List.getD_eq_getElem?_getD, hz]
    rfl
  rw [applyR_in hj (by decide), editP_some rfl hx he]
end Go.Proofs.YtghpolfmhnnbaaaDoor
