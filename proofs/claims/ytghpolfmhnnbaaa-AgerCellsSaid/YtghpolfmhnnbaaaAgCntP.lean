/-
  Plain: how many cells an action of the kinds 1, 2, 8 changes.
-/
import Derived.Test.YtghpolfmhnnbaaaAgUndoP
namespace Go.Proofs.Ytghpolfmhnnbaaa
open Go.RowKit

def sumTo (f : Nat → Nat) : Nat → Nat
  | 0 => 0
  | n + 1 => sumTo f n + f n
theorem sumTo_le {f : Nat → Nat} {B : Nat} (h : ∀ i, f i ≤ B) : ∀ n, sumTo f n ≤ n * B
  | 0 => Nat.zero_le _
  | n + 1 => by
    have h1 := sumTo_le h n
    have h2 := h n
    rw [Nat.add_mul, Nat.one_mul]
    exact Nat.add_le_add h1 h2
theorem sumTo_win {f : Nat → Nat} {a L : Nat} (h1 : ∀ i, f i ≤ 1) (h0 : ∀ i, (i < a ∨ a + L ≤ i) → f i = 0) (n : Nat) : sumTo f n ≤ L := by
  have h : ∀ n, sumTo f n ≤ min n (a + L) - a := by
    intro n
    induction n with
    | zero => exact Nat.zero_le _
    | succ n ih =>
      show sumTo f n + f n ≤ _
      have := h1 n
      by_cases hn : n < a ∨ a + L ≤ n
      · have := h0 n hn
        omega
      · omega
  have := h n
  omega
theorem sumTo_one {f : Nat → Nat} {q M : Nat} (h0 : ∀ i, i ≠ q → f i = 0) (hq : f q ≤ M) (n : Nat) : sumTo f n ≤ M := by
  have h : ∀ n, sumTo f n ≤ if q < n then M else 0 := by
    intro n
    induction n with
    | zero => exact Nat.zero_le _
    | succ n ih =>
      show sumTo f n + f n ≤ _
      by_cases hn : n = q
      · subst hn
        rw [if_neg (by omega)] at ih
        rw [if_pos (by omega)]
        omega
      · rw [h0 n hn]
        by_cases hq : q < n
        · rw [if_pos hq] at ih
          rw [if_pos (by omega)]
          omega
        · rw [if_neg hq] at ih
          rw [if_neg (by omega)]
          omega
  have := h n
  split at this <;> omega
theorem sumTo_zero {f : Nat → Nat} (h0 : ∀ i, f i = 0) (n : Nat) : sumTo f n = 0 := by
  have := sumTo_le (B := 0) (fun i => Nat.le_of_eq (h0 i)) n
  omega

/-- The differing cells, pieces, reels. -/
def d1 (x y : List UInt8) (j : Nat) : Nat := sumTo (fun i => if x[i]? = y[i]? then 0 else 1) j
def d2 (ps qs : List (List UInt8)) (k : Nat) : Nat := sumTo (fun i => d1 (ps.getD i []) (qs.getD i []) (ps.getD i []).length) k
def psAt (rs : List Reel) (i : Nat) : List (List UInt8) := match rs[i]? with
  | some r => r.ps
  | none => []
def d3 (rs ss : List Reel) (i : Nat) : Nat := sumTo (fun i => d2 (psAt rs i) (psAt ss i) (psAt rs i).length) i

theorem d1_succ (x y : List UInt8) (j : Nat) : d1 x y (j + 1) = d1 x y j + if x[j]? = y[j]? then 0 else 1 := rfl
theorem d2_succ {ps qs : List (List UInt8)} {k : Nat} {x y : List UInt8} (hx : ps[k]? = some x) (hy : qs[k]? = some y) : d2 ps qs (k + 1) = d2 ps qs k + d1 x y x.length := by
  show d2 ps qs k + d1 (ps.getD k []) (qs.getD k []) (ps.getD k []).length = _
  rw [List.getD_eq_getElem?_getD, List.getD_eq_getElem?_getD, hx, hy]
  rfl
theorem d3_succ {rs ss : List Reel} {i : Nat} {r s : Reel} (hr : rs[i]? = some r) (hs : ss[i]? = some s) : d3 rs ss (i + 1) = d3 rs ss i + d2 r.ps s.ps r.ps.length := by
  show d3 rs ss i + d2 (psAt rs i) (psAt ss i) (psAt rs i).length = _
  unfold psAt
  rw [hr, hs]
theorem d1_le (x y : List UInt8) (j : Nat) : d1 x y j ≤ j := by
  have := sumTo_le (f := fun i => if x[i]? = y[i]? then 0 else 1) (B := 1) (fun i => by show (if _ then _ else _) ≤ _; split <;> omega) j
  unfold d1
  omega
theorem d2_le {ps qs : List (List UInt8)} (h : ∀ x ∈ ps, x.length ≤ 200) (k : Nat) : d2 ps qs k ≤ k * 200 := by
  refine sumTo_le (fun i => Nat.le_trans (d1_le _ _ _) ?_) k
  rw [List.getD_eq_getElem?_getD]
  cases hx : ps[i]? with
  | none => exact Nat.zero_le _
  | some x => exact h x (List.mem_of_getElem? hx)
theorem d3_le {rs ss : List Reel} (h : ∀ r ∈ rs, r.ps.length ≤ 6 ∧ ∀ x ∈ r.ps, x.length ≤ 200) (i : Nat) : d3 rs ss i ≤ i * 1200 := by
  refine sumTo_le (fun i => ?_) i
  unfold psAt
  cases hx : rs[i]? with
  | none => exact Nat.zero_le _
  | some r =>
    have h1 := h r (List.mem_of_getElem? hx)
    have h2 := d2_le (qs := match ss[i]? with | some r => r.ps | none => []) h1.2 r.ps.length
    have h3 := h1.1
    refine Nat.le_trans h2 ?_
    omega
theorem d1_same (x : List UInt8) (j : Nat) : d1 x x j = 0 := sumTo_zero (fun _ => if_pos rfl) j
theorem d2_same (ps : List (List UInt8)) (k : Nat) : d2 ps ps k = 0 := sumTo_zero (fun _ => d1_same _ _) k
/-- At most so many cells. -/
def mostD (d : Dmg) : Nat := if d.kind = 8 then d.len.toNat else 1

theorem over_len2 {x : List UInt8} {a n : Nat} (h : a + n ≤ x.length) : (over x a n).length = x.length := by
  unfold over
  rw [List.length_append, List.length_append, List.length_replicate, List.length_take, List.length_drop]
  omega
theorem over_get {x : List UInt8} {a n : Nat} (h : a + n ≤ x.length) (i : Nat) (hi : i < a ∨ a + n ≤ i) : x[i]? = (over x a n)[i]? := by
  unfold over
  rcases hi with hi | hi
  · rw [List.getElem?_append_left (by rw [List.length_take]; omega), List.getElem?_take, if_pos hi]
  · rw [List.getElem?_append_right (by rw [List.length_take]; omega), List.getElem?_append_right (by rw [List.length_replicate, List.length_take]; omega), List.getElem?_drop, List.length_replicate, List.length_take]
    congr 1
    omega
/-- What such an action does to the pieces of a reel. -/
theorem edit_few {d : Dmg} (hk : d.kind = 1 ∨ d.kind = 2 ∨ d.kind = 8) (ps : List (List UInt8)) : editP d ps = ps ∨ ∃ p x y a, ps[p]? = some x ∧ editP d ps = ps.set p y ∧ y.length = x.length ∧ ∀ i : Nat, (i < a ∨ a + mostD d ≤ i) → x[i]? = y[i]? := by
  by_cases hp : 0 ≤ d.piece ∧ d.piece < ps.length
  rotate_left
  · exact .inl (editP_out hp)
  obtain ⟨q, hq⟩ : ∃ q : Nat, d.piece = q := ⟨d.piece.toNat, by omega⟩
  have hql : q < ps.length := by omega
  have hx : ps[q]? = some ps[q] := List.getElem?_eq_getElem hql
  rw [editP_in hq hql]
  generalize ps[q] = x at *
  have h6 : d.kind ≠ 6 := by omega
  obtain ⟨a, haa⟩ : ∃ a, d.at_.toNat = a := ⟨_, rfl⟩
  unfold edit
  rw [if_neg h6]
  by_cases hi : inside x d = true
  rotate_left
  · refine .inl ?_
    have : pieceE d x = none := by
      unfold pieceE
      rcases hk with h | h | h
      · rw [if_pos h, if_neg hi]
      · rw [if_neg (by omega), if_pos h, if_neg hi]
      · rw [if_neg (by omega), if_neg (by omega), if_neg (by omega), if_neg (by omega), if_neg (by omega), if_pos h, if_neg (by simp [hi])]
    rw [this]
    rfl
  have ha := (inside_lt hi).1
  rw [haa] at ha
  rcases hk with h | h | h
  · refine .inr ⟨q, x, x.set a 63, a, hx, ?_, List.length_set .., ?_⟩
    · unfold pieceE
      rw [if_pos h, if_pos hi, haa, rep_one _ ha, Option.map_some, rep_one _ hql]
      rfl
    · intro i hi2
      have : mostD d = 1 := if_neg (by omega)
      rw [List.getElem?_set, if_neg (by omega)]
  · refine .inr ⟨q, x, x.set a (inv1 (x.getD a 0)), a, hx, ?_, List.length_set .., ?_⟩
    · unfold pieceE
      rw [if_neg (by omega), if_pos h, if_pos hi, haa, rep_one _ ha, Option.map_some, rep_one _ hql]
      rfl
    · intro i hi2
      have : mostD d = 1 := if_neg (by omega)
      rw [List.getElem?_set, if_neg (by omega)]
  · by_cases hl : 1 ≤ d.len
    · have hb : a + burstN x d ≤ x.length := by
        unfold burstN
        rw [haa]
        omega
      refine .inr ⟨q, x, over x a (burstN x d), a, hx, ?_, over_len2 hb, ?_⟩
      · unfold pieceE
        rw [if_neg (by omega), if_neg (by omega), if_neg (by omega), if_neg (by omega), if_neg (by omega), if_pos h, if_pos (by simp [hi, hl]), haa, Option.map_some, rep_one _ hql]
        rfl
      · intro i hi2
        refine over_get hb i ?_
        have h3 : mostD d = d.len.toNat := if_pos h
        have h4 : burstN x d ≤ d.len.toNat := Nat.min_le_left _ _
        omega
    · refine .inl ?_
      have : pieceE d x = none := by
        unfold pieceE
        rw [if_neg (by omega), if_neg (by omega), if_neg (by omega), if_neg (by omega), if_neg (by omega), if_pos h, if_neg (by simp [hl])]
      rw [this]
      rfl
theorem edit_same {d : Dmg} (hk : d.kind = 1 ∨ d.kind = 2 ∨ d.kind = 8) (ps : List (List UInt8)) : (editP d ps).length = ps.length ∧ (∀ (k : Nat) (x : List UInt8), ps[k]? = some x → ∃ y : List UInt8, (editP d ps)[k]? = some y ∧ y.length = x.length) ∧ ∀ n, d2 ps (editP d ps) n ≤ mostD d := by
  rcases edit_few hk ps with h | ⟨p, x, y, a, hx, h, hl, hw⟩
  · rw [h]
    exact ⟨rfl, fun k x hx => ⟨x, hx, rfl⟩, fun n => by rw [d2_same]; exact Nat.zero_le _⟩
  · rw [h]
    have hpl := (List.getElem?_eq_some_iff.1 hx).1
    refine ⟨List.length_set .., fun k z hz => ?_, fun n => ?_⟩
    · by_cases hkp : p = k
      · subst hkp
        rw [hx] at hz
        injection hz with hz
        subst hz
        exact ⟨y, by rw [List.getElem?_set, if_pos rfl, if_pos hpl], hl⟩
      · exact ⟨z, by rw [List.getElem?_set, if_neg hkp]; exact hz, rfl⟩
    · refine sumTo_one (q := p) (fun i hi => ?_) ?_ n
      · rw [List.getD_eq_getElem?_getD, List.getD_eq_getElem?_getD, List.getElem?_set, if_neg (fun e => hi e.symm)]
        exact d1_same _ _
      · rw [List.getD_eq_getElem?_getD, List.getD_eq_getElem?_getD, List.getElem?_set, if_pos rfl, if_pos hpl, hx]
        refine sumTo_win (a := a) (fun i => ?_) (fun i hi => if_pos (hw i hi)) _
        show (if _ then _ else _) ≤ _
        split <;> omega
theorem cells_law {d : Dmg} (hk : d.kind = 1 ∨ d.kind = 2 ∨ d.kind = 8) (rs : List Reel) : (∀ (i : Nat) (r : Reel), rs[i]? = some r → ∃ s : Reel, (applyR rs d)[i]? = some s ∧ s.ps.length = r.ps.length ∧ ∀ (k : Nat) (x : List UInt8), r.ps[k]? = some x → ∃ y : List UInt8, s.ps[k]? = some y ∧ y.length = x.length) ∧ ∀ n, d3 rs (applyR rs d) n ≤ mostD d := by
  have h4 : d.kind ≠ 4 := by omega
  refine ⟨fun i r hr => ?_, fun n => ?_⟩
  · obtain ⟨s, hs, _, h | ⟨_, h⟩, _⟩ := applyR_get h4 hr
    · exact ⟨s, hs, by rw [h], fun k x hx => ⟨x, by rw [h]; exact hx, rfl⟩⟩
    · have := edit_same hk r.ps
      exact ⟨s, hs, by rw [h]; exact this.1, fun k x hx => by rw [h]; exact this.2.1 k x hx⟩
  · refine sumTo_one (q := d.reel.toNat) (fun i hi => ?_) ?_ n
    · have e : psAt (applyR rs d) i = psAt rs i := by
        unfold psAt
        cases hr : rs[i]? with
        | none =>
          have := applyR_len h4 rs
          rw [List.getElem?_eq_none_iff] at hr
          rw [List.getElem?_eq_none_iff.2 (by omega)]
        | some r =>
          obtain ⟨s, hs, _, _, h⟩ := applyR_get h4 hr
          rw [hs, h (by omega)]
      rw [e]
      exact d2_same _ _
    · unfold psAt
      cases hr : rs[d.reel.toNat]? with
      | none => exact Nat.zero_le _
      | some r =>
        obtain ⟨s, hs, _, h | ⟨_, h⟩, _⟩ := applyR_get h4 hr
        · rw [hs]
          show d2 r.ps s.ps _ ≤ _
          rw [h, d2_same]
          exact Nat.zero_le _
        · rw [hs]
          show d2 r.ps s.ps _ ≤ _
          rw [h]
          exact (edit_same hk r.ps).2.2 _
end Go.Proofs.Ytghpolfmhnnbaaa
