/-
  Paths as lists of bytes: elements, joining, components, comparing. No program.
-/
import Derived.Test.YtgdmclhkoaadmaaDoorSepPlain
namespace Go.Proofs.YtgdmclhkoaadmaaDoor.Path
open Go

open Go.Proofs.YtgdmclhkoaadmaaDoor.Sep
abbrev els (l : List UInt8) : List (List UInt8) := Sep.els 47 l
abbrev jn (xs : List (List UInt8)) : List UInt8 := Sep.jn 47 xs

/-! Components, valid paths. -/
def okByte (c : UInt8) : Bool := (decide (97 ≤ c.toNat) && decide (c.toNat ≤ 122)) || (decide (48 ≤ c.toNat) && decide (c.toNat ≤ 57)) || c == 46 || c == 95 || c == 45
def comp (x : List UInt8) : Bool := decide (1 ≤ x.length) && decide (x.length ≤ 32) && !(x == [46]) && !(x == [46, 46]) && x.all okByte
def err (l : List UInt8) : Int := if 200 < l.length ∨ 8 < (els l).length then 6 else if (els l).all comp then 0 else 7
theorem comp_clean {x : List UInt8} (h : comp x = true) : clean 47 x := by
  intro c hc e
  subst e
  simp only [comp, Bool.and_eq_true, List.all_eq_true] at h
  have := h.2 47 hc
  revert this
  decide
theorem comp_ne {x : List UInt8} (h : comp x = true) : x ≠ [] := by
  intro e
  subst e
  revert h
  decide
theorem err_ok_iff {l : List UInt8} : err l = 0 ↔ l.length ≤ 200 ∧ (els l).length ≤ 8 ∧ ∀ x ∈ els l, comp x = true := by
  unfold err
  split
  · constructor
    · intro h; omega
    · rintro ⟨h1, h2, _⟩; omega
  · split
    · rename_i h1 h2
      rw [List.all_eq_true] at h2
      exact ⟨fun _ => ⟨by omega, by omega, h2⟩, fun _ => rfl⟩
    · rename_i h1 h2
      rw [List.all_eq_true] at h2
      exact ⟨fun h => by omega, fun h => absurd h.2.2 h2⟩
theorem err_cases (l : List UInt8) : err l = 0 ∨ err l = 6 ∨ err l = 7 := by
  unfold err
  split
  · simp
  · split <;> simp
theorem err_nil : err [] = 0 := by decide
theorem ok_jn {xs : List (List UInt8)} (h : ∀ x ∈ xs, comp x = true) : els (jn xs) = xs := els_jn (fun x hx => comp_clean (h x hx)) (fun x hx => comp_ne (h x hx))

/-- The ancestors of a valid path are valid. -/
theorem ok_take {l : List UInt8} (h : err l = 0) (k : Nat) : err (jn ((els l).take k)) = 0 ∧ els (jn ((els l).take k)) = (els l).take k := by
  obtain ⟨h1, h2, h3⟩ := err_ok_iff.1 h
  have h4 : ∀ x ∈ (els l).take k, comp x = true := fun x hx => h3 x (List.mem_of_mem_take hx)
  have h5 := ok_jn h4
  refine ⟨err_ok_iff.2 ⟨?_, ?_, ?_⟩, h5⟩
  · have : (jn ((els l).take k)).length ≤ (jn (els l)).length := jn_length_take (els l) k
    rw [show jn (els l) = l from jn_els l] at this
    omega
  · rw [h5, List.length_take]
    omega
  · rw [h5]
    exact h4

/-! Parent, Join, Under. -/
def parentE (l : List UInt8) : Int := if err l ≠ 0 then err l else if l = [] then 1 else 0
def parentV (l : List UInt8) : List UInt8 := if err l ≠ 0 then [] else jn (els l).dropLast
def joinP (d n : List UInt8) : List UInt8 := jn (els d ++ [n])
def joinE (d n : List UInt8) : Int := if err d ≠ 0 then err d else if comp n then err (joinP d n) else 7
def joinV (d n : List UInt8) : List UInt8 := if joinE d n = 0 then joinP d n else []
def under (a d : List UInt8) : Bool := decide (err a = 0) && decide (err d = 0) && (els d).isPrefixOf (els a)
theorem under_iff {a d : List UInt8} : under a d = true ↔ err a = 0 ∧ err d = 0 ∧ els d <+: els a := by
  unfold under
  rw [Bool.and_eq_true, Bool.and_eq_true, decide_eq_true_eq, decide_eq_true_eq, List.isPrefixOf_iff_prefix, and_assoc]

/-! Comparing. -/
def cmpE (a b : List UInt8) : Int := if Op.bytesLess a b then -1 else if Op.bytesLess b a then 1 else 0
def cmpL : List (List UInt8) → List (List UInt8) → Int
  | [], [] => 0
  | [], _ :: _ => -1
  | _ :: _, [] => 1
  | x :: xs, y :: ys => if cmpE x y = 0 then cmpL xs ys else cmpE x y
def cmp (a b : List UInt8) : Int := cmpL (els a) (els b)

theorem less_irrefl : ∀ x : List UInt8, Op.bytesLess x x = false
  | [] => by simp [Op.bytesLess]
  | a :: x => by simp [Op.bytesLess, less_irrefl x]
theorem less_tri : ∀ x y : List UInt8, Op.bytesLess x y = false → Op.bytesLess y x = false → x = y
  | [], [], _, _ => rfl
  | [], b :: y, h, _ => by simp [Op.bytesLess] at h
  | a :: x, [], _, h => by simp [Op.bytesLess] at h
  | a :: x, b :: y, h1, h2 => by
    simp only [Op.bytesLess, Bool.or_eq_false_iff, decide_eq_false_iff_not, Bool.and_eq_false_iff, beq_eq_false_iff_ne] at h1 h2
    have e : a = b := UInt8.le_antisymm (UInt8.not_lt.1 h2.1) (UInt8.not_lt.1 h1.1)
    subst e
    have g1 := h1.2.resolve_left (fun h => h rfl)
    have g2 := h2.2.resolve_left (fun h => h rfl)
    rw [less_tri x y g1 g2]
theorem less_trans : ∀ x y z : List UInt8, Op.bytesLess x y = true → Op.bytesLess y z = true → Op.bytesLess x z = true
  | _, _, [], _, h => by simp [Op.bytesLess] at h
  | [], _, c :: z, _, _ => by simp [Op.bytesLess]
  | a :: x, [], c :: z, h, _ => by simp [Op.bytesLess] at h
  | a :: x, b :: y, c :: z, h1, h2 => by
    simp only [Op.bytesLess, Bool.or_eq_true, decide_eq_true_eq, Bool.and_eq_true, beq_iff_eq] at h1 h2 ⊢
    rcases h1 with h1 | ⟨rfl, h1⟩
    · rcases h2 with h2 | ⟨rfl, h2⟩
      · exact .inl (UInt8.lt_trans h1 h2)
      · exact .inl h1
    · rcases h2 with h2 | ⟨rfl, h2⟩
      · exact .inl h2
      · exact .inr ⟨rfl, less_trans x y z h1 h2⟩
theorem less_asymm (x y : List UInt8) (h : Op.bytesLess x y = true) : Op.bytesLess y x = false := by
  cases h2 : Op.bytesLess y x
  · rfl
  · have := less_trans x y x h h2
    rw [less_irrefl] at this
    cases this
theorem cmpE_self (x : List UInt8) : cmpE x x = 0 := by simp [cmpE, less_irrefl]
theorem cmpE_eq {x y : List UInt8} (h : cmpE x y = 0) : x = y := by
  unfold cmpE at h
  cases h1 : Op.bytesLess x y
  · cases h2 : Op.bytesLess y x
    · exact less_tri x y h1 h2
    · simp [h1, h2] at h
  · simp [h1] at h
theorem cmpE_swap (x y : List UInt8) : cmpE y x = - cmpE x y := by
  unfold cmpE
  cases h1 : Op.bytesLess x y
  · cases h2 : Op.bytesLess y x <;> simp
  · simp [less_asymm x y h1]
theorem cmpE_range (x y : List UInt8) : -1 ≤ cmpE x y ∧ cmpE x y ≤ 1 := by
  unfold cmpE
  split
  · omega
  · split <;> omega
theorem cmpE_neg {x y : List UInt8} : cmpE x y < 0 ↔ Op.bytesLess x y = true := by
  unfold cmpE
  split
  · simp [*]
  · split <;> simp [*]
theorem cmpE_trans {x y z : List UInt8} (h1 : cmpE x y < 0) (h2 : cmpE y z < 0) : cmpE x z < 0 := cmpE_neg.2 (less_trans x y z (cmpE_neg.1 h1) (cmpE_neg.1 h2))

theorem cmpL_range : ∀ a b : List (List UInt8), -1 ≤ cmpL a b ∧ cmpL a b ≤ 1
  | [], [] => by simp [cmpL]
  | [], _ :: _ => by simp [cmpL]
  | _ :: _, [] => by simp [cmpL]
  | x :: xs, y :: ys => by
    unfold cmpL
    split
    · exact cmpL_range xs ys
    · exact cmpE_range x y
theorem cmpL_swap : ∀ a b : List (List UInt8), cmpL b a = - cmpL a b
  | [], [] => by simp [cmpL]
  | [], _ :: _ => by simp [cmpL]
  | _ :: _, [] => by simp [cmpL]
  | x :: xs, y :: ys => by
    have h := cmpE_swap x y
    unfold cmpL
    by_cases e : cmpE x y = 0
    · rw [if_pos e, if_pos (by omega), cmpL_swap xs ys]
    · rw [if_neg e, if_neg (by omega), h]
theorem cmpL_self : ∀ a : List (List UInt8), cmpL a a = 0
  | [] => rfl
  | x :: xs => by rw [cmpL, if_pos (cmpE_self x), cmpL_self xs]
theorem cmpL_eq : ∀ {a b : List (List UInt8)}, cmpL a b = 0 → a = b
  | [], [], _ => rfl
  | [], _ :: _, h => by simp [cmpL] at h
  | _ :: _, [], h => by simp [cmpL] at h
  | x :: xs, y :: ys, h => by
    unfold cmpL at h
    by_cases e : cmpE x y = 0
    · rw [if_pos e] at h
      rw [cmpE_eq e, cmpL_eq h]
    · rw [if_neg e] at h
      exact absurd h e
theorem cmpL_lt_trans : ∀ {a b c : List (List UInt8)}, cmpL a b < 0 → cmpL b c < 0 → cmpL a c < 0
  | _, [], [], _, h => by simp [cmpL] at h
  | _, _ :: _, [], _, h => by simp [cmpL] at h
  | [], _, _ :: _, _, _ => by simp [cmpL]
  | _ :: _, [], _ :: _, h, _ => by simp [cmpL] at h
  | x :: xs, y :: ys, z :: zs, h1, h2 => by
    unfold cmpL at h1 h2 ⊢
    by_cases e1 : cmpE x y = 0
    · rw [if_pos e1] at h1
      have := cmpE_eq e1
      subst this
      by_cases e2 : cmpE x z = 0
      · rw [if_pos e2] at h2 ⊢
        exact cmpL_lt_trans h1 h2
      · rw [if_neg e2] at h2 ⊢
        exact h2
    · rw [if_neg e1] at h1
      by_cases e2 : cmpE y z = 0
      · rw [← cmpE_eq e2, if_neg e1]
        exact h1
      · rw [if_neg e2] at h2
        have := cmpE_trans h1 h2
        rw [if_neg (by omega)]
        exact this
theorem cmpL_trans {a b c : List (List UInt8)} (h1 : cmpL a b ≤ 0) (h2 : cmpL b c ≤ 0) : cmpL a c = min (cmpL a b) (cmpL b c) := by
  by_cases e1 : cmpL a b = 0
  · rw [cmpL_eq e1, cmpL_self]
    omega
  · by_cases e2 : cmpL b c = 0
    · rw [← cmpL_eq e2, cmpL_self]
      omega
    · have h := cmpL_lt_trans (a := a) (b := b) (c := c) (by omega) (by omega)
      have r1 := cmpL_range a b
      have r2 := cmpL_range b c
      have r3 := cmpL_range a c
      omega
theorem cmpL_prefix : ∀ {d a : List (List UInt8)}, d <+: a → cmpL d a ≤ 0
  | [], [], _ => by simp [cmpL]
  | [], _ :: _, _ => by simp [cmpL]
  | x :: d, a, h => by
    obtain ⟨t, rfl⟩ := h
    rw [List.cons_append, cmpL, if_pos (cmpE_self x)]
    exact cmpL_prefix ⟨t, rfl⟩
theorem between : ∀ {d a b c : List (List UInt8)}, d <+: a → d <+: c → cmpL a b ≤ 0 → cmpL b c ≤ 0 → d <+: b
  | [], _, _, _, _, _, _, _ => List.nil_prefix
  | x :: d, a, b, c, ⟨t, ha⟩, ⟨u, hc⟩, h1, h2 => by
    subst ha hc
    cases b with
    | nil => simp [cmpL] at h1
    | cons y b =>
      simp only [List.cons_append, cmpL] at h1 h2
      have hs := cmpE_swap x y
      by_cases e : cmpE x y = 0
      · rw [if_pos e] at h1
        have := cmpE_eq e
        subst this
        rw [if_pos (cmpE_self x)] at h2
        exact List.cons_prefix_cons.2 ⟨rfl, between ⟨t, rfl⟩ ⟨u, rfl⟩ h1 h2⟩
      · rw [if_neg e] at h1
        rw [if_neg (by omega)] at h2
        omega
end Go.Proofs.YtgdmclhkoaadmaaDoor.Path
