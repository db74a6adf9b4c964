/-
  Maximum-likelihood decoding by dynamic programming from the end. Plain lists.
-/
import Derived.Test.YtnklgppfggkeoaaDoorConvPlain
namespace Go.Proofs.YtnklgppfggkeoaaDoor.Vit

/-- Cost and number of paths of a suffix. -/
abbrev Suf := Int × Int
structure Stg where
  a : Suf
  b : Suf
  c : Suf
  d : Suf
def Stg.get (S : Stg) : Bool → Bool → Suf
  | false, false => S.a
  | false, true => S.b
  | true, false => S.c
  | true, true => S.d
def mis1 (x : UInt8) (o : Bool) : Int := if x ≠ 63 ∧ x ≠ Conv.ch o then 1 else 0
def mis (x y : UInt8) (p q u : Bool) : Int := mis1 x ((u ^^ p) ^^ q) + mis1 y (u ^^ q)
def branch (x y : UInt8) (S : Stg) (p q u : Bool) : Suf := if 0 ≤ (S.get u p).1 then ((S.get u p).1 + mis x y p q u, (S.get u p).2) else S.get u p
def worse (a b : Suf) : Bool := decide (a.1 < 0 ∨ (0 ≤ b.1 ∧ b.1 < a.1))
def step (a b : Suf) : Suf := if worse a b = true then b else if a.1 = b.1 then (a.1, min 2 (a.2 + b.2)) else a
def one (x y : UInt8) (S : Stg) (p q : Bool) : Suf := step (branch x y S p q false) (branch x y S p q true)
def before (x y : UInt8) (S : Stg) : Stg := ⟨one x y S false false, one x y S false true, one x y S true false, one x y S true true⟩
theorem get_before (x y : UInt8) (S : Stg) (p q : Bool) : (before x y S).get p q = one x y S p q := by cases p <;> cases q <;> rfl
def last : Stg := ⟨(0, 1), (-1, 0), (-1, 0), (-1, 0)⟩
def dp : List UInt8 → Stg
  | x :: y :: r => before x y (dp r)
  | _ => last
/-- The decoded bits. -/
def path (p q : Bool) : List UInt8 → Nat → List Bool
  | x :: y :: r, n + 1 => worse (branch x y (dp r) p q false) (branch x y (dp r) p q true) :: path (worse (branch x y (dp r) p q false) (branch x y (dp r) p q true)) p r n
  | _, _ => []
/-- The distance of a path. -/
def D (p q : Bool) : List UInt8 → List Bool → Int
  | x :: y :: r, u :: l => mis x y p q u + D u p r l
  | _, _ => 0
def Fin (p q : Bool) (l : List Bool) : Prop := Conv.after p q l = (false, false)
def lt : List Bool → List Bool → Prop
  | u :: l, v :: m => (u = false ∧ v = true) ∨ (u = v ∧ lt l m)
  | _, _ => False
theorem mis1_bd (x : UInt8) (o : Bool) : 0 ≤ mis1 x o ∧ mis1 x o ≤ 1 := by unfold mis1; split <;> omega
theorem mis_bd (x y : UInt8) (p q u : Bool) : 0 ≤ mis x y p q u ∧ mis x y p q u ≤ 2 := by
  have h1 := mis1_bd x ((u ^^ p) ^^ q)
  have h2 := mis1_bd y (u ^^ q)
  unfold mis
  omega

/-- What is known of a state with n transitions to go. -/
def Best (n : Nat) (p q : Bool) (c : List UInt8) (s : Suf) : Prop :=
  (s = (-1, 0) ∧ ∀ l, l.length = n → ¬ Fin p q l) ∨
  (0 ≤ s.1 ∧ s.1 ≤ 2 * n ∧ (path p q c n).length = n ∧ Fin p q (path p q c n) ∧ D p q c (path p q c n) = s.1 ∧
    (∀ l, l.length = n → Fin p q l → l ≠ path p q c n → s.1 < D p q c l ∨ (D p q c l = s.1 ∧ s.2 = 2 ∧ lt (path p q c n) l)) ∧
    (s.2 = 1 ∨ (s.2 = 2 ∧ ∃ l, l.length = n ∧ Fin p q l ∧ l ≠ path p q c n ∧ D p q c l = s.1)))
theorem fin_cons (p q u : Bool) (l : List Bool) : Fin p q (u :: l) ↔ Fin u p l := Iff.rfl
theorem D_cons (p q : Bool) (x y : UInt8) (r : List UInt8) (u : Bool) (l : List Bool) : D p q (x :: y :: r) (u :: l) = mis x y p q u + D u p r l := rfl

theorem branch_none {x y : UInt8} {S : Stg} {p q u : Bool} (h : S.get u p = (-1, 0)) : branch x y S p q u = (-1, 0) := by
  unfold branch
  rw [h]
  rfl
theorem branch_some {x y : UInt8} {S : Stg} {p q u : Bool} (h : 0 ≤ (S.get u p).1) : branch x y S p q u = ((S.get u p).1 + mis x y p q u, (S.get u p).2) := by
  unfold branch
  rw [if_pos h]
theorem best (n : Nat) : ∀ (c : List UInt8) (p q : Bool), c.length = 2 * n → Best n p q c ((dp c).get p q) := by
  induction n with
  | zero =>
    intro c p q hc
    obtain rfl : c = [] := List.eq_nil_of_length_eq_zero (by omega)
    cases p <;> cases q
    · refine .inr ⟨by decide, by decide, rfl, rfl, rfl, ?_, .inl rfl⟩
      intro l hl _ hne
      exact absurd (List.eq_nil_of_length_eq_zero hl) hne
    all_goals
      refine .inl ⟨rfl, fun l hl h => ?_⟩
      obtain rfl : l = [] := List.eq_nil_of_length_eq_zero hl
      cases h
  | succ n ih =>
    intro c p q hc
    match c, hc with
    | x :: y :: r, hc =>
      have hr : r.length = 2 * n := by simp at hc; omega
      have h0 := ih r false p hr
      have h1 := ih r true p hr
      have m0 := mis_bd x y p q false
      have m1 := mis_bd x y p q true
      have e : (dp (x :: y :: r)).get p q = one x y (dp r) p q := get_before _ _ _ _ _
      rw [e]
      have hcons : ∀ l : List Bool, l.length = n + 1 → ∃ u l', l = u :: l' ∧ l'.length = n := fun l hl => by
        cases l with
        | nil => simp at hl
        | cons u l' => exact ⟨u, l', rfl, by simpa using hl⟩
      generalize hA : (dp r).get false p = A at h0
      generalize hB : (dp r).get true p = B at h1
      have pathc : ∀ u, worse (branch x y (dp r) p q false) (branch x y (dp r) p q true) = u → path p q (x :: y :: r) (n + 1) = u :: path u p r n := fun u hu => by rw [path, hu]
      rcases h0 with ⟨a1, a2⟩ | ⟨a1, a2, a3, a4, a5, a6, a7⟩
      · have eA : branch x y (dp r) p q false = (-1, 0) := branch_none (by rw [hA, a1])
        have hw : worse (branch x y (dp r) p q false) (branch x y (dp r) p q true) = true := by rw [eA]; simp [worse]
        have hp := pathc true hw
        have ho : one x y (dp r) p q = branch x y (dp r) p q true := by unfold one step; rw [if_pos hw]
        rw [ho]
        rcases h1 with ⟨b1, b2⟩ | ⟨b1, b2, b3, b4, b5, b6, b7⟩
        · rw [branch_none (by rw [hB, b1])]
          refine .inl ⟨rfl, fun l hl => ?_⟩
          obtain ⟨u, l', rfl, hl'⟩ := hcons l hl
          cases u
          · exact a2 l' hl'
          · exact b2 l' hl'
        · rw [branch_some (by rw [hB]; exact b1), hB]
          refine .inr ⟨by simp only; omega, by simp only; omega, by rw [hp, List.length_cons, b3], by rw [hp]; exact b4, by rw [hp, D_cons, b5]; simp only; omega, ?_, ?_⟩
          · intro l hl hf hne
            obtain ⟨u, l', rfl, hl'⟩ := hcons l hl
            cases u
            · exact absurd hf (a2 l' hl')
            · rw [hp] at hne ⊢
              rw [D_cons]
              rcases b6 l' hl' hf (fun e => hne (by rw [e])) with h | ⟨h2, h3, h4⟩
              · left; simp only; omega
              · right; exact ⟨by simp only; omega, h3, .inr ⟨rfl, h4⟩⟩
          · rcases b7 with h | ⟨h, l', hl', hf, hne, hd⟩
            · exact .inl h
            · exact .inr ⟨h, true :: l', by rw [List.length_cons, hl'], hf, by rw [hp]; intro e; exact hne (List.cons.inj e).2, by rw [D_cons, hd]; simp only; omega⟩
      · have eA : branch x y (dp r) p q false = (A.1 + mis x y p q false, A.2) := by rw [branch_some (by rw [hA]; exact a1), hA]
        rcases h1 with ⟨b1, b2⟩ | ⟨b1, b2, b3, b4, b5, b6, b7⟩
        · have eB : branch x y (dp r) p q true = (-1, 0) := branch_none (by rw [hB, b1])
          have hw : worse (branch x y (dp r) p q false) (branch x y (dp r) p q true) = false := by
            rw [eA, eB, worse, decide_eq_false_iff_not]
            simp only
            omega
          have hp := pathc false hw
          have ho : one x y (dp r) p q = (A.1 + mis x y p q false, A.2) := by
            unfold one step
            rw [if_neg (by rw [hw]; decide), eA, eB, if_neg (by simp only; omega)]
          rw [ho]
          refine .inr ⟨by simp only; omega, by simp only; omega, by rw [hp, List.length_cons, a3], by rw [hp]; exact a4, by rw [hp, D_cons, a5]; simp only; omega, ?_, ?_⟩
          · intro l hl hf hne
            obtain ⟨u, l', rfl, hl'⟩ := hcons l hl
            cases u
            · rw [hp] at hne ⊢
              rw [D_cons]
              rcases a6 l' hl' hf (fun e => hne (by rw [e])) with h | ⟨h2, h3, h4⟩
              · left; simp only; omega
              · right; exact ⟨by simp only; omega, h3, .inr ⟨rfl, h4⟩⟩
            · exact absurd hf (b2 l' hl')
          · rcases a7 with h | ⟨h, l', hl', hf, hne, hd⟩
            · exact .inl h
            · exact .inr ⟨h, false :: l', by rw [List.length_cons, hl'], hf, by rw [hp]; intro e; exact hne (List.cons.inj e).2, by rw [D_cons, hd]; simp only; omega⟩
        · have eB : branch x y (dp r) p q true = (B.1 + mis x y p q true, B.2) := by rw [branch_some (by rw [hB]; exact b1), hB]
          by_cases hlt : B.1 + mis x y p q true < A.1 + mis x y p q false
          · have hw : worse (branch x y (dp r) p q false) (branch x y (dp r) p q true) = true := by
              rw [eA, eB, worse, decide_eq_true_iff]
              simp only
              omega
            have hp := pathc true hw
            have ho : one x y (dp r) p q = (B.1 + mis x y p q true, B.2) := by
              unfold one step
              rw [if_pos hw, eB]
            rw [ho]
            refine .inr ⟨by simp only; omega, by simp only; omega, by rw [hp, List.length_cons, b3], by rw [hp]; exact b4, by rw [hp, D_cons, b5]; simp only; omega, ?_, ?_⟩
            · intro l hl hf hne
              obtain ⟨u, l', rfl, hl'⟩ := hcons l hl
              cases u
              · left
                rw [D_cons]
                simp only
                by_cases e : l' = path false p r n
                · rw [e, a5]; omega
                · rcases a6 l' hl' hf e with h | ⟨h2, _, _⟩ <;> omega
              · rw [hp] at hne ⊢
                rw [D_cons]
                rcases b6 l' hl' hf (fun e => hne (by rw [e])) with h | ⟨h2, h3, h4⟩
                · left; simp only; omega
                · right; exact ⟨by simp only; omega, h3, .inr ⟨rfl, h4⟩⟩
            · rcases b7 with h | ⟨h, l', hl', hf, hne, hd⟩
              · exact .inl h
              · exact .inr ⟨h, true :: l', by rw [List.length_cons, hl'], hf, by rw [hp]; intro e; exact hne (List.cons.inj e).2, by rw [D_cons, hd]; simp only; omega⟩
          · have hw : worse (branch x y (dp r) p q false) (branch x y (dp r) p q true) = false := by
              rw [eA, eB, worse, decide_eq_false_iff_not]
              simp only
              omega
            have hp := pathc false hw
            by_cases heq : A.1 + mis x y p q false = B.1 + mis x y p q true
            · have ho : one x y (dp r) p q = (A.1 + mis x y p q false, 2) := by
                unfold one step
                rw [if_neg (by rw [hw]; decide), eA, eB, if_pos (by simp only; omega)]
                simp only
                congr 1
                have : A.2 = 1 ∨ A.2 = 2 := by rcases a7 with h | ⟨h, _⟩ <;> omega
                have : B.2 = 1 ∨ B.2 = 2 := by rcases b7 with h | ⟨h, _⟩ <;> omega
                omega
              rw [ho]
              refine .inr ⟨by simp only; omega, by simp only; omega, by rw [hp, List.length_cons, a3], by rw [hp]; exact a4, by rw [hp, D_cons, a5]; simp only; omega, ?_, ?_⟩
              · intro l hl hf hne
                obtain ⟨u, l', rfl, hl'⟩ := hcons l hl
                cases u
                · rw [hp] at hne ⊢
                  rw [D_cons]
                  rcases a6 l' hl' hf (fun e => hne (by rw [e])) with h | ⟨h2, h3, h4⟩
                  · left; simp only; omega
                  · right; exact ⟨by simp only; omega, rfl, .inr ⟨rfl, h4⟩⟩
                · rw [hp, D_cons]
                  simp only
                  by_cases e : l' = path true p r n
                  · rw [e, b5]
                    right
                    exact ⟨by omega, trivial, .inl ⟨rfl, rfl⟩⟩
                  · rcases b6 l' hl' hf e with h | ⟨h2, _, _⟩
                    · left; omega
                    · right; exact ⟨by omega, trivial, .inl ⟨rfl, rfl⟩⟩
              · refine .inr ⟨rfl, true :: path true p r n, by rw [List.length_cons, b3], b4, (by rw [hp]; intro e; cases (List.cons.inj e).1), by rw [D_cons, b5]; simp only; omega⟩
            · have ho : one x y (dp r) p q = (A.1 + mis x y p q false, A.2) := by
                unfold one step
                rw [if_neg (by rw [hw]; decide), eA, eB, if_neg (by simp only; exact heq)]
              rw [ho]
              refine .inr ⟨by simp only; omega, by simp only; omega, by rw [hp, List.length_cons, a3], by rw [hp]; exact a4, by rw [hp, D_cons, a5]; simp only; omega, ?_, ?_⟩
              · intro l hl hf hne
                obtain ⟨u, l', rfl, hl'⟩ := hcons l hl
                cases u
                · rw [hp] at hne ⊢
                  rw [D_cons]
                  rcases a6 l' hl' hf (fun e => hne (by rw [e])) with h | ⟨h2, h3, h4⟩
                  · left; simp only; omega
                  · right; exact ⟨by simp only; omega, h3, .inr ⟨rfl, h4⟩⟩
                · left
                  rw [D_cons]
                  simp only
                  by_cases e : l' = path true p r n
                  · rw [e, b5]; omega
                  · rcases b6 l' hl' hf e with h | ⟨h2, _, _⟩ <;> omega
              · rcases a7 with h | ⟨h, l', hl', hf, hne, hd⟩
                · exact .inl h
                · exact .inr ⟨h, false :: l', by rw [List.length_cons, hl'], hf, by rw [hp]; intro e; exact hne (List.cons.inj e).2, by rw [D_cons, hd]; simp only; omega⟩
    | [_], hc => simp at hc; omega
    | [], hc => simp at hc
end Go.Proofs.YtnklgppfggkeoaaDoor.Vit
