/-
  Paragraphs as lists of bytes: words, pieces, lines. No program.
-/
import Derived.Test.YtbfgjngljggbpaaDoorSepPlain
namespace Go.Proofs.YtbfgjngljggbpaaDoor.Par
open Go Go.Proofs.YtbfgjngljggbpaaDoor.Sep

def okB (c : UInt8) : Bool := decide (33 ≤ c.toNat) && decide (c.toNat ≤ 126)
def validB (s : List UInt8) : Bool := !s.isEmpty && s.all okB
def perr (ws : List (List UInt8)) (width : Int) : Int := if width < 1 ∨ 200 < width then 2 else if ws.all validB then 0 else 1

def chop (w : Nat) (s : List UInt8) : List (List UInt8) :=
  if 0 < w ∧ w < s.length then s.take w :: chop w (s.drop w) else [s]
termination_by s.length
decreasing_by
  rw [List.length_drop]
  omega
def pieces (w : Nat) (ws : List (List UInt8)) : List (List UInt8) := (ws.map (chop w)).flatten
def step (w : Nat) (out : List (List UInt8)) (p : List UInt8) : List (List UInt8) :=
  if out ≠ [] ∧ (out.getLastD []).length + 1 + p.length ≤ w then out.dropLast ++ [out.getLastD [] ++ 32 :: p] else out ++ [p]
def lines (w : Nat) (ps : List (List UInt8)) : List (List UInt8) := ps.foldl (step w) []
def wrap (w : Nat) (ws : List (List UInt8)) : List (List UInt8) := lines w (pieces w ws)

theorem chop_long {w : Nat} {s : List UInt8} (h : 0 < w) (hl : w < s.length) : chop w s = s.take w :: chop w (s.drop w) := by rw [chop, if_pos ⟨h, hl⟩]
theorem chop_short {w : Nat} {s : List UInt8} (hl : s.length ≤ w) : chop w s = [s] := by rw [chop, if_neg (by omega)]
theorem chop_ne (w : Nat) (s : List UInt8) : chop w s ≠ [] := by
  rw [chop]
  split <;> simp
theorem chop_le {w : Nat} (h : 0 < w) : ∀ (n : Nat) (s : List UInt8), s.length ≤ n → ∀ x ∈ chop w s, x.length ≤ w
  | 0, s, hn, x, hx => by
    rw [chop_short (by omega), List.mem_singleton] at hx
    rw [hx]
    omega
  | n + 1, s, hn, x, hx => by
    rcases Nat.lt_or_ge w s.length with hl | hl
    · rw [chop_long h hl] at hx
      rcases List.mem_cons.1 hx with rfl | hx
      · rw [List.length_take]
        omega
      · exact chop_le h n _ (by rw [List.length_drop]; omega) x hx
    · rw [chop_short hl, List.mem_singleton] at hx
      rw [hx]
      exact hl
theorem chop_flat {w : Nat} (h : 0 < w) : ∀ (n : Nat) (s : List UInt8), s.length ≤ n → (chop w s).flatten = s
  | 0, s, hn => by
    rw [chop_short (by omega)]
    simp
  | n + 1, s, hn => by
    rcases Nat.lt_or_ge w s.length with hl | hl
    · rw [chop_long h hl, List.flatten_cons, chop_flat h n _ (by rw [List.length_drop]; omega), List.take_append_drop]
    · rw [chop_short hl]
      simp
theorem chop_count {w : Nat} (h : 0 < w) : ∀ (n : Nat) (s : List UInt8), s.length ≤ n → (chop w s).length ≤ s.length + 1
  | 0, s, hn => by
    rw [chop_short (by omega)]
    simp
  | n + 1, s, hn => by
    rcases Nat.lt_or_ge w s.length with hl | hl
    · have := chop_count h n (s.drop w) (by rw [List.length_drop]; omega)
      rw [List.length_drop] at this
      rw [chop_long h hl, List.length_cons]
      omega
    · rw [chop_short hl]
      simp
theorem chop_pos {w : Nat} {s : List UInt8} (h : s ≠ []) : ∀ x ∈ chop w s, x ≠ [] := by
  rcases Nat.eq_zero_or_pos w with h0 | h0
  · subst h0
    intro x hx
    rw [chop, if_neg (by omega), List.mem_singleton] at hx
    rw [hx]
    exact h
  · have go : ∀ (n : Nat) (s : List UInt8), s.length ≤ n → s ≠ [] → ∀ x ∈ chop w s, x ≠ [] := by
      intro n
      induction n with
      | zero =>
        intro s hn hs
        exact absurd (List.eq_nil_of_length_eq_zero (by omega)) hs
      | succ n ih =>
        intro s hn hs x hx
        rcases Nat.lt_or_ge w s.length with hl | hl
        · rw [chop_long h0 hl] at hx
          rcases List.mem_cons.1 hx with rfl | hx
          · intro e
            have := congrArg List.length e
            rw [List.length_take, List.length_nil] at this
            omega
          · refine ih _ (by rw [List.length_drop]; omega) ?_ x hx
            intro e
            have := congrArg List.length e
            rw [List.length_drop, List.length_nil] at this
            omega
        · rw [chop_short hl, List.mem_singleton] at hx
          rw [hx]
          exact hs
    exact go _ s (Nat.le_refl _) h

theorem pieces_cons (w : Nat) (x : List UInt8) (r : List (List UInt8)) : pieces w (x :: r) = chop w x ++ pieces w r := by simp [pieces]
theorem pieces_append (w : Nat) (a b : List (List UInt8)) : pieces w (a ++ b) = pieces w a ++ pieces w b := by simp [pieces]
theorem pieces_take_succ (w : Nat) (ws : List (List UInt8)) (k : Nat) (x : List UInt8) (h : ws[k]? = some x) : pieces w (ws.take (k + 1)) = pieces w (ws.take k) ++ chop w x := by
  rw [List.take_add_one, h, pieces_append]
  simp [pieces]
theorem pieces_take_le (w : Nat) (ws : List (List UInt8)) (k : Nat) : (pieces w (ws.take k)).length ≤ (pieces w ws).length := by
  have h : pieces w ws = pieces w (ws.take k) ++ pieces w (ws.drop k) := by rw [← pieces_append, List.take_append_drop]
  rw [h, List.length_append]
  omega
theorem pieces_le {w : Nat} (h : 0 < w) (ws : List (List UInt8)) : ∀ x ∈ pieces w ws, x.length ≤ w := by
  intro x hx
  obtain ⟨l, hl, hx⟩ := List.mem_flatten.1 hx
  obtain ⟨s, _, rfl⟩ := List.mem_map.1 hl
  exact chop_le h _ s (Nat.le_refl _) x hx
theorem pieces_of_le {w : Nat} : ∀ {ws : List (List UInt8)}, (∀ x ∈ ws, x.length ≤ w) → pieces w ws = ws
  | [], _ => rfl
  | x :: r, h => by
    rw [pieces_cons, chop_short (h x (by simp)), pieces_of_le fun y hy => h y (by simp [hy])]
    rfl
theorem pieces_count {w : Nat} (h : 0 < w) : ∀ ws : List (List UInt8), (pieces w ws).length ≤ (ws.map fun x => x.length + 1).sum
  | [] => Nat.le_refl _
  | x :: r => by
    have h1 := chop_count h _ x (Nat.le_refl _)
    have h2 := pieces_count h r
    rw [pieces_cons, List.length_append, List.map_cons, List.sum_cons]
    omega

theorem step_nil (w : Nat) (p : List UInt8) : step w [] p = [p] := by simp [step]
theorem step_snoc (w : Nat) (ys : List (List UInt8)) (l p : List UInt8) : step w (ys ++ [l]) p = if l.length + 1 + p.length ≤ w then ys ++ [l ++ 32 :: p] else ys ++ [l] ++ [p] := by
  unfold step
  rw [List.getLastD_concat, List.dropLast_concat]
  by_cases h : l.length + 1 + p.length ≤ w
  · rw [if_pos ⟨by simp, h⟩, if_pos h]
  · rw [if_neg (fun e => h e.2), if_neg h]
theorem lines_snoc (w : Nat) (ps : List (List UInt8)) (p : List UInt8) : lines w (ps ++ [p]) = step w (lines w ps) p := by simp [lines]
theorem snoc_cases {α : Type} (l : List α) : l = [] ∨ ∃ ys y, l = ys ++ [y] := by
  rcases List.eq_nil_or_concat l with h | ⟨ys, y, h⟩
  · exact .inl h
  · exact .inr ⟨ys, y, by rw [h, List.concat_eq_append]⟩
theorem step_le {w K : Nat} (hw : w ≤ K) {out : List (List UInt8)} {p : List UInt8} (ho : ∀ x ∈ out, x.length ≤ K) (hp : p.length ≤ K) : ∀ x ∈ step w out p, x.length ≤ K := by
  rcases snoc_cases out with rfl | ⟨ys, l, rfl⟩
  · intro x hx
    rw [step_nil, List.mem_singleton] at hx
    rw [hx]
    exact hp
  · rw [step_snoc]
    split
    · rename_i h
      intro x hx
      rcases List.mem_append.1 hx with hx | hx
      · exact ho x (by simp [hx])
      · rw [List.mem_singleton] at hx
        rw [hx, List.length_append, List.length_cons]
        omega
    · intro x hx
      rcases List.mem_append.1 hx with hx | hx
      · exact ho x hx
      · rw [List.mem_singleton] at hx
        rw [hx]
        exact hp
theorem foldl_le {w K : Nat} (hw : w ≤ K) : ∀ (ps out : List (List UInt8)), (∀ x ∈ out, x.length ≤ K) → (∀ p ∈ ps, p.length ≤ K) → ∀ x ∈ ps.foldl (step w) out, x.length ≤ K
  | [], out, ho, _ => ho
  | p :: ps, out, ho, hp => foldl_le hw ps (step w out p) (step_le hw ho (hp p (by simp))) fun q hq => hp q (by simp [hq])
theorem lines_le {w K : Nat} (hw : w ≤ K) {ps : List (List UInt8)} (hp : ∀ p ∈ ps, p.length ≤ K) : ∀ x ∈ lines w ps, x.length ≤ K := foldl_le hw ps [] (fun x hx => by simp at hx) hp
theorem step_count (w : Nat) (out : List (List UInt8)) (p : List UInt8) : (step w out p).length ≤ out.length + 1 := by
  rcases snoc_cases out with rfl | ⟨ys, l, rfl⟩
  · simp [step_nil]
  · rw [step_snoc]
    split <;> simp
theorem foldl_count (w : Nat) : ∀ (ps out : List (List UInt8)), (ps.foldl (step w) out).length ≤ out.length + ps.length
  | [], out => by simp
  | p :: ps, out => by
    have h1 := foldl_count w ps (step w out p)
    have h2 := step_count w out p
    simp only [List.foldl_cons, List.length_cons]
    omega
theorem lines_count (w : Nat) (ps : List (List UInt8)) : (lines w ps).length ≤ ps.length := by
  have := foldl_count w ps []
  simpa [lines] using this
end Go.Proofs.YtbfgjngljggbpaaDoor.Par
