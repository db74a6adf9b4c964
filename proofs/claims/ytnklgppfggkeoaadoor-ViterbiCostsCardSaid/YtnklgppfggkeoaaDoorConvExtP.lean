/-
  Extract at any string, as the chapter says; code words with one cell changed. Plain lists.
-/
import Derived.Test.YtnklgppfggkeoaaDoorConvDist
import Derived.Test.YtnklgppfggkeoaaDoorConvDec
import Derived.Test.YtnklgppfggkeoaaDoorCellsPlain
namespace Go.Proofs.YtnklgppfggkeoaaDoor.Conv

/-- What Extract answers. -/
def ansX (c : List UInt8) : List UInt8 :=
  if Cells.ok c = true then (if c.length % 2 = 0 ∧ 4 ≤ c.length then (if c.contains 63 = true ∨ 131076 < c.length then [] else extX c) else []) else []
def ansE (c : List UInt8) : Int :=
  if Cells.ok c = true then (if c.length % 2 = 0 ∧ 4 ≤ c.length then (if c.contains 63 = true ∨ 131076 < c.length then 11 else extE c) else 4) else 3

theorem bitsOf_map (l : List Bool) : bitsOf (l.map ch) = l := by
  unfold bitsOf
  rw [List.map_map, show tb ∘ ch = id from funext tb_ch, List.map_id]
theorem ok_map (l : List Bool) : ok (l.map ch) = true := by
  unfold ok
  rw [List.all_eq_true]
  intro c hc
  obtain ⟨b, _, rfl⟩ := List.mem_map.1 hc
  cases b <;> rfl
/-- A string of bits is a code word, or Extract refuses it. -/
theorem ext_cases (c : List UInt8) (n : Nat) (hl : c.length = 2 * n) (hk : ok c = true) :
    (∃ s, ok s = true ∧ code s = c ∧ extX c = s ∧ extE c = 0) ∨ ((∀ s, code s ≠ c) ∧ extX c = [] ∧ extE c = 11) := by
  cases hd : dec false false c with
  | none =>
    refine .inr ⟨fun s e => ?_, ?_, ?_⟩
    · have h2 : dec false false (code s) = some (bitsOf s ++ [false, false]) := dec_flat _ _ _
      rw [e, hd] at h2
      cases h2
    · unfold extX; rw [hd]
    · unfold extE; rw [hd]
  | some l =>
    by_cases ht : l.drop (l.length - 2) = [false, false]
    · have hx : extX c = (l.take (l.length - 2)).map ch := by unfold extX; rw [hd]; simp only [ht, if_true]
      have he : extE c = 0 := by unfold extE; rw [hd]; simp only [ht, if_true]
      refine .inl ⟨_, ok_map _, ?_, hx, he⟩
      unfold code
      rw [bitsOf_map, ← ht, List.take_append_drop]
      exact dec_sound false false n c l hl hk hd
    · have hx : extX c = [] := by unfold extX; rw [hd]; simp only [ht, if_false]
      have he : extE c = 11 := by unfold extE; rw [hd]; simp only [ht, if_false]
      refine .inr ⟨fun s e => ?_, hx, he⟩
      have h2 : dec false false (code s) = some (bitsOf s ++ [false, false]) := dec_flat _ _ _
      rw [e, hd] at h2
      cases h2
      apply ht
      simp
theorem code_inj (a b : List UInt8) (ha : ok a = true) (hb : ok b = true) (h : code a = code b) : a = b := by
  have h1 := (ext_code a ha).1
  rw [h, (ext_code b hb).1] at h1
  exact h1.symm
theorem diff_self (a : List UInt8) : diff a a = 0 := by
  induction a with
  | nil => rfl
  | cons x a ih => rw [diff_cons, ih]; simp
theorem diff_set (c : List UInt8) (i : Nat) (x : UInt8) : diff (c.set i x) c ≤ 1 := by
  induction c generalizing i with
  | nil => simp [diff]
  | cons y c ih =>
    cases i with
    | zero =>
      rw [List.set_cons_zero, diff_cons, diff_self]
      split <;> omega
    | succ i =>
      rw [List.set_cons_succ, diff_cons]
      have := ih i
      simp
      exact this
theorem set_ne (c : List UInt8) (i : Nat) (hi : i < c.length) (x : UInt8) (hx : c[i] ≠ x) : c.set i x ≠ c := by
  intro e
  have h := List.getElem_set_self (l := c) (i := i) (a := x) (by simpa using hi)
  simp only [e] at h
  exact hx h
theorem ok_set (c : List UInt8) (i : Nat) (x : UInt8) (hk : ok c = true) (hx : isBit x = true) : ok (c.set i x) = true := by
  unfold ok at hk ⊢
  rw [List.all_eq_true] at hk ⊢
  intro y hy
  rcases List.mem_or_eq_of_mem_set hy with h | h
  · exact hk y h
  · rw [h]; exact hx
theorem cells_set (c : List UInt8) (i : Nat) (x : UInt8) (hk : Cells.ok c = true) (hx : Cells.isCell x = true) : Cells.ok (c.set i x) = true := by
  unfold Cells.ok at hk ⊢
  rw [List.all_eq_true] at hk ⊢
  intro y hy
  rcases List.mem_or_eq_of_mem_set hy with h | h
  · exact hk y h
  · rw [h]; exact hx
theorem cells_of_ok (l : List UInt8) (h : ok l = true) : Cells.ok l = true := by
  unfold ok at h
  unfold Cells.ok
  rw [List.all_eq_true] at h ⊢
  intro c hc
  have := h c hc
  unfold isBit at this
  unfold Cells.isCell
  rw [this]
  rfl
theorem ok_of_cells (l : List UInt8) (h : Cells.ok l = true) (h2 : l.contains 63 = false) : ok l = true := by
  unfold Cells.ok at h
  unfold ok
  rw [List.all_eq_true] at h ⊢
  intro c hc
  have h3 := h c hc
  unfold Cells.isCell at h3
  unfold isBit
  have h4 : c ≠ 63 := by
    intro e
    subst e
    rw [List.contains_iff_mem.2 hc] at h2
    cases h2
  have h5 : (c == 63) = false := by simpa using h4
  rw [h5, Bool.or_false] at h3
  exact h3
theorem no_open' (l : List UInt8) (h : ok l = true) : l.contains 63 = false := by
  cases hc : l.contains 63
  · rfl
  · unfold ok at h
    rw [List.all_eq_true] at h
    have := h 63 (List.contains_iff_mem.1 hc)
    cases this
theorem ans_syntax {c : List UInt8} (h : Cells.ok c = false) : ansX c = [] ∧ ansE c = 3 := by simp [ansX, ansE, h]
theorem ans_short {c : List UInt8} (h : Cells.ok c = true) (h2 : ¬ (c.length % 2 = 0 ∧ 4 ≤ c.length)) : ansX c = [] ∧ ansE c = 4 := by
  unfold ansX ansE
  rw [if_pos h, if_pos h, if_neg h2, if_neg h2]
  exact ⟨rfl, rfl⟩
theorem ans_open {c : List UInt8} (h : Cells.ok c = true) (h2 : c.length % 2 = 0 ∧ 4 ≤ c.length) (h3 : c.contains 63 = true) : ansX c = [] ∧ ansE c = 11 := by
  unfold ansX ansE
  rw [if_pos h, if_pos h, if_pos h2, if_pos h2, if_pos (Or.inl h3), if_pos (Or.inl h3)]
  exact ⟨rfl, rfl⟩
theorem ans_bits {c : List UInt8} (h : ok c = true) (h2 : c.length % 2 = 0 ∧ 4 ≤ c.length) (h3 : c.length ≤ 131076) : ansX c = extX c ∧ ansE c = extE c := by
  have hn : ¬ (c.contains 63 = true ∨ 131076 < c.length) := by
    rw [no_open' _ h]
    rintro (h | h)
    · cases h
    · omega
  unfold ansX ansE
  rw [if_pos (cells_of_ok _ h), if_pos (cells_of_ok _ h), if_pos h2, if_pos h2, if_neg hn, if_neg hn]
  exact ⟨rfl, rfl⟩
/-- One cell of a code word changed. -/
theorem ans_set (s : List UInt8) (hs : s.length ≤ 65536) (hk : ok s = true) (i : Nat) (hi : i < (code s).length) (x : UInt8) (hx : Cells.isCell x = true) (hne : (code s)[i] ≠ x) :
    ansX ((code s).set i x) = [] ∧ ansE ((code s).set i x) = 11 := by
  have hl : ((code s).set i x).length = 2 * s.length + 4 := by rw [List.length_set, code_length]
  have hc : Cells.ok ((code s).set i x) = true := cells_set _ _ _ (cells_of_ok _ (ok_code s)) hx
  cases h63 : ((code s).set i x).contains 63
  · have hb := ok_of_cells _ hc h63
    obtain ⟨e1, e2⟩ := ans_bits hb (by omega) (by omega)
    rw [e1, e2]
    rcases ext_cases _ (s.length + 2) (by omega) hb with ⟨t, ht, he, _, _⟩ | ⟨_, h1, h2⟩
    · exfalso
      have htl : t.length = s.length := by
        have := congrArg List.length he
        rw [code_length, hl] at this
        omega
      have hts : t ≠ s := by
        rintro rfl
        exact set_ne _ i hi x hne he.symm
      have := free t s htl ht hk hts
      rw [he] at this
      have := diff_set (code s) i x
      omega
    · exact ⟨h1, h2⟩
  · exact ans_open hc (by omega) h63
theorem ans_code (s : List UInt8) (hk : ok s = true) (hs : s.length ≤ 65536) : ansX (code s) = s ∧ ansE (code s) = 0 := by
  have hl := code_length s
  obtain ⟨e1, e2⟩ := ans_bits (ok_code s) (by omega) (by omega)
  rw [e1, e2]
  exact ext_code s hk
theorem extX_length (c : List UInt8) (n : Nat) (hl : c.length = 2 * n) : (extX c).length ≤ n := by
  cases hd : dec false false c with
  | none => unfold extX; rw [hd]; simp
  | some l =>
    have h := dec_length false false n c l hl hd
    unfold extX
    rw [hd]
    simp only
    split
    · rw [List.length_map, List.length_take]
      omega
    · simp
theorem ansX_length (c : List UInt8) : (ansX c).length ≤ c.length := by
  unfold ansX
  split
  · split
    · rename_i h
      split
      · simp
      · have := extX_length c (c.length / 2) (by omega)
        omega
    · simp
  · simp
attribute [irreducible] ansX ansE
end Go.Proofs.YtnklgppfggkeoaaDoor.Conv
