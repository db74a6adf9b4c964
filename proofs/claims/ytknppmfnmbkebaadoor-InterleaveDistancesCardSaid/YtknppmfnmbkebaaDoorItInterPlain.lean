/-
  Plain mathematics of the row by row order of layer 11: the index of a position in the interleaved form is a bijection; the list of positions is its inverse. No program in sight.
-/
namespace Go.Proofs.YtknppmfnmbkebaaDoor.It.Inter

/-- The position in the interleaved form. -/
def idx (n r i : Nat) : Nat := i % r * (n / r) + min (i % r) (n % r) + i / r
/-- Where row p begins. -/
def start (n r p : Nat) : Nat := p * (n / r) + min p (n % r)
/-- How long row p is. -/
def cnt (n r p : Nat) : Nat := n / r + if p < n % r then 1 else 0

theorem idx_eq (n r i : Nat) : idx n r i = start n r (i % r) + i / r := rfl

theorem start_succ (n r p : Nat) : start n r (p + 1) = start n r p + cnt n r p := by
  unfold start cnt
  rw [Nat.succ_mul]
  split <;> omega

theorem start_mono (n r : Nat) {p p' : Nat} (h : p ≤ p') : start n r p ≤ start n r p' := by
  unfold start
  have := Nat.mul_le_mul_right (n / r) h
  omega

theorem start_end (n r : Nat) (hr : 0 < r) : start n r r = n := by
  unfold start
  have h1 := Nat.div_add_mod n r
  have h2 := Nat.mod_lt n hr
  omega

theorem start_le (n r p : Nat) (hr : 0 < r) (hp : p ≤ r) : start n r p ≤ n := by
  have := start_mono n r hp
  rw [start_end n r hr] at this
  exact this

theorem start_small (n r p : Nat) (h : n < r) (hp : n ≤ p) : start n r p = n := by
  unfold start
  rw [Nat.div_eq_of_lt h, Nat.mod_eq_of_lt h]
  omega

theorem lt_cnt (n r i : Nat) (hr : 0 < r) (hi : i < n) : i / r < cnt n r (i % r) := by
  unfold cnt
  have h1 := Nat.div_add_mod n r
  have h2 := Nat.div_add_mod i r
  have h3 := Nat.mod_lt n hr
  have h4 := Nat.mod_lt i hr
  rcases Nat.lt_trichotomy (i / r) (n / r) with h | h | h
  · split <;> omega
  · rw [h] at h2
    rw [if_pos (by omega)]
    omega
  · have : r * (n / r + 1) ≤ r * (i / r) := Nat.mul_le_mul_left r h
    rw [Nat.mul_add] at this
    omega

theorem of_cnt (n r p q : Nat) (hp : p < r) (hq : q < cnt n r p) : q * r + p < n := by
  unfold cnt at hq
  have h1 := Nat.div_add_mod n r
  have hr : 0 < r := by omega
  have h3 := Nat.mod_lt n hr
  by_cases h : q < n / r
  · have : (q + 1) * r ≤ n / r * r := Nat.mul_le_mul_right r h
    rw [Nat.succ_mul, Nat.mul_comm (n / r)] at this
    omega
  · have hp' : p < n % r := by
      rcases Nat.lt_or_ge p (n % r) with g | g
      · exact g
      · rw [if_neg (by omega)] at hq
        omega
    rw [if_pos hp'] at hq
    have : q = n / r := by omega
    rw [this, Nat.mul_comm]
    omega

theorem split_mod (r p q : Nat) (hp : p < r) : (q * r + p) % r = p := by
  rw [Nat.mul_comm, Nat.mul_add_mod, Nat.mod_eq_of_lt hp]
theorem split_div (r p q : Nat) (hp : p < r) : (q * r + p) / r = q := by
  rw [Nat.mul_comm, Nat.mul_add_div (by omega), Nat.div_eq_of_lt hp]
  omega

theorem idx_split (n r p q : Nat) (hp : p < r) : idx n r (q * r + p) = start n r p + q := by
  rw [idx_eq, split_mod r p q hp, split_div r p q hp]

theorem idx_lt (n r i : Nat) (hr : 0 < r) (hi : i < n) : idx n r i < n := by
  have h1 := lt_cnt n r i hr hi
  have h2 := start_succ n r (i % r)
  have h3 := start_le n r (i % r + 1) hr (Nat.mod_lt i hr)
  rw [idx_eq]
  omega

theorem idx_inj (n r i j : Nat) (hr : 0 < r) (hi : i < n) (hj : j < n) (h : idx n r i = idx n r j) : i = j := by
  have a1 := lt_cnt n r i hr hi
  have b1 := lt_cnt n r j hr hj
  have a2 := start_succ n r (i % r)
  have b2 := start_succ n r (j % r)
  rw [idx_eq, idx_eq] at h
  have hp : i % r = j % r := by
    generalize i / r = qi at *
    generalize j / r = qj at *
    rcases Nat.lt_trichotomy (i % r) (j % r) with g | g | g
    · have := start_mono n r (p := i % r + 1) (p' := j % r) g
      omega
    · exact g
    · have := start_mono n r (p := j % r + 1) (p' := i % r) g
      omega
  rw [hp] at h
  have hq : i / r = j / r := by omega
  have e1 := Nat.div_add_mod i r
  have e2 := Nat.div_add_mod j r
  rw [hp, hq] at e1
  omega

theorem find_row (n r : Nat) : ∀ P k : Nat, k < start n r P → ∃ p q, p < P ∧ q < cnt n r p ∧ k = start n r p + q := by
  intro P
  induction P with
  | zero =>
    intro k hk
    unfold start at hk
    omega
  | succ P ih =>
    intro k hk
    rw [start_succ] at hk
    by_cases h : k < start n r P
    · obtain ⟨p, q, hp, hq, e⟩ := ih k h
      exact ⟨p, q, by omega, hq, e⟩
    · exact ⟨P, k - start n r P, by omega, by omega, by omega⟩

theorem idx_onto (n r k : Nat) (hr : 0 < r) (hk : k < n) : ∃ i, i < n ∧ idx n r i = k := by
  have hk' := hk
  rw [← start_end n r hr] at hk'
  obtain ⟨p, q, hp, hq, e⟩ := find_row n r r k hk'
  exact ⟨q * r + p, of_cnt n r p q hp hq, by rw [idx_split n r p q hp]; exact e.symm⟩

/-! The list of positions. -/
def row (n r p : Nat) : List Nat := (List.range (cnt n r p)).map fun q => q * r + p
def rows (n r : Nat) : Nat → List Nat
  | 0 => []
  | P + 1 => rows n r P ++ row n r P
def order (n r : Nat) : List Nat := rows n r (min r n)

theorem row_length (n r p : Nat) : (row n r p).length = cnt n r p := by simp [row]
theorem rows_length (n r P : Nat) : (rows n r P).length = start n r P := by
  induction P with
  | zero => simp [rows, start]
  | succ P ih => rw [rows, List.length_append, ih, row_length, start_succ]
theorem start_min (n r : Nat) (hr : 0 < r) : start n r (min r n) = n := by
  by_cases h : r ≤ n
  · rw [Nat.min_eq_left h, start_end n r hr]
  · rw [Nat.min_eq_right (by omega)]
    exact start_small n r n (by omega) (Nat.le_refl n)
theorem order_length (n r : Nat) (hr : 0 < r) : (order n r).length = n := by
  rw [order, rows_length, start_min n r hr]

theorem rows_get (n r : Nat) : ∀ P p q : Nat, p < P → q < cnt n r p → (rows n r P)[start n r p + q]? = some (q * r + p) := by
  intro P
  induction P with
  | zero => intro p q hp; omega
  | succ P ih =>
    intro p q hp hq
    have hs := start_succ n r p
    rw [rows]
    by_cases h : p < P
    · have := start_mono n r (p := p + 1) (p' := P) h
      rw [List.getElem?_append_left (by rw [rows_length]; omega)]
      exact ih p q h hq
    · have e : p = P := by omega
      subst e
      rw [List.getElem?_append_right (by rw [rows_length]; omega), rows_length, Nat.add_sub_cancel_left, row, List.getElem?_map,
        List.getElem?_range hq]
      rfl

theorem order_idx (n r i : Nat) (hr : 0 < r) (hi : i < n) : (order n r)[idx n r i]? = some i := by
  have h1 := lt_cnt n r i hr hi
  have h2 : i % r < min r n := by
    have a := Nat.mod_lt i hr
    have b := Nat.mod_le i r
    omega
  rw [order, idx_eq, rows_get n r _ _ _ h2 h1]
  congr 1
  have := Nat.div_add_mod i r
  rw [Nat.mul_comm] at this
  exact this

theorem order_lt (n r k : Nat) (hr : 0 < r) (hk : k < n) : ∃ i, i < n ∧ idx n r i = k ∧ (order n r)[k]? = some i := by
  obtain ⟨i, hi, e⟩ := idx_onto n r k hr hk
  exact ⟨i, hi, e, by rw [← e]; exact order_idx n r i hr hi⟩

/-! The two forms of a string. -/
def inter (s : List UInt8) (r : Nat) : List UInt8 := (order s.length r).map fun i => s.getD i 0
def deinter (s : List UInt8) (r : Nat) : List UInt8 := (List.range s.length).map fun i => s.getD (idx s.length r i) 0

theorem inter_length (s : List UInt8) (r : Nat) (hr : 0 < r) : (inter s r).length = s.length := by
  simp [inter, order_length _ r hr]
theorem deinter_length (s : List UInt8) (r : Nat) : (deinter s r).length = s.length := by simp [deinter]

theorem inter_idx (s : List UInt8) (r i : Nat) (hr : 0 < r) (hi : i < s.length) : (inter s r)[idx s.length r i]? = s[i]? := by
  rw [inter, List.getElem?_map, order_idx _ r i hr hi]
  simp [List.getD_eq_getElem?_getD, List.getElem?_eq_getElem hi]
theorem deinter_get (s : List UInt8) (r i : Nat) (hr : 0 < r) (hi : i < s.length) : (deinter s r)[i]? = s[idx s.length r i]? := by
  have h := idx_lt s.length r i hr hi
  rw [deinter, List.getElem?_map, List.getElem?_range hi]
  simp [List.getD_eq_getElem?_getD, List.getElem?_eq_getElem h]

theorem inter_only (s t : List UInt8) (r : Nat) (hr : 0 < r) (hl : t.length = s.length) (h : ∀ i, i < s.length → t[idx s.length r i]? = s[i]?) : t = inter s r := by
  apply List.ext_getElem?
  intro k
  by_cases hk : k < s.length
  · obtain ⟨i, hi, e⟩ := idx_onto s.length r k hr hk
    rw [← e, h i hi, inter_idx s r i hr hi]
  · rw [List.getElem?_eq_none (by omega), List.getElem?_eq_none (by rw [inter_length s r hr]; omega)]
theorem deinter_only (s t : List UInt8) (r : Nat) (hr : 0 < r) (hl : t.length = s.length) (h : ∀ i, i < s.length → t[i]? = s[idx s.length r i]?) : t = deinter s r := by
  apply List.ext_getElem?
  intro k
  by_cases hk : k < s.length
  · rw [h k hk, deinter_get s r k hr hk]
  · rw [List.getElem?_eq_none (by omega), List.getElem?_eq_none (by rw [deinter_length]; omega)]

theorem deinter_inter (s : List UInt8) (r : Nat) (hr : 0 < r) : deinter (inter s r) r = s := by
  have hl := inter_length s r hr
  refine (deinter_only (inter s r) s r hr hl.symm fun i hi => ?_).symm
  rw [hl] at hi ⊢
  exact (inter_idx s r i hr hi).symm
theorem inter_deinter (s : List UInt8) (r : Nat) (hr : 0 < r) : inter (deinter s r) r = s := by
  have hl := deinter_length s r
  refine (inter_only (deinter s r) s r hr hl.symm fun i hi => ?_).symm
  rw [hl] at hi ⊢
  exact (deinter_get s r i hr hi).symm

theorem idx_one (n i : Nat) : idx n 1 i = i := by simp [idx, Nat.mod_one]
theorem idx_wide (n r i : Nat) (h : n ≤ r) (hi : i < n) : idx n r i = i := by
  unfold idx
  rw [Nat.mod_eq_of_lt (by omega : i < r), Nat.div_eq_of_lt (by omega : i < r)]
  by_cases e : n = r
  · subst e
    rw [Nat.div_self (by omega), Nat.mod_self]
    omega
  · rw [Nat.div_eq_of_lt (by omega), Nat.mod_eq_of_lt (by omega)]
    omega
theorem inter_one (s : List UInt8) : inter s 1 = s :=
  (inter_only s s 1 (by omega) rfl fun i _ => by rw [idx_one]).symm
theorem inter_wide (s : List UInt8) (r : Nat) (hr : 0 < r) (h : s.length ≤ r) : inter s r = s :=
  (inter_only s s r hr rfl fun i hi => by rw [idx_wide _ r i h hi]).symm
theorem inter_map (s : List UInt8) (r : Nat) (hr : 0 < r) (f : UInt8 → UInt8) : inter (s.map f) r = (inter s r).map f := by
  refine (inter_only (s.map f) ((inter s r).map f) r hr (by simp [inter_length s r hr]) fun i hi => ?_).symm
  rw [List.length_map] at hi ⊢
  rw [List.getElem?_map, inter_idx s r i hr hi, List.getElem?_map]

theorem transpose (s : List UInt8) (w h : Nat) (hw : 0 < w) (hh : 0 < h) (hl : s.length = w * h) : deinter s w = inter s h := by
  refine inter_only s _ h hh (deinter_length s w) fun j hj => ?_
  have hlt := idx_lt s.length h j hh hj
  rw [deinter_get s w _ hw hlt]
  congr 1
  have e0 : idx s.length h j = j % h * w + j / h := by
    unfold idx
    rw [hl, Nat.mul_div_cancel _ hh, Nat.mul_mod_left]
    omega
  have hq : j / h < w := by
    rw [hl] at hj
    exact Nat.div_lt_of_lt_mul (by rw [Nat.mul_comm]; exact hj)
  rw [e0, idx_split _ w _ _ hq, start, hl, Nat.mul_div_cancel_left _ hw, Nat.mul_mod_right]
  have := Nat.div_add_mod j h
  rw [Nat.mul_comm] at this
  rw [Nat.min_zero]
  omega

theorem spread_lt (n r i j : Nat) (hr : 0 < r) (hp : i % r < j % r) (near : idx n r j + 1 < idx n r i + n / r ∨ idx n r j ≤ idx n r i) (hq : 1 < n / r) : j + r ≤ i := by
  have h1 : start n r (i % r) + (j % r - i % r) * (n / r) ≤ start n r (j % r) := by
    unfold start
    have : (i % r + (j % r - i % r)) * (n / r) = j % r * (n / r) := by congr 1; omega
    rw [Nat.add_mul] at this
    omega
  have h2 : 1 * (n / r) ≤ (j % r - i % r) * (n / r) := Nat.mul_le_mul_right _ (by omega)
  rw [idx_eq, idx_eq] at near
  have hge : j / r + 2 ≤ i / r := by omega
  have e1 := Nat.div_add_mod i r
  have e2 := Nat.div_add_mod j r
  have h3 : r * (j / r + 2) ≤ r * (i / r) := Nat.mul_le_mul_left r hge
  rw [Nat.mul_add] at h3
  have := Nat.mod_lt j hr
  omega

/-- Two positions whose indices are less than n / r - 1 apart are at least r apart. -/
theorem spread (n r i j : Nat) (hr : 0 < r) (hij : i ≠ j) (h1 : idx n r j + 1 < idx n r i + n / r) (h2 : idx n r i + 1 < idx n r j + n / r) : i + r ≤ j ∨ j + r ≤ i := by
  rcases Nat.lt_trichotomy (i % r) (j % r) with g | g | g
  · by_cases hq : 1 < n / r
    · exact .inr (spread_lt n r i j hr g (.inl h1) hq)
    · omega
  · have e1 := Nat.div_add_mod i r
    have e2 := Nat.div_add_mod j r
    rcases Nat.lt_trichotomy (i / r) (j / r) with k | k | k
    · have : r * (i / r + 1) ≤ r * (j / r) := Nat.mul_le_mul_left r k
      rw [Nat.mul_add] at this
      omega
    · rw [k, g] at e1
      omega
    · have : r * (j / r + 1) ≤ r * (i / r) := Nat.mul_le_mul_left r k
      rw [Nat.mul_add] at this
      omega
  · by_cases hq : 1 < n / r
    · exact .inl (spread_lt n r j i hr g (.inl h2) hq)
    · omega

end Go.Proofs.YtknppmfnmbkebaaDoor.It.Inter
