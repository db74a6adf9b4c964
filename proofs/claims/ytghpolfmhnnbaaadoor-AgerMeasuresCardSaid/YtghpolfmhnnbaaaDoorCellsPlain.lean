/-
  Plain mathematics of layer 1: cells. No program in sight.
-/
import Derived.Lib.SlTrimSet
namespace Go.Proofs.YtghpolfmhnnbaaaDoor.Cells

def isCell (c : UInt8) : Bool := c == 48 || c == 49 || c == 63
def ok (l : List UInt8) : Bool := l.all isCell
/-- What Check answers. -/
def err (l : List UInt8) : Int := if ok l then 0 else 3

theorem dropWhile_nil {α : Type} (p : α → Bool) (l : List α) : l.dropWhile p = [] ↔ l.all p = true := by
  induction l with
  | nil => simp
  | cons x l ih =>
    by_cases h : p x = true
    · simp [h, ih]
    · simp [h]
theorem dropWhile_head {α : Type} (p : α → Bool) (l : List α) (x : α) (r : List α) (h : l.dropWhile p = x :: r) : p x = false := by
  induction l with
  | nil => simp at h
  | cons y l ih =>
    by_cases hy : p y = true
    · rw [List.dropWhile_cons_of_pos hy] at h
      exact ih h
    · rw [List.dropWhile_cons_of_neg hy] at h
      injection h with h1 h2
      subst h1
      simpa using hy

/-- A string is trimmed to nothing if and only if all of its bytes are in the cutset. -/
theorem trim_nil (l cs : List UInt8) : Lib.trimS l cs = [] ↔ l.all (cs.contains ·) = true := by
  unfold Lib.trimS Lib.trimLeftS Lib.trimRightS
  rw [dropWhile_nil]
  constructor
  · intro h
    cases hr : l.reverse.dropWhile (cs.contains ·) with
    | nil =>
      have := (dropWhile_nil _ _).1 hr
      simpa using this
    | cons x r =>
      rw [hr] at h
      have hx := dropWhile_head _ _ _ _ hr
      rw [List.all_eq_true] at h
      have := h x (by simp)
      rw [this] at hx
      cases hx
  · intro h
    have : l.reverse.dropWhile (cs.contains ·) = [] := (dropWhile_nil _ _).2 (by simpa using h)
    rw [this]
    rfl

theorem contains_cell (c : UInt8) : [48, 49, 63].contains c = isCell c := by
  simp only [List.contains, List.elem, isCell]
  cases (c == 48) <;> cases (c == 49) <;> cases (c == 63) <;> rfl
theorem trim_ok (l : List UInt8) : Lib.trimS l [48, 49, 63] = [] ↔ ok l = true := by
  rw [trim_nil]
  unfold ok
  simp only [contains_cell]

/-! The cells of bytes. -/
def digit (n k : Nat) : UInt8 := UInt8.ofNat (48 + n / 2 ^ (7 - k) % 2)
def bits8 (n : Nat) : List UInt8 := (List.range 8).map (digit n)
def fromBytes (l : List UInt8) : List UInt8 := l.flatMap fun b => bits8 b.toNat

theorem bits8_length (n : Nat) : (bits8 n).length = 8 := by simp [bits8]
theorem fromBytes_length (l : List UInt8) : (fromBytes l).length = 8 * l.length := by
  induction l with
  | nil => rfl
  | cons x l ih =>
    simp only [fromBytes, List.flatMap_cons, List.length_append, bits8_length, List.length_cons] at ih ⊢
    omega
theorem fromBytes_append (a b : List UInt8) : fromBytes (a ++ b) = fromBytes a ++ fromBytes b := by simp [fromBytes]
theorem fromBytes_cons (x : UInt8) (a : List UInt8) : fromBytes (x :: a) = bits8 x.toNat ++ fromBytes a := by simp [fromBytes]
theorem fromBytes_snoc (a : List UInt8) (c : UInt8) : fromBytes (a ++ [c]) = fromBytes a ++ bits8 c.toNat := by simp [fromBytes]

theorem digit_cases (n k : Nat) : digit n k = 48 ∨ digit n k = 49 := by
  unfold digit
  have : n / 2 ^ (7 - k) % 2 = 0 ∨ n / 2 ^ (7 - k) % 2 = 1 := by omega
  rcases this with h | h <;> rw [h]
  · exact .inl rfl
  · exact .inr rfl
theorem bits8_cases (n : Nat) : ∀ c ∈ bits8 n, c = 48 ∨ c = 49 := by
  intro c hc
  obtain ⟨k, _, rfl⟩ := List.mem_map.1 hc
  exact digit_cases n k
theorem fromBytes_cases (l : List UInt8) : ∀ c ∈ fromBytes l, c = 48 ∨ c = 49 := by
  intro c hc
  obtain ⟨b, _, h⟩ := List.mem_flatMap.1 hc
  exact bits8_cases _ c h
theorem fromBytes_ok (l : List UInt8) : ok (fromBytes l) = true := by
  unfold ok
  rw [List.all_eq_true]
  intro c hc
  rcases fromBytes_cases l c hc with rfl | rfl <;> rfl

/-! The bytes of cells. -/
def val (l : List UInt8) : Nat := l.foldl (fun n c => 2 * n + if c = 49 then 1 else 0) 0
def chunk (l : List UInt8) (i : Nat) : List UInt8 := (l.drop (8 * i)).take 8
def toBytes (l : List UInt8) : List UInt8 := (List.range (l.length / 8)).map fun i => UInt8.ofNat (val (chunk l i))
def bad (l : List UInt8) : List Nat := (List.range (l.length / 8)).filter fun i => (chunk l i).contains 63

theorem val_nil : val [] = 0 := rfl
theorem val_snoc (l : List UInt8) (c : UInt8) : val (l ++ [c]) = 2 * val l + if c = 49 then 1 else 0 := by simp [val]
theorem val_lt (l : List UInt8) : val l < 2 ^ l.length := by
  have : ∀ (l : List UInt8) (n k : Nat), n < 2 ^ k → l.foldl (fun n c => 2 * n + if c = 49 then 1 else 0) n < 2 ^ (k + l.length) := by
    intro l
    induction l with
    | nil => intro n k h; simpa using h
    | cons x l ih =>
      intro n k h
      have := ih (2 * n + if x = 49 then 1 else 0) (k + 1) (by rw [Nat.pow_succ]; split <;> omega)
      rw [List.foldl_cons, List.length_cons]
      rw [show k + (l.length + 1) = k + 1 + l.length by omega]
      exact this
  simpa [val] using this l 0 0 (by simp)
theorem chunk_length (l : List UInt8) (i : Nat) (h : i < l.length / 8) : (chunk l i).length = 8 := by
  simp only [chunk, List.length_take, List.length_drop]
  omega
theorem val_chunk_lt (l : List UInt8) (i : Nat) : val (chunk l i) < 256 := by
  have h := val_lt (chunk l i)
  have h2 : (chunk l i).length ≤ 8 := by simp only [chunk, List.length_take]; omega
  exact Nat.lt_of_lt_of_le h (Nat.pow_le_pow_right (by omega) h2)

theorem val_bits8 : ∀ b : UInt8, val (bits8 b.toNat) = b.toNat := by
  have h : ∀ n : Fin 256, val (bits8 n.val) = n.val := by decide +kernel
  intro b
  exact h ⟨b.toNat, UInt8.toNat_lt b⟩

theorem fromBytes_chunk (l : List UInt8) (i : Nat) (h : i < l.length) : chunk (fromBytes l) i = bits8 (l[i]).toNat := by
  have e : l = l.take i ++ (l[i] :: l.drop (i + 1)) := by
    rw [← List.drop_eq_getElem_cons h, List.take_append_drop]
  have h1 : (fromBytes (l.take i)).length = 8 * i := by
    rw [fromBytes_length, List.length_take]
    omega
  have e2 : fromBytes l = fromBytes (l.take i) ++ (bits8 (l[i]).toNat ++ fromBytes (l.drop (i + 1))) := by
    conv => lhs; rw [e]
    rw [fromBytes_append, fromBytes_cons]
  unfold chunk
  rw [e2, List.drop_append_of_le_length (by omega), ← h1, List.drop_length, List.nil_append, List.take_append_of_le_length (by rw [bits8_length]; omega), List.take_of_length_le (by rw [bits8_length]; omega)]

theorem to_from (l : List UInt8) : toBytes (fromBytes l) = l := by
  apply List.ext_getElem
  · simp only [toBytes, List.length_map, List.length_range, fromBytes_length]
    omega
  · intro i h1 h2
    simp only [toBytes, List.getElem_map, List.getElem_range, fromBytes_chunk l i h2, val_bits8]
    simp
theorem bad_from (l : List UInt8) : bad (fromBytes l) = [] := by
  unfold bad
  rw [List.filter_eq_nil_iff]
  intro i hi
  rw [List.mem_range, fromBytes_length] at hi
  rw [fromBytes_chunk l i (by omega)]
  intro hc
  have := bits8_cases _ 63 (by simpa using hc)
  rcases this with h | h <;> cases h

/-! Distance, unreadable cells, inversion. -/
def differ (x y : UInt8) : Bool := x != y && x != 63 && y != 63
def dist (a b : List UInt8) : Nat := ((a.zip b).filter fun p => differ p.1 p.2).length
def unread (l : List UInt8) : Nat := l.count 63
def inv (c : UInt8) : UInt8 := if c = 48 then 49 else if c = 49 then 48 else c
def invert (l : List UInt8) : List UInt8 := l.map inv

theorem inv_inv (c : UInt8) : inv (inv c) = c := by
  unfold inv
  by_cases h : c = 48
  · subst h; rfl
  · rw [if_neg h]
    by_cases h' : c = 49
    · subst h'; rfl
    · rw [if_neg h', if_neg h, if_neg h']
theorem invert_invert (l : List UInt8) : invert (invert l) = l := by
  unfold invert
  rw [List.map_map]
  conv => rhs; rw [← List.map_id l]
  refine List.map_congr_left fun c _ => inv_inv c
theorem invert_length (l : List UInt8) : (invert l).length = l.length := by simp [invert]
theorem inv_open (c : UInt8) : inv c = 63 ↔ c = 63 := by
  constructor
  · intro h
    have := congrArg inv h
    rw [inv_inv] at this
    rw [this]
    rfl
  · intro h
    rw [h]
    rfl
theorem isCell_inv (c : UInt8) : isCell (inv c) = isCell c := by
  unfold inv
  by_cases h : c = 48
  · subst h; rfl
  · rw [if_neg h]
    by_cases h' : c = 49
    · subst h'; rfl
    · rw [if_neg h']
theorem ok_invert (l : List UInt8) : ok (invert l) = ok l := by
  unfold ok invert
  rw [List.all_map]
  congr 1
  funext c
  exact isCell_inv c
theorem unread_invert (l : List UInt8) : unread (invert l) = unread l := by
  unfold unread invert
  rw [List.count_eq_countP, List.count_eq_countP, List.countP_map]
  congr 1
  funext c
  simp only [Function.comp]
  rw [Bool.eq_iff_iff]
  simp [inv_open]

theorem dist_nil (b : List UInt8) : dist [] b = 0 := rfl
theorem dist_cons (x y : UInt8) (a b : List UInt8) : dist (x :: a) (y :: b) = (if differ x y then 1 else 0) + dist a b := by
  unfold dist
  rw [List.zip_cons_cons, List.filter_cons]
  by_cases h : differ x y = true
  · simp [h]; omega
  · simp [h]
theorem dist_take_succ (a b : List UInt8) (k : Nat) (ha : k < a.length) (hb : k < b.length) : dist (a.take (k + 1)) (b.take (k + 1)) = dist (a.take k) (b.take k) + if differ a[k] b[k] then 1 else 0 := by
  have h : (a.take (k + 1)).zip (b.take (k + 1)) = (a.take k).zip (b.take k) ++ [(a[k], b[k])] := by
    rw [List.take_succ_eq_append_getElem ha, List.take_succ_eq_append_getElem hb, List.zip_append (by simp; omega)]
    rfl
  unfold dist
  rw [h, List.filter_append, List.length_append]
  by_cases hd : differ a[k] b[k] = true
  · simp [hd]
  · simp [hd]
theorem dist_le (a b : List UInt8) : dist a b ≤ a.length := by
  unfold dist
  refine Nat.le_trans (List.length_filter_le _ _) ?_
  rw [List.length_zip]
  omega
theorem unread_le (a : List UInt8) : unread a ≤ a.length := List.count_le_length

/-! The metric. -/
theorem differ_comm (x y : UInt8) : differ x y = differ y x := by
  unfold differ
  rw [Bool.eq_iff_iff]
  simp only [Bool.and_eq_true, bne_iff_ne, ne_eq]
  constructor
  · rintro ⟨⟨h1, h2⟩, h3⟩; exact ⟨⟨fun h => h1 h.symm, h3⟩, h2⟩
  · rintro ⟨⟨h1, h2⟩, h3⟩; exact ⟨⟨fun h => h1 h.symm, h3⟩, h2⟩
theorem dist_comm (a b : List UInt8) : dist a b = dist b a := by
  induction a generalizing b with
  | nil => cases b <;> rfl
  | cons x a ih =>
    cases b with
    | nil => rfl
    | cons y b => rw [dist_cons, dist_cons, ih, differ_comm]
theorem dist_self (a : List UInt8) : dist a a = 0 := by
  induction a with
  | nil => rfl
  | cons x a ih => rw [dist_cons, ih]; simp [differ]
theorem differ_readable (x y : UInt8) (hx : x ≠ 63) (hy : y ≠ 63) : differ x y = (x != y) := by
  unfold differ
  rw [bne_iff_ne.2 hx, bne_iff_ne.2 hy, Bool.and_true, Bool.and_true]
theorem eq_of_dist (a b : List UInt8) (hl : a.length = b.length) (ha : ∀ c ∈ a, c ≠ 63) (hb : ∀ c ∈ b, c ≠ 63) (h : dist a b = 0) : a = b := by
  induction a generalizing b with
  | nil => cases b with
    | nil => rfl
    | cons y b => simp at hl
  | cons x a ih =>
    cases b with
    | nil => simp at hl
    | cons y b =>
      rw [dist_cons, differ_readable x y (ha x (by simp)) (hb y (by simp))] at h
      by_cases e : x = y
      · subst e
        rw [ih b (by simpa using hl) (fun c hc => ha c (by simp [hc])) (fun c hc => hb c (by simp [hc])) (by omega)]
      · simp [e] at h
theorem dist_tri (a b c : List UInt8) (hl : a.length = b.length) (hl2 : a.length = c.length) (hb : ∀ x ∈ b, x ≠ 63) : dist a c ≤ dist a b + dist b c := by
  induction a generalizing b c with
  | nil => simp [dist_nil]
  | cons x a ih =>
    cases b with
    | nil => simp at hl
    | cons y b =>
      cases c with
      | nil => simp at hl2
      | cons z c =>
        rw [dist_cons, dist_cons, dist_cons]
        have h1 := ih b c (by simpa using hl) (by simpa using hl2) (fun x hx => hb x (by simp [hx]))
        have hy : y ≠ 63 := hb y (by simp)
        have h2 : (if differ x z then 1 else 0) ≤ (if differ x y then 1 else 0) + (if differ y z then 1 else 0) := by
          by_cases e : differ x z = true
          · rw [if_pos e]
            unfold differ at e ⊢
            simp only [Bool.and_eq_true, bne_iff_ne, ne_eq] at e ⊢
            by_cases e1 : x = y
            · subst e1
              rw [if_pos e]
              split <;> omega
            · rw [if_pos ⟨⟨e1, e.1.2⟩, hy⟩]
              omega
          · rw [if_neg e]
            omega
        omega
theorem differ_inv (x y : UInt8) : differ (inv x) (inv y) = differ x y := by
  unfold differ
  rw [Bool.eq_iff_iff]
  simp only [Bool.and_eq_true, bne_iff_ne, ne_eq, inv_open]
  constructor
  · rintro ⟨⟨h1, h2⟩, h3⟩; exact ⟨⟨fun h => h1 (by rw [h]), h2⟩, h3⟩
  · rintro ⟨⟨h1, h2⟩, h3⟩; exact ⟨⟨fun h => h1 (by rw [← inv_inv x, h, inv_inv]), h2⟩, h3⟩
theorem dist_invert (a b : List UInt8) : dist (invert a) (invert b) = dist a b := by
  induction a generalizing b with
  | nil => rfl
  | cons x a ih =>
    cases b with
    | nil => rfl
    | cons y b =>
      have := ih b
      simp only [invert, List.map_cons] at this ⊢
      rw [dist_cons, dist_cons, differ_inv, this]
theorem dist_invert_self (a : List UInt8) (hk : ok a = true) (h : ∀ c ∈ a, c ≠ 63) : dist a (invert a) = a.length := by
  induction a with
  | nil => rfl
  | cons x a ih =>
    have hk' : isCell x = true ∧ ok a = true := by simpa [ok] using hk
    have h1 := ih hk'.2 (fun c hc => h c (by simp [hc]))
    have hx := h x (by simp)
    have hx2 : x = 48 ∨ x = 49 := by
      have := hk'.1
      simp only [isCell, Bool.or_eq_true, beq_iff_eq] at this
      rcases this with (h | h) | h
      · exact .inl h
      · exact .inr h
      · exact absurd h hx
    simp only [invert, List.map_cons] at h1 ⊢
    rw [dist_cons, h1, List.length_cons]
    rcases hx2 with rfl | rfl
    · have : differ 48 (inv 48) = true := rfl
      rw [if_pos this]; omega
    · have : differ 49 (inv 49) = true := rfl
      rw [if_pos this]; omega

/-! The number of different bits. -/
def ones (n : Nat) : Nat := ((List.range 8).filter fun k => n / 2 ^ k % 2 == 1).length
def ham (a b : List UInt8) : Nat := ((a.zip b).map fun p => ones (p.1 ^^^ p.2).toNat).sum

theorem dist_append (a b c d : List UInt8) (h : a.length = c.length) : dist (a ++ b) (c ++ d) = dist a c + dist b d := by
  unfold dist
  rw [List.zip_append h, List.filter_append, List.length_append]
theorem bit_xor (x y j : Nat) : ((x ^^^ y) / 2 ^ j % 2 == 1) = ((x / 2 ^ j % 2 == 1) != (y / 2 ^ j % 2 == 1)) := by
  have h := Nat.testBit_xor x y j
  rw [Nat.testBit_eq_decide_div_mod_eq, Nat.testBit_eq_decide_div_mod_eq, Nat.testBit_eq_decide_div_mod_eq] at h
  have e : ∀ n : Nat, (n == 1) = decide (n = 1) := fun n => by
    rw [Bool.eq_iff_iff]
    simp
  rw [e, e, e, h]
theorem differ_digit (x y k : Nat) : differ (digit x k) (digit y k) = ((x ^^^ y) / 2 ^ (7 - k) % 2 == 1) := by
  rw [bit_xor]
  unfold digit
  have hx : x / 2 ^ (7 - k) % 2 = 0 ∨ x / 2 ^ (7 - k) % 2 = 1 := by omega
  have hy : y / 2 ^ (7 - k) % 2 = 0 ∨ y / 2 ^ (7 - k) % 2 = 1 := by omega
  rcases hx with h | h <;> rcases hy with g | g <;> rw [h, g] <;> rfl
theorem range8 : List.range 8 = [0, 1, 2, 3, 4, 5, 6, 7] := by decide
theorem dist_bits8 (x y : UInt8) : dist (bits8 x.toNat) (bits8 y.toNat) = ones (x ^^^ y).toNat := by
  rw [UInt8.toNat_xor]
  unfold bits8 ones
  rw [← List.countP_eq_length_filter, range8]
  simp only [List.map_cons, List.map_nil, dist_cons, dist_nil, differ_digit, List.countP_cons, List.countP_nil]
  simp only [Nat.sub_zero, Nat.reduceSub]
  omega
theorem dist_from (a b : List UInt8) : dist (fromBytes a) (fromBytes b) = ham a b := by
  induction a generalizing b with
  | nil => rfl
  | cons x a ih =>
    cases b with
    | nil =>
      have : fromBytes [] = [] := rfl
      rw [this, dist_comm]
      simp [dist_nil, ham]
    | cons y b =>
      have e : ∀ (x : UInt8) (a : List UInt8), fromBytes (x :: a) = bits8 x.toNat ++ fromBytes a := fun x a => by simp [fromBytes]
      rw [e, e, dist_append _ _ _ _ (by rw [bits8_length, bits8_length]), ih, dist_bits8]
      simp [ham]
theorem ham_take_succ (a b : List UInt8) (k : Nat) (ha : k < a.length) (hb : k < b.length) : ham (a.take (k + 1)) (b.take (k + 1)) = ham (a.take k) (b.take k) + ones (a[k] ^^^ b[k]).toNat := by
  have h : (a.take (k + 1)).zip (b.take (k + 1)) = (a.take k).zip (b.take k) ++ [(a[k], b[k])] := by
    rw [List.take_succ_eq_append_getElem ha, List.take_succ_eq_append_getElem hb, List.zip_append (by simp; omega)]
    rfl
  unfold ham
  rw [h, List.map_append, List.sum_append]
  simp
/-- Striking the lowest bit. -/
theorem ones_step : ∀ n, n < 256 → 0 < n → ones (n &&& (n - 1)) + 1 = ones n ∧ n &&& (n - 1) < n := by
  have h : ∀ n : Fin 256, 0 < n.val → ones (n.val &&& (n.val - 1)) + 1 = ones n.val ∧ n.val &&& (n.val - 1) < n.val := by decide +kernel
  intro n hn
  exact h ⟨n, hn⟩
theorem ones_zero : ones 0 = 0 := by decide
theorem ones_le (n : Nat) : ones n ≤ 8 := by
  unfold ones
  exact Nat.le_trans (List.length_filter_le _ _) (by simp)
theorem invert_bits8 (x : UInt8) : bits8 (x ^^^ 255).toNat = invert (bits8 x.toNat) := by
  have h : ∀ a : Fin 256, bits8 (a.val ^^^ 255) = invert (bits8 a.val) := by decide +kernel
  rw [UInt8.toNat_xor]
  exact h ⟨x.toNat, UInt8.toNat_lt x⟩
theorem invert_from (a : List UInt8) : fromBytes (a.map (· ^^^ 255)) = invert (fromBytes a) := by
  induction a with
  | nil => rfl
  | cons x a ih =>
    have e : ∀ (x : UInt8) (a : List UInt8), fromBytes (x :: a) = bits8 x.toNat ++ fromBytes a := fun x a => by simp [fromBytes]
    rw [List.map_cons, e, e, ih, invert_bits8]
    simp [invert]

end Go.Proofs.YtghpolfmhnnbaaaDoor.Cells
