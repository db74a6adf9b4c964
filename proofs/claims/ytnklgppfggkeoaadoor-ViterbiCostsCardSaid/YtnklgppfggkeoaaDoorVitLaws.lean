/-
  The laws of layer 10 on lists.
-/
import Derived.Test.YtnklgppfggkeoaaDoorVitPlain
import Derived.Test.YtnklgppfggkeoaaDoorConvExtP
import Derived.Test.YtnklgppfggkeoaaDoorCellsPlain
namespace Go.Proofs.YtnklgppfggkeoaaDoor.Vit

theorem after_two (p q u v : Bool) (l : List Bool) : Conv.after p q (l ++ [u, v]) = (v, u) := by
  rw [Conv.after_append]
  rfl
theorem fin_tail {p q : Bool} {l : List Bool} (h2 : 2 ≤ l.length) (h : Fin p q l) : l = l.take (l.length - 2) ++ [false, false] := by
  have e : l = l.take (l.length - 2) ++ l.drop (l.length - 2) := (List.take_append_drop _ _).symm
  have hl : (l.drop (l.length - 2)).length = 2 := by rw [List.length_drop]; omega
  match hd : l.drop (l.length - 2), hl with
  | [u, v], _ =>
    rw [hd] at e
    unfold Fin at h
    rw [e, after_two] at h
    injection h with h1 h2
    subst h1
    subst h2
    exact e
theorem path_take : ∀ (n k : Nat) (c : List UInt8) (p q : Bool), c.length = 2 * n → k ≤ n → path p q c k = (path p q c n).take k := by
  intro n
  induction n with
  | zero =>
    intro k c p q hc hk
    obtain rfl : k = 0 := by omega
    obtain rfl : c = [] := List.eq_nil_of_length_eq_zero (by omega)
    rfl
  | succ n ih =>
    intro k c p q hc hk
    match c, hc with
    | x :: y :: r, hc =>
      cases k with
      | zero => rfl
      | succ k =>
        rw [path, path, List.take_succ_cons, ih k r _ _ (by simp at hc; omega) (by omega)]
    | [_], hc => simp at hc; omega
    | [], hc => simp at hc
theorem mis1_differ (x : UInt8) (o : Bool) : ((if Cells.differ (Conv.ch o) x = true then 1 else 0 : Nat) : Int) = mis1 x o := by
  have h63 : (Conv.ch o != 63) = true := by cases o <;> rfl
  unfold Cells.differ mis1
  rw [h63, Bool.and_true]
  by_cases h1 : x = 63
  · subst h1
    simp
  · by_cases h2 : x = Conv.ch o
    · subst h2
      simp
    · have e1 : (Conv.ch o != x) = true := by rw [bne_iff_ne]; exact fun e => h2 e.symm
      have e2 : (x != 63) = true := by rw [bne_iff_ne]; exact h1
      rw [if_pos (show x ≠ 63 ∧ x ≠ Conv.ch o from ⟨h1, h2⟩), if_pos (by rw [e1, e2]; rfl)]
      rfl
theorem dist_D : ∀ (l : List Bool) (c : List UInt8) (p q : Bool), c.length = 2 * l.length → (Cells.dist (Conv.flat (Conv.outs p q l)) c : Int) = D p q c l := by
  intro l
  induction l with
  | nil =>
    intro c p q hc
    obtain rfl : c = [] := List.eq_nil_of_length_eq_zero (by simpa using hc)
    rfl
  | cons u l ih =>
    intro c p q hc
    match c, hc with
    | x :: y :: r, hc =>
      have h := ih r u p (by simp at hc; omega)
      rw [Conv.outs, Conv.flat_cons, Cells.dist_cons, Cells.dist_cons, D_cons, ← h]
      unfold mis
      rw [← mis1_differ, ← mis1_differ]
      simp only
      omega
    | [_], hc => simp at hc; omega
    | [], hc => simp at hc

/-- The decoded bits as a string. -/
def bits (c : List UInt8) : List UInt8 := (path false false c (c.length / 2 - 2)).map Conv.ch
def cost (c : List UInt8) : Int := (dp c).a.1
def paths (c : List UInt8) : Int := (dp c).a.2
theorem code_map (b : List Bool) : Conv.code (b.map Conv.ch) = Conv.flat (Conv.outs false false (b ++ [false, false])) := by
  unfold Conv.code
  rw [Conv.bitsOf_map]
theorem fin_code (b : List Bool) : Fin false false (b ++ [false, false]) := after_two _ _ _ _ _
theorem fin_zeros (n : Nat) : Fin false false (List.replicate n false) := by
  induction n with
  | zero => rfl
  | succ n ih => exact ih
theorem main (c : List UInt8) (n : Nat) (hc : c.length = 2 * n) (hn : 2 ≤ n) :
    0 ≤ cost c ∧ cost c ≤ 2 * n ∧ (bits c).length = n - 2 ∧ (Cells.dist (Conv.code (bits c)) c : Int) = cost c ∧
    path false false c n = path false false c (n - 2) ++ [false, false] ∧
    (∀ b : List Bool, b.length = n - 2 → b ≠ path false false c (n - 2) → cost c < (Cells.dist (Conv.code (b.map Conv.ch)) c : Int) ∨ ((Cells.dist (Conv.code (b.map Conv.ch)) c : Int) = cost c ∧ paths c = 2 ∧ lt (path false false c (n - 2) ++ [false, false]) (b ++ [false, false]))) ∧
    (paths c = 1 ∨ (paths c = 2 ∧ ∃ b : List Bool, b.length = n - 2 ∧ b ≠ path false false c (n - 2) ∧ (Cells.dist (Conv.code (b.map Conv.ch)) c : Int) = cost c)) := by
  have h := best n c false false hc
  have hn2 : c.length / 2 - 2 = n - 2 := by omega
  rcases h with ⟨_, h⟩ | ⟨h1, h2, h3, h4, h5, h6, h7⟩
  · exact absurd (fin_zeros n) (h _ (by simp))
  · have hsp : path false false c n = path false false c (n - 2) ++ [false, false] := by
      have e := fin_tail (by rw [h3]; exact hn) h4
      rw [h3, ← path_take n (n - 2) c false false hc (by omega)] at e
      exact e
    have hlen : (path false false c (n - 2)).length = n - 2 := by
      have e := congrArg List.length hsp
      rw [h3, List.length_append] at e
      simp at e
      clear h6 h7
      omega
    refine ⟨h1, h2, by rw [bits, hn2, List.length_map, hlen], ?_, hsp, ?_, ?_⟩
    · rw [bits, hn2, code_map, ← hsp, dist_D _ _ _ _ (by rw [h3, hc]), h5]
      rfl
    · intro b hb hne
      rw [code_map, dist_D _ _ _ _ (by clear h6 h7; rw [List.length_append, hb, hc]; simp; omega)]
      have hl : (b ++ [false, false]).length = n := by clear h6 h7; rw [List.length_append, hb]; simp; omega
      rw [hsp] at h6
      exact h6 (b ++ [false, false]) hl (fin_code b) (fun e => hne (List.append_cancel_right e))
    · rcases h7 with h | ⟨h, l, hl, hf, hne, hd⟩
      · exact .inl h
      · have e := fin_tail (by rw [hl]; exact hn) hf
        rw [hl] at e
        refine .inr ⟨h, l.take (n - 2), by clear h6; rw [List.length_take, hl]; omega, fun e2 => hne ?_, ?_⟩
        · rw [e, hsp, e2]
        · rw [code_map, ← e, dist_D _ _ _ _ (by rw [hl, hc]), hd]
          rfl
theorem ok_bits (c : List UInt8) : Conv.ok (bits c) = true := Conv.ok_map _
/-- One string that is nearer than all others. -/
theorem unique (c : List UInt8) (n : Nat) (hc : c.length = 2 * n) (hn : 2 ≤ n) (r0 : List UInt8) (h0 : r0.length = n - 2) (hk : Conv.ok r0 = true)
    (hfar : ∀ r, Conv.ok r = true → r.length = n - 2 → r ≠ r0 → Cells.dist (Conv.code r0) c < Cells.dist (Conv.code r) c) :
    bits c = r0 ∧ cost c = Cells.dist (Conv.code r0) c ∧ paths c = 1 := by
  have hn2 : c.length / 2 - 2 = n - 2 := by omega
  obtain ⟨m1, m2, m3, m4, m5, m6, m7⟩ := main c n hc hn
  have e0 : (Conv.bitsOf r0).map Conv.ch = r0 := by
    unfold Conv.ok at hk
    rw [List.all_eq_true] at hk
    unfold Conv.bitsOf
    rw [List.map_map]
    exact (List.map_congr_left fun c hc => Conv.ch_tb (hk c hc)).trans (List.map_id r0)
  have hb : bits c = r0 := by
    apply Classical.byContradiction
    intro hne
    have h1 := hfar (bits c) (ok_bits c) m3 hne
    have h2 := m6 (Conv.bitsOf r0) (by simp [Conv.bitsOf, h0]) (fun e => hne (by rw [bits, hn2, ← e, e0]))
    rw [e0] at h2
    clear m6 m7
    rcases h2 with h | ⟨h, _⟩ <;> omega
  refine ⟨hb, by rw [← hb]; exact m4.symm, ?_⟩
  rcases m7 with h | ⟨_, b, hbl, hbn, hbd⟩
  · exact h
  · exfalso
    have h1 := hfar (b.map Conv.ch) (Conv.ok_map b) (by rw [List.length_map, hbl]) (fun e => hbn (by
      have e2 := congrArg Conv.bitsOf (e.trans hb.symm)
      rw [Conv.bitsOf_map, bits, Conv.bitsOf_map, hn2] at e2
      exact e2))
    rw [← hb] at h1
    clear m6
    omega
/-- How a change of one cell acts. -/
theorem dist_set (a c : List UInt8) (i : Nat) (x : UInt8) : Cells.dist a (c.set i x) ≤ Cells.dist a c + 1 ∧ Cells.dist a c ≤ Cells.dist a (c.set i x) + 1 := by
  induction a generalizing c i with
  | nil => exact ⟨by simp [Cells.dist_nil], by simp [Cells.dist_nil]⟩
  | cons y a ih =>
    cases c with
    | nil => simp [Cells.dist]
    | cons z c =>
      cases i with
      | zero =>
        rw [List.set_cons_zero, Cells.dist_cons, Cells.dist_cons]
        split <;> split <;> omega
      | succ i =>
        have h := ih c i
        rw [List.set_cons_succ, Cells.dist_cons, Cells.dist_cons]
        split <;> omega
theorem dist_open (a c : List UInt8) (i : Nat) : Cells.dist a (c.set i 63) ≤ Cells.dist a c := by
  induction a generalizing c i with
  | nil => simp [Cells.dist_nil]
  | cons y a ih =>
    cases c with
    | nil => simp [Cells.dist]
    | cons z c =>
      cases i with
      | zero =>
        have e : Cells.differ y 63 = false := by simp [Cells.differ]
        rw [List.set_cons_zero, Cells.dist_cons, Cells.dist_cons, if_neg (by rw [e]; decide)]
        omega
      | succ i =>
        have h := ih c i
        rw [List.set_cons_succ, Cells.dist_cons, Cells.dist_cons]
        omega
/-- An inverted cell of a word of bits. -/
theorem dist_inv (a c : List UInt8) (i : Nat) (hi : i < a.length) (hc : c[i]? = a[i]?) (hk : Conv.ok a = true) : Cells.dist a (c.set i (Cells.inv a[i])) = Cells.dist a c + 1 := by
  induction a generalizing c i with
  | nil => simp at hi
  | cons y a ih =>
    have hk' : Conv.isBit y = true ∧ Conv.ok a = true := by
      have := hk
      simpa only [Conv.ok, List.all_cons, Bool.and_eq_true] using this
    cases c with
    | nil =>
      rw [List.getElem?_eq_getElem hi] at hc
      cases hc
    | cons z c =>
      cases i with
      | zero =>
        simp at hc
        subst hc
        have e1 : Cells.differ z z = false := by simp [Cells.differ]
        have e2 : Cells.differ z (Cells.inv z) = true := by
          rw [← Conv.ch_tb hk'.1]
          cases Conv.tb z <;> decide
        show Cells.dist (z :: a) ((z :: c).set 0 (Cells.inv z)) = Cells.dist (z :: a) (z :: c) + 1
        rw [List.set_cons_zero, Cells.dist_cons, Cells.dist_cons, if_pos e2, if_neg (by rw [e1]; decide)]
        omega
      | succ i =>
        have h := ih c i (by simpa using hi) (by simpa using hc) hk'.2
        show Cells.dist (y :: a) ((z :: c).set (i + 1) (Cells.inv (a[i]'(by simpa using hi)))) = Cells.dist (y :: a) (z :: c) + 1
        rw [List.set_cons_succ, Cells.dist_cons, Cells.dist_cons, h]
        omega
theorem dist_diff (a b : List UInt8) (ha : Conv.ok a = true) (hb : Conv.ok b = true) : Cells.dist a b = Conv.diff a b := by
  have no : ∀ l, Conv.ok l = true → ∀ c ∈ l, c ≠ 63 := fun l hl c hc e => by
    unfold Conv.ok at hl
    rw [List.all_eq_true] at hl
    have := hl c hc
    subst e
    cases this
  induction a generalizing b with
  | nil => rfl
  | cons x a ih =>
    cases b with
    | nil => rfl
    | cons y b =>
      have ha' : Conv.isBit x = true ∧ Conv.ok a = true := by simpa only [Conv.ok, List.all_cons, Bool.and_eq_true] using ha
      have hb' : Conv.isBit y = true ∧ Conv.ok b = true := by simpa only [Conv.ok, List.all_cons, Bool.and_eq_true] using hb
      have hx : x ≠ 63 := no _ ha x (by simp)
      have hy : y ≠ 63 := no _ hb y (by simp)
      have e : Cells.differ x y = (x != y) := by
        unfold Cells.differ
        rw [show (x != 63) = true by rw [bne_iff_ne]; exact hx, show (y != 63) = true by rw [bne_iff_ne]; exact hy, Bool.and_true, Bool.and_true]
      rw [Cells.dist_cons, Conv.diff_cons, ih b ha'.2 hb'.2, e]
theorem far (a b : List UInt8) (hl : a.length = b.length) (ha : Conv.ok a = true) (hb : Conv.ok b = true) (hne : a ≠ b) : 5 ≤ Cells.dist (Conv.code a) (Conv.code b) := by
  rw [dist_diff _ _ (Conv.ok_code a) (Conv.ok_code b)]
  exact Conv.free a b hl ha hb hne
/-- A word that is near to a code word: d of its cells are changed, and its distance from the code word is e. -/
theorem near (r0 c : List UInt8) (d : Nat) (hk : Conv.ok r0 = true) (hc : c.length = 2 * r0.length + 4) (hd : ∀ a, Cells.dist a (Conv.code r0) ≤ Cells.dist a c + d) (h5 : Cells.dist (Conv.code r0) c + d < 5) :
    bits c = r0 ∧ cost c = Cells.dist (Conv.code r0) c ∧ paths c = 1 := by
  refine unique c (r0.length + 2) (by omega) (by omega) r0 (by omega) hk fun r hr hl hne => ?_
  have h1 := far r r0 (by omega) hr hk hne
  have h2 := hd (Conv.code r)
  omega
theorem code_word (r0 : List UInt8) (hk : Conv.ok r0 = true) : bits (Conv.code r0) = r0 ∧ cost (Conv.code r0) = 0 ∧ paths (Conv.code r0) = 1 := by
  have h := near r0 (Conv.code r0) 0 hk (Conv.code_length r0) (fun a => Nat.le_refl _) (by rw [Cells.dist_self]; omega)
  rw [Cells.dist_self] at h
  exact h
theorem inverted (r0 : List UInt8) (hk : Conv.ok r0 = true) (i : Nat) (hi : i < (Conv.code r0).length) :
    bits ((Conv.code r0).set i (Cells.inv (Conv.code r0)[i])) = r0 ∧ cost ((Conv.code r0).set i (Cells.inv (Conv.code r0)[i])) = 1 ∧ paths ((Conv.code r0).set i (Cells.inv (Conv.code r0)[i])) = 1 := by
  have h1 := dist_inv (Conv.code r0) (Conv.code r0) i hi rfl (Conv.ok_code r0)
  rw [Cells.dist_self] at h1
  have h := near r0 ((Conv.code r0).set i (Cells.inv (Conv.code r0)[i])) 1 hk (by rw [List.length_set, Conv.code_length]) (fun a => (dist_set a _ i _).2) (by omega)
  rw [h1] at h
  exact h
theorem inverted2 (r0 : List UInt8) (hk : Conv.ok r0 = true) (i k : Nat) (hi : i < (Conv.code r0).length) (hk2 : k < (Conv.code r0).length) (hne : i ≠ k) :
    bits (((Conv.code r0).set i (Cells.inv (Conv.code r0)[i])).set k (Cells.inv (Conv.code r0)[k])) = r0 ∧ cost (((Conv.code r0).set i (Cells.inv (Conv.code r0)[i])).set k (Cells.inv (Conv.code r0)[k])) = 2 ∧ paths (((Conv.code r0).set i (Cells.inv (Conv.code r0)[i])).set k (Cells.inv (Conv.code r0)[k])) = 1 := by
  have h1 := dist_inv (Conv.code r0) (Conv.code r0) i hi rfl (Conv.ok_code r0)
  rw [Cells.dist_self] at h1
  have h2 := dist_inv (Conv.code r0) ((Conv.code r0).set i (Cells.inv (Conv.code r0)[i])) k hk2 (by rw [List.getElem?_set, if_neg hne]) (Conv.ok_code r0)
  rw [h1] at h2
  have h := near r0 (((Conv.code r0).set i (Cells.inv (Conv.code r0)[i])).set k (Cells.inv (Conv.code r0)[k])) 2 hk (by rw [List.length_set, List.length_set, Conv.code_length])
    (fun a => by
      have e1 := (dist_set a (Conv.code r0) i (Cells.inv (Conv.code r0)[i])).2
      have e2 := (dist_set a ((Conv.code r0).set i (Cells.inv (Conv.code r0)[i])) k (Cells.inv (Conv.code r0)[k])).2
      omega) (by omega)
  rw [h2] at h
  exact h
theorem erased (r0 : List UInt8) (hk : Conv.ok r0 = true) (i j k l : Nat) :
    bits (((((Conv.code r0).set i 63).set j 63).set k 63).set l 63) = r0 ∧ cost (((((Conv.code r0).set i 63).set j 63).set k 63).set l 63) = 0 ∧ paths (((((Conv.code r0).set i 63).set j 63).set k 63).set l 63) = 1 := by
  have z : Cells.dist (Conv.code r0) (((((Conv.code r0).set i 63).set j 63).set k 63).set l 63) = 0 := by
    have h0 := Cells.dist_self (Conv.code r0)
    have h1 := dist_open (Conv.code r0) (Conv.code r0) i
    have h2 := dist_open (Conv.code r0) ((Conv.code r0).set i 63) j
    have h3 := dist_open (Conv.code r0) (((Conv.code r0).set i 63).set j 63) k
    have h4 := dist_open (Conv.code r0) ((((Conv.code r0).set i 63).set j 63).set k 63) l
    omega
  have h := near r0 (((((Conv.code r0).set i 63).set j 63).set k 63).set l 63) 4 hk (by simp only [List.length_set]; rw [Conv.code_length])
    (fun a => by
      have h1 := (dist_set a (Conv.code r0) i 63).2
      have h2 := (dist_set a ((Conv.code r0).set i 63) j 63).2
      have h3 := (dist_set a (((Conv.code r0).set i 63).set j 63) k 63).2
      have h4 := (dist_set a ((((Conv.code r0).set i 63).set j 63).set k 63) l 63).2
      omega) (by rw [z]; omega)
  rw [z] at h
  exact h
/-- The distance is the least. -/
theorem least (c : List UInt8) (n : Nat) (hc : c.length = 2 * n) (hn : 2 ≤ n) (r : List UInt8) (hr : Conv.ok r = true) (hl : r.length = n - 2) : cost c ≤ Cells.dist (Conv.code r) c := by
  have hn2 : c.length / 2 - 2 = n - 2 := by omega
  obtain ⟨m1, m2, m3, m4, m5, m6, m7⟩ := main c n hc hn
  have e0 : (Conv.bitsOf r).map Conv.ch = r := by
    unfold Conv.ok at hr
    rw [List.all_eq_true] at hr
    unfold Conv.bitsOf
    rw [List.map_map]
    exact (List.map_congr_left fun c hc => Conv.ch_tb (hr c hc)).trans (List.map_id r)
  by_cases e : Conv.bitsOf r = path false false c (n - 2)
  · have : r = bits c := by rw [bits, hn2, ← e, e0]
    rw [this, m4]
    exact Int.le_refl _
  · have h := m6 (Conv.bitsOf r) (by simp [Conv.bitsOf, hl]) e
    rw [e0] at h
    clear m6 m7
    rcases h with h | ⟨h, _⟩ <;> omega
theorem mono (c c' : List UInt8) (n : Nat) (hc : c.length = 2 * n) (hc' : c'.length = 2 * n) (hn : 2 ≤ n) (d : Nat) (hd : ∀ a, Cells.dist a c' ≤ Cells.dist a c + d) : cost c' ≤ cost c + d := by
  obtain ⟨m1, m2, m3, m4, _⟩ := main c n hc hn
  have h := least c' n hc' hn (bits c) (ok_bits c) m3
  have h2 := hd (Conv.code (bits c))
  omega
end Go.Proofs.YtnklgppfggkeoaaDoor.Vit
