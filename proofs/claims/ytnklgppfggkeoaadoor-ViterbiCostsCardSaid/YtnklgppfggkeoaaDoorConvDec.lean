/-
  Decoding an error-free code word: plain lists.
-/
import Derived.Test.YtnklgppfggkeoaaDoorConvPlain
namespace Go.Proofs.YtnklgppfggkeoaaDoor.Conv

/-- The bits behind the cells, from the state (p, q). -/
def dec (p q : Bool) : List UInt8 → Option (List Bool)
  | a :: b :: r => if a = ch (((tb b ^^ q) ^^ p) ^^ q) then (dec (tb b ^^ q) p r).map ((tb b ^^ q) :: ·) else none
  | _ => some []
/-- What Extract answers at a string of bits of an even length that is 4 at least. -/
def extX (c : List UInt8) : List UInt8 :=
  match dec false false c with
  | none => []
  | some l => if l.drop (l.length - 2) = [false, false] then (l.take (l.length - 2)).map ch else []
def extE (c : List UInt8) : Int :=
  match dec false false c with
  | none => 11
  | some l => if l.drop (l.length - 2) = [false, false] then 0 else 11

theorem flat_cons (x : Bool × Bool) (l : List (Bool × Bool)) : flat (x :: l) = ch x.1 :: ch x.2 :: flat l := rfl
theorem dec_flat (p q : Bool) (l : List Bool) : dec p q (flat (outs p q l)) = some l := by
  induction l generalizing p q with
  | nil => rfl
  | cons u l ih =>
    rw [outs, flat_cons, dec]
    have e : (tb (ch (u ^^ q)) ^^ q) = u := by rw [tb_ch]; cases u <;> cases q <;> rfl
    simp only [e, if_true]
    rw [ih]
    rfl
theorem dec_sound (p q : Bool) : ∀ (n : Nat) (c : List UInt8) (l : List Bool), c.length = 2 * n → ok c = true → dec p q c = some l → flat (outs p q l) = c := by
  intro n
  induction n generalizing p q with
  | zero =>
    intro c l hc _ h
    obtain rfl : c = [] := List.eq_nil_of_length_eq_zero (by omega)
    cases h
    rfl
  | succ n ih =>
    intro c l hc hk h
    match c, hc, hk, h with
    | a :: b :: r, hc, hk, h =>
      rw [dec] at h
      split at h
      · rename_i ha
        cases hd : dec (tb b ^^ q) p r with
        | none => rw [hd] at h; cases h
        | some l' =>
          rw [hd] at h
          cases h
          have hk' : isBit a = true ∧ isBit b = true ∧ ok r = true := by
            have := hk
            simp only [ok, List.all_cons, Bool.and_eq_true] at this
            exact ⟨this.1, this.2.1, this.2.2⟩
          rw [outs, flat_cons, ih (tb b ^^ q) p r l' (by simp at hc; omega) hk'.2.2 hd, ← ha]
          have e : ch ((tb b ^^ q) ^^ q) = b := by
            rw [← ch_tb hk'.2.1, tb_ch]
            cases tb b <;> cases q <;> rfl
          rw [e]
      · cases h
    | [_], hc, _, _ => simp at hc; omega
    | [], hc, _, _ => simp at hc
theorem dec_length (p q : Bool) : ∀ (n : Nat) (c : List UInt8) (l : List Bool), c.length = 2 * n → dec p q c = some l → l.length = n := by
  intro n
  induction n generalizing p q with
  | zero =>
    intro c l hc h
    obtain rfl : c = [] := List.eq_nil_of_length_eq_zero (by omega)
    cases h
    rfl
  | succ n ih =>
    intro c l hc h
    match c, hc, h with
    | a :: b :: r, hc, h =>
      rw [dec] at h
      split at h
      · cases hd : dec (tb b ^^ q) p r with
        | none => rw [hd] at h; cases h
        | some l' =>
          rw [hd] at h
          cases h
          rw [List.length_cons, ih (tb b ^^ q) p r l' (by simp at hc; omega) hd]
      · cases h
    | [_], hc, _ => simp at hc; omega
    | [], hc, _ => simp at hc
theorem ext_code (s : List UInt8) (h : ok s = true) : extX (code s) = s ∧ extE (code s) = 0 := by
  have hd : dec false false (code s) = some (bitsOf s ++ [false, false]) := dec_flat _ _ _
  have hl : (bitsOf s ++ [false, false]).length - 2 = (bitsOf s).length := by simp
  unfold extX extE
  rw [hd]
  simp only [hl, List.drop_left, List.take_left, if_true]
  refine ⟨?_, trivial⟩
  unfold ok at h
  rw [List.all_eq_true] at h
  unfold bitsOf
  rw [List.map_map]
  exact (List.map_congr_left fun c hc => ch_tb (h c hc)).trans (List.map_id s)
/-- A round that goes on. -/
theorem dec_step (c : List UInt8) (k : Nat) (l : List Bool) (p q : Bool) (a b : UInt8) (ha : c[2 * k]? = some a) (hb : c[2 * k + 1]? = some b)
    (h : dec false false c = (dec p q (c.drop (2 * k))).map (l ++ ·)) (hm : a = ch (((tb b ^^ q) ^^ p) ^^ q)) :
    dec false false c = (dec (tb b ^^ q) p (c.drop (2 * (k + 1)))).map ((l ++ [tb b ^^ q]) ++ ·) := by
  obtain ⟨h1, rfl⟩ := List.getElem?_eq_some_iff.1 ha
  obtain ⟨h2, rfl⟩ := List.getElem?_eq_some_iff.1 hb
  rw [h, List.drop_eq_getElem_cons h1, List.drop_eq_getElem_cons h2, dec, if_pos hm, show 2 * k + 1 + 1 = 2 * (k + 1) by omega]
  cases dec (tb c[2 * k + 1] ^^ q) p (c.drop (2 * (k + 1))) <;> simp
/-- A round that does not. -/
theorem dec_stop (c : List UInt8) (k : Nat) (l : List Bool) (p q : Bool) (a b : UInt8) (ha : c[2 * k]? = some a) (hb : c[2 * k + 1]? = some b)
    (h : dec false false c = (dec p q (c.drop (2 * k))).map (l ++ ·)) (hm : a ≠ ch (((tb b ^^ q) ^^ p) ^^ q)) : extX c = [] ∧ extE c = 11 := by
  obtain ⟨h1, rfl⟩ := List.getElem?_eq_some_iff.1 ha
  obtain ⟨h2, rfl⟩ := List.getElem?_eq_some_iff.1 hb
  have hn : dec false false c = none := by
    rw [h, List.drop_eq_getElem_cons h1, List.drop_eq_getElem_cons h2, dec, if_neg hm]
    rfl
  unfold extX extE
  rw [hn]
  exact ⟨rfl, rfl⟩
theorem dec_end (c : List UInt8) (k : Nat) (l : List Bool) (p q : Bool) (hk : c.length = 2 * k) (h : dec false false c = (dec p q (c.drop (2 * k))).map (l ++ ·)) : dec false false c = some l := by
  rw [h, ← hk, List.drop_length]
  simp [dec]
theorem map_ch_zero {l : List Bool} (h : l.map ch = [48, 48]) : l = [false, false] := by
  have h2 := congrArg (List.map tb) h
  rw [List.map_map, show tb ∘ ch = id from funext tb_ch, List.map_id] at h2
  exact h2
end Go.Proofs.YtnklgppfggkeoaaDoor.Conv
