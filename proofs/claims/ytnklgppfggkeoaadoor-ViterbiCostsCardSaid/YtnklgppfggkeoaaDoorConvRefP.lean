/-
  What the reference of layer 9 computes. Plain lists.
-/
import Derived.Test.YtnklgppfggkeoaaDoorConvExtP
namespace Go.Proofs.YtnklgppfggkeoaaDoor.Conv

theorem bits_chR (s : List UInt8) (h : ok s = true) : (bitsOf s).map ch = s := by
  unfold ok at h
  rw [List.all_eq_true] at h
  unfold bitsOf
  rw [List.map_map]
  exact (List.map_congr_left fun c hc => ch_tb (h c hc)).trans (List.map_id s)
theorem outs_take_succR (p q : Bool) (l : List Bool) (k : Nat) (hk : k < l.length) : (outs p q l).take (k + 1) = (outs p q l).take k ++ [((l[k] ^^ (after p q (l.take k)).1) ^^ (after p q (l.take k)).2, l[k] ^^ (after p q (l.take k)).2)] := by
  induction l generalizing p q k with
  | nil => simp at hk
  | cons u l ih =>
    cases k with
    | zero => rfl
    | succ k =>
      have h := ih u p k (by simpa using hk)
      simp only [outs, List.take_succ_cons, List.cons_append, after, List.getElem_cons_succ]
      rw [h]
theorem after_take_succR (p q : Bool) (l : List Bool) (k : Nat) (hk : k < l.length) : after p q (l.take (k + 1)) = (l[k], (after p q (l.take k)).1) := by
  rw [List.take_succ_eq_append_getElem hk, after_append]
  rfl
/-- The state after k bits, read off the bits with two zeros in front. -/
theorem after_get (l : List Bool) (k : Nat) (hk : k ≤ l.length) : ∀ (a b : Bool), ([false, false] ++ l)[k + 1]? = some a → ([false, false] ++ l)[k]? = some b → after false false (l.take k) = (a, b) := by
  induction k with
  | zero =>
    intro a b ha hb
    cases ha
    cases hb
    rfl
  | succ k ih =>
    intro a b ha hb
    have hlt : k < l.length := hk
    have e1 : ([false, false] ++ l)[k + 1 + 1]? = some l[k] := by simp [hlt]
    rw [e1] at ha
    cases ha
    obtain ⟨b', hb'⟩ : ∃ b', ([false, false] ++ l)[k]? = some b' := ⟨_, List.getElem?_eq_getElem (by simp; omega)⟩
    rw [after_take_succR _ _ _ _ hlt, ih (by omega) b b' hb hb']
def decb (p q : Bool) : List UInt8 → List Bool
  | _ :: b :: r => (tb b ^^ q) :: decb (tb b ^^ q) p r
  | _ => []
theorem decb_flat (p q : Bool) (l : List Bool) : decb p q (flat (outs p q l)) = l := by
  induction l generalizing p q with
  | nil => rfl
  | cons u l ih =>
    rw [outs, flat_cons, decb]
    have e : (tb (ch (u ^^ q)) ^^ q) = u := by rw [tb_ch]; cases u <;> cases q <;> rfl
    rw [e, ih]
theorem decb_step (c : List UInt8) (k : Nat) (l : List Bool) (p q : Bool) (a b : UInt8) (ha : c[2 * k]? = some a) (hb : c[2 * k + 1]? = some b)
    (h : decb false false c = l ++ decb p q (c.drop (2 * k))) : decb false false c = (l ++ [tb b ^^ q]) ++ decb (tb b ^^ q) p (c.drop (2 * (k + 1))) := by
  obtain ⟨h1, rfl⟩ := List.getElem?_eq_some_iff.1 ha
  obtain ⟨h2, rfl⟩ := List.getElem?_eq_some_iff.1 hb
  rw [h, List.drop_eq_getElem_cons h1, List.drop_eq_getElem_cons h2, decb, show 2 * k + 1 + 1 = 2 * (k + 1) by omega, List.append_assoc]
  rfl
theorem decb_end (c : List UInt8) (k : Nat) (l : List Bool) (p q : Bool) (hk : c.length = 2 * k) (h : decb false false c = l ++ decb p q (c.drop (2 * k))) : decb false false c = l := by
  rw [h, ← hk, List.drop_length]
  simp [decb]
/-- The bits that the reference takes. -/
def bitsX (l : List Bool) : List UInt8 := (l.take (l.length - 2)).map ch
theorem ok_bitsX (l : List Bool) : ok (bitsX l) = true := ok_map _
theorem bitsX_length (l : List Bool) : (bitsX l).length = l.length - 2 := by
  unfold bitsX
  rw [List.length_map, List.length_take]
  omega
theorem ref_yes (c : List UInt8) (l : List Bool) (hs : l.length ≤ 65536) (he : code (bitsX l) = c) : ansX c = bitsX l ∧ ansE c = 0 := by
  have := ans_code (bitsX l) (ok_bitsX l) (by rw [bitsX_length]; omega)
  rw [he] at this
  exact this
theorem ref_no (c : List UInt8) (l : List Bool) (h : decb false false c = l) (hc : Cells.ok c = true) (h2 : c.length % 2 = 0 ∧ 4 ≤ c.length) (h3 : c.length ≤ 131076) (he : code (bitsX l) ≠ c) : ansX c = [] ∧ ansE c = 11 := by
  cases h63 : c.contains 63
  · have hk := ok_of_cells c hc h63
    obtain ⟨e1, e2⟩ := ans_bits hk h2 h3
    rw [e1, e2]
    rcases ext_cases c (c.length / 2) (by omega) hk with ⟨s, hs, rfl, _, _⟩ | ⟨_, h4, h5⟩
    · exfalso
      apply he
      have hd : decb false false (code s) = bitsOf s ++ [false, false] := decb_flat _ _ _
      rw [hd] at h
      subst h
      unfold bitsX
      have e : (bitsOf s ++ [false, false]).take ((bitsOf s ++ [false, false]).length - 2) = bitsOf s := by simp
      rw [e]
      have e3 : (bitsOf s).map ch = s := bits_chR s hs
      rw [e3]
    · exact ⟨h4, h5⟩
  · exact ans_open hc h2 h63
end Go.Proofs.YtnklgppfggkeoaaDoor.Conv
