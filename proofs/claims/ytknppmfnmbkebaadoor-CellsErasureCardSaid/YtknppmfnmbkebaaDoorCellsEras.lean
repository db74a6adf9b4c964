/-
  Making cells unreadable: which bytes are told as unreadable, and that the others stay. Plain lists.
-/
import Derived.Test.YtknppmfnmbkebaaDoorCellsPlain
namespace Go.Proofs.YtknppmfnmbkebaaDoor.Cells

def erase (l : List UInt8) (ps : List Nat) : List UInt8 := ps.foldl (fun l p => l.set p 63) l
def hits (n : Nat) (ps : List Nat) : List Bool := ps.foldl (fun h p => h.set (p / 8) true) (List.replicate n false)
def hit (ps : List Nat) (i : Nat) : Bool := ps.any fun p => p / 8 == i

theorem erase_snoc (l : List UInt8) (ps : List Nat) (p : Nat) : erase l (ps ++ [p]) = (erase l ps).set p 63 := by simp [erase]
theorem hits_snoc (n : Nat) (ps : List Nat) (p : Nat) : hits n (ps ++ [p]) = (hits n ps).set (p / 8) true := by simp [hits]
theorem hit_snoc (ps : List Nat) (p i : Nat) : hit (ps ++ [p]) i = (hit ps i || p / 8 == i) := by simp [hit]
theorem list_rev_ind {α : Type} {C : List α → Prop} (h0 : C []) (h1 : ∀ l x, C l → C (l ++ [x])) : ∀ l, C l := by
  intro l
  have h : ∀ l : List α, C l.reverse := by
    intro l
    induction l with
    | nil => exact h0
    | cons x l ih => rw [List.reverse_cons]; exact h1 _ _ ih
  have := h l.reverse
  rwa [List.reverse_reverse] at this
theorem erase_length (l : List UInt8) (ps : List Nat) : (erase l ps).length = l.length := by
  induction ps using list_rev_ind with
  | h0 => rfl
  | h1 ps p ih => rw [erase_snoc, List.length_set, ih]
theorem hits_length (n : Nat) (ps : List Nat) : (hits n ps).length = n := by
  induction ps using list_rev_ind with
  | h0 => simp [hits]
  | h1 ps p ih => rw [hits_snoc, List.length_set, ih]
theorem erase_get (l : List UInt8) (ps : List Nat) (q : Nat) (hq : q < l.length) : (erase l ps)[q]? = if ps.contains q then some 63 else l[q]? := by
  induction ps using list_rev_ind with
  | h0 => simp [erase]
  | h1 ps p ih =>
    rw [erase_snoc, List.getElem?_set, erase_length, ih]
    by_cases e : p = q
    · subst e
      simp [hq]
    · rw [if_neg e]
      simp [Ne.symm e]
theorem hits_get (n : Nat) (ps : List Nat) (i : Nat) (hi : i < n) : (hits n ps)[i]? = some (hit ps i) := by
  induction ps using list_rev_ind with
  | h0 => simp [hits, hit, hi]
  | h1 ps p ih =>
    rw [hits_snoc, List.getElem?_set, hits_length, ih, hit_snoc]
    by_cases e : p / 8 = i
    · subst e
      simp [hi]
    · rw [if_neg e]
      have : (p / 8 == i) = false := by simpa using e
      rw [this, Bool.or_false]

theorem chunk_get? (l : List UInt8) (i j : Nat) : (chunk l i)[j]? = if j < 8 then l[8 * i + j]? else none := by
  unfold chunk
  rw [List.getElem?_take]
  split
  · rw [List.getElem?_drop]
  · rfl
theorem chunk_erase_hit (l : List UInt8) (ps : List Nat) (i : Nat) (hi : i < l.length / 8) (hl : ∀ c ∈ l, c ≠ 63) (hp : ∀ p ∈ ps, p < l.length) : (chunk (erase l ps) i).contains 63 = hit ps i := by
  rw [Bool.eq_iff_iff, List.contains_iff_mem]
  unfold hit
  rw [List.any_eq_true]
  constructor
  · intro h
    obtain ⟨j, hj⟩ := List.mem_iff_getElem?.1 h
    rw [chunk_get?] at hj
    split at hj
    · rename_i hj8
      have hlt : 8 * i + j < l.length := by omega
      rw [erase_get l ps _ hlt] at hj
      split at hj
      · rename_i hc
        exact ⟨8 * i + j, List.contains_iff_mem.1 hc, by rw [beq_iff_eq]; omega⟩
      · exact absurd rfl (hl 63 (List.mem_of_getElem? hj))
    · cases hj
  · rintro ⟨p, hpm, he⟩
    rw [beq_iff_eq] at he
    refine List.mem_iff_getElem?.2 ⟨p % 8, ?_⟩
    rw [chunk_get?, if_pos (Nat.mod_lt _ (by decide)), show 8 * i + p % 8 = p by omega, erase_get l ps p (hp p hpm), if_pos (List.contains_iff_mem.2 hpm)]
theorem chunk_erase_miss (l : List UInt8) (ps : List Nat) (i : Nat) (hi : i < l.length / 8) (h : hit ps i = false) : chunk (erase l ps) i = chunk l i := by
  apply List.ext_getElem?
  intro j
  rw [chunk_get?, chunk_get?]
  split
  · rename_i hj
    rw [erase_get l ps _ (by omega), if_neg]
    intro hc
    have : hit ps i = true := by
      unfold hit
      rw [List.any_eq_true]
      exact ⟨_, List.contains_iff_mem.1 hc, by rw [beq_iff_eq]; omega⟩
    rw [h] at this
    cases this
  · rfl
theorem ok_set (l : List UInt8) (p : Nat) (h : ok l = true) : ok (l.set p 63) = true := by
  unfold ok at h ⊢
  rw [List.all_eq_true] at h ⊢
  intro c hc
  rcases List.mem_or_eq_of_mem_set hc with hc | rfl
  · exact h c hc
  · rfl
theorem ok_erase (l : List UInt8) (ps : List Nat) (h : ok l = true) : ok (erase l ps) = true := by
  induction ps using list_rev_ind with
  | h0 => exact h
  | h1 ps p ih => rw [erase_snoc]; exact ok_set _ _ ih
theorem from_clean (b : List UInt8) : ∀ c ∈ fromBytes b, c ≠ 63 := by
  intro c hc
  rcases fromBytes_cases b c hc with rfl | rfl <;> decide
theorem bad_erase (b : List UInt8) (ps : List Nat) (hp : ∀ p ∈ ps, p < 8 * b.length) : bad (erase (fromBytes b) ps) = (List.range b.length).filter (hit ps) := by
  have hl := fromBytes_length b
  unfold bad
  rw [erase_length, hl, Nat.mul_div_cancel_left _ (by decide)]
  refine List.filter_congr fun i hi => ?_
  rw [List.mem_range] at hi
  exact chunk_erase_hit _ _ _ (by omega) (from_clean b) (by rw [hl]; exact hp)
theorem toBytes_length (l : List UInt8) : (toBytes l).length = l.length / 8 := by simp [toBytes]
theorem toBytes_erase (b : List UInt8) (ps : List Nat) (i : Nat) (hi : i < b.length) (h : hit ps i = false) : (toBytes (erase (fromBytes b) ps))[i]? = b[i]? := by
  have hl := fromBytes_length b
  have e : (toBytes (fromBytes b))[i]? = b[i]? := by rw [to_from]
  rw [← e]
  unfold toBytes
  rw [List.getElem?_map, List.getElem?_map, erase_length, List.getElem?_range (by omega)]
  simp only [Option.map_some]
  rw [chunk_erase_miss _ _ _ (by omega) h]
theorem filter_range_get (p : Nat → Bool) (n k : Nat) (hk : k < n) (hp : p k = true) : ((List.range n).filter p)[((List.range k).filter p).length]? = some k := by
  have e : List.range n = List.range k ++ (k :: List.range' (k + 1) (n - k - 1)) := by
    rw [List.range_eq_range', List.range_eq_range', ← List.range'_succ]
    have h := List.range'_append_1 (s := 0) (m := k) (n := n - k - 1 + 1)
    rw [Nat.zero_add, show k + (n - k - 1 + 1) = n by omega] at h
    exact h.symm
  rw [e, List.filter_append, List.getElem?_append_right (Nat.le_refl _), Nat.sub_self, List.filter_cons_of_pos hp]
  rfl
theorem filter_range_succ (p : Nat → Bool) (k : Nat) : ((List.range (k + 1)).filter p).length = ((List.range k).filter p).length + if p k = true then 1 else 0 := by
  rw [List.range_succ, List.filter_append, List.length_append]
  congr 1
  cases h : p k <;> simp [h]
theorem filter_range_le (p : Nat → Bool) (k : Nat) : ((List.range k).filter p).length ≤ k := Nat.le_trans (List.length_filter_le _ _) (by simp)
end Go.Proofs.YtknppmfnmbkebaaDoor.Cells
