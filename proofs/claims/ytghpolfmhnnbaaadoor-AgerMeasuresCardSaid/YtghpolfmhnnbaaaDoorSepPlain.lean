/-
  Lists of bytes and separators: cutting at each, joining. No program.
-/
import Derived.Lib.SplitLaws
import Derived.Lib.Join
import Derived.Sort.Walk0
import Derived.WalkKit
namespace Go.Proofs.YtghpolfmhnnbaaaDoor.Sep
open Go

/-- The parts between separators, the first one beginning with cur. -/
def spA (q : UInt8) (cur : List UInt8) : List UInt8 → List (List UInt8)
  | [] => [cur]
  | c :: r => if c = q then cur :: spA q [] r else spA q (cur ++ [c]) r
/-- Nothing of nothing. -/
def els (q : UInt8) (l : List UInt8) : List (List UInt8) := if l = [] then [] else spA q [] l
/-- A separator and an element, for each. -/
def tl (q : UInt8) (r : List (List UInt8)) : List UInt8 := (r.map (q :: ·)).flatten
def jn (q : UInt8) : List (List UInt8) → List UInt8
  | [] => []
  | x :: r => x ++ tl q r
def clean (q : UInt8) (l : List UInt8) : Prop := ∀ c ∈ l, c ≠ q

variable {q : UInt8}
theorem tl_cons (x : List UInt8) (r : List (List UInt8)) : tl q (x :: r) = q :: (x ++ tl q r) := by simp [tl]
theorem tl_append (a b : List (List UInt8)) : tl q (a ++ b) = tl q a ++ tl q b := by simp [tl]
theorem tl_eq (r : List (List UInt8)) : Lib.joinTail [q] r = tl q r := rfl
theorem jn_eq (xs : List (List UInt8)) : Lib.join xs [q] = jn q xs := by
  cases xs with
  | nil => rfl
  | cons x r => rw [Lib.join_cons]; rfl
theorem clean_nil : clean q [] := fun c h => by cases h
theorem clean_snoc {l : List UInt8} {c : UInt8} (h : clean q l) (hc : c ≠ q) : clean q (l ++ [c]) := by
  intro d hd
  rcases List.mem_append.1 hd with h1 | h1
  · exact h d h1
  · rw [List.mem_singleton] at h1
    rw [h1]
    exact hc

theorem spA_app : ∀ (x l cur : List UInt8), clean q x → spA q cur (x ++ l) = spA q (cur ++ x) l
  | [], l, cur, _ => by simp
  | c :: x, l, cur, h => by
    have hc : c ≠ q := h c (by simp)
    have hx : clean q x := fun d hd => h d (by simp [hd])
    rw [List.cons_append, spA, if_neg hc, spA_app x l _ hx]
    simp
theorem spA_tl : ∀ (r : List (List UInt8)) (cur : List UInt8), (∀ x ∈ r, clean q x) → spA q cur (tl q r) = cur :: r
  | [], cur, _ => rfl
  | x :: r, cur, h => by
    rw [tl_cons, spA, if_pos rfl, spA_app x _ _ (h x (by simp)), List.nil_append, spA_tl r x fun y hy => h y (by simp [hy])]
theorem spA_spec : ∀ (l cur : List UInt8), ∃ x r, spA q cur l = x :: r ∧ x ++ tl q r = cur ++ l ∧ (∀ y ∈ r, clean q y) ∧ (clean q cur → clean q x)
  | [], cur => ⟨cur, [], rfl, by simp [tl], fun y hy => by simp at hy, id⟩
  | c :: l, cur => by
    by_cases hc : c = q
    · obtain ⟨x, r, h1, h2, h3, h4⟩ := spA_spec l []
      refine ⟨cur, x :: r, by rw [spA, if_pos hc, h1], ?_, fun y hy => ?_, id⟩
      · rw [tl_cons, h2, hc]
        rfl
      · rcases List.mem_cons.1 hy with rfl | hy
        · exact h4 clean_nil
        · exact h3 y hy
    · obtain ⟨x, r, h1, h2, h3, h4⟩ := spA_spec l (cur ++ [c])
      refine ⟨x, r, by rw [spA, if_neg hc, h1], by rw [h2]; simp, h3, fun h => h4 (clean_snoc h hc)⟩

theorem els_nil : els q [] = [] := rfl
theorem els_ne {l : List UInt8} (h : l ≠ []) : els q l = spA q [] l := by rw [els, if_neg h]
theorem jn_els (l : List UInt8) : jn q (els q l) = l := by
  by_cases h : l = []
  · rw [h]; rfl
  · obtain ⟨x, r, h1, h2, _⟩ := spA_spec l []
    rw [els_ne h, h1]
    exact h2
theorem els_inj {a b : List UInt8} (h : els q a = els q b) : a = b := by rw [← jn_els a, h, jn_els]
theorem els_clean (l : List UInt8) : ∀ x ∈ els q l, clean q x := by
  by_cases h : l = []
  · rw [h]; exact fun x hx => by simp [els] at hx
  · obtain ⟨x, r, h1, _, h3, h4⟩ := spA_spec l []
    rw [els_ne h, h1]
    intro y hy
    rcases List.mem_cons.1 hy with rfl | hy
    · exact h4 clean_nil
    · exact h3 y hy
theorem els_eq_nil {l : List UInt8} : els q l = [] ↔ l = [] := by
  constructor
  · intro h
    rw [← jn_els l, h]
    rfl
  · intro h
    rw [h]
    rfl
theorem jn_eq_nil : ∀ {xs : List (List UInt8)}, (∀ x ∈ xs, x ≠ []) → jn q xs = [] → xs = []
  | [], _, _ => rfl
  | x :: r, h, e => by
    have : x = [] := (List.append_eq_nil_iff.1 e).1
    exact absurd this (h x (by simp))
theorem els_jn {xs : List (List UInt8)} (h : ∀ x ∈ xs, clean q x) (h0 : ∀ x ∈ xs, x ≠ []) : els q (jn q xs) = xs := by
  by_cases e : jn q xs = []
  · rw [e, jn_eq_nil h0 e]; rfl
  · rw [els_ne e]
    cases xs with
    | nil => exact absurd rfl e
    | cons x r =>
      show spA q [] (x ++ tl q r) = _
      rw [spA_app x _ _ (h x (by simp)), List.nil_append, spA_tl r x fun y hy => h y (by simp [hy])]
theorem jn_snoc (xs : List (List UInt8)) (y : List UInt8) (h : xs ≠ []) : jn q (xs ++ [y]) = jn q xs ++ q :: y := by
  cases xs with
  | nil => exact absurd rfl h
  | cons x r => simp [jn, tl]
theorem els_length_le (l : List UInt8) : (els q l).length ≤ l.length + 1 := by
  by_cases h : l = []
  · rw [h]; simp [els]
  · rw [els_ne h]
    have : ∀ (l cur : List UInt8), (spA q cur l).length ≤ l.length + 1 := by
      intro l
      induction l with
      | nil => intro cur; simp [spA]
      | cons c l ih =>
        intro cur
        unfold spA
        split
        · have := ih []; simp only [List.length_cons]; omega
        · have := ih (cur ++ [c]); simp only [List.length_cons]; omega
    exact this l []
theorem tl_length_take (r : List (List UInt8)) (k : Nat) : (tl q (r.take k)).length ≤ (tl q r).length := by
  have h : tl q r = tl q (r.take k) ++ tl q (r.drop k) := by rw [← tl_append, List.take_append_drop]
  rw [h, List.length_append]
  omega
theorem jn_length_take (xs : List (List UInt8)) (k : Nat) : (jn q (xs.take k)).length ≤ (jn q xs).length := by
  cases xs with
  | nil => simp [jn]
  | cons x r =>
    cases k with
    | zero => simp [jn]
    | succ k =>
      have := tl_length_take (q := q) r k
      simp only [List.take_succ_cons, jn, List.length_append]
      omega

/-! strings.Split's words. -/
theorem spA_index : ∀ (l cur : List UInt8), (Lib.index l [q] = -1 → spA q cur l = [cur ++ l]) ∧ ∀ i : Nat, Lib.index l [q] = i → spA q cur l = (cur ++ l.take i) :: spA q [] (l.drop (i + 1))
  | [], cur => by
    refine ⟨fun _ => by simp [spA], fun i h => ?_⟩
    simp [Lib.index] at h
  | c :: l, cur => by
    by_cases hc : c = q
    · rw [hc]
      have h0 : Lib.index (q :: l) [q] = 0 := by simp [Lib.index, List.isPrefixOf]
      refine ⟨fun h => by omega, fun i h => ?_⟩
      obtain rfl : i = 0 := by omega
      simp [spA]
    · have hp : ([q] : List UInt8).isPrefixOf (c :: l) = false := by simp [List.isPrefixOf, Ne.symm hc]
      have hix : Lib.index (c :: l) [q] = if Lib.index l [q] == -1 then -1 else Lib.index l [q] + 1 := by rw [Lib.index, hp]; simp
      have ih := spA_index l (cur ++ [c])
      have hge := Lib.index_ge l [q]
      by_cases hm : Lib.index l [q] = -1
      · rw [hix, if_pos (beq_iff_eq.2 hm)]
        refine ⟨fun _ => by rw [spA, if_neg hc, ih.1 hm]; simp, fun i h => by omega⟩
      · rw [hix, if_neg (fun e => hm (beq_iff_eq.1 e))]
        refine ⟨fun h => by omega, fun i h => ?_⟩
        obtain ⟨j, rfl⟩ : ∃ j, i = j + 1 := ⟨i - 1, by omega⟩
        rw [spA, if_neg hc, ih.2 j (by omega)]
        simp
theorem split_spA : ∀ (k : Nat) (l : List UInt8), Lib.count l [q] = k → Lib.splitK [q] 0 k l = spA q [] l
  | 0, l, h => by
    have hge := Lib.index_ge l [q]
    by_cases hm : Lib.index l [q] = -1
    · rw [(spA_index l []).1 hm]
      rfl
    · obtain ⟨i, hi⟩ : ∃ i : Nat, Lib.index l [q] = i := ⟨(Lib.index l [q]).toNat, by omega⟩
      rw [Lib.count_hit (by simp) hi] at h
      omega
  | k + 1, l, h => by
    have hge := Lib.index_ge l [q]
    by_cases hm : Lib.index l [q] = -1
    · rw [Lib.count_miss hm] at h
      omega
    · obtain ⟨i, hi⟩ : ∃ i : Nat, Lib.index l [q] = i := ⟨(Lib.index l [q]).toNat, by omega⟩
      have hc := Lib.count_hit (by simp) hi
      rw [(spA_index l []).2 i hi, Lib.splitK, if_neg (fun e => hm (beq_iff_eq.1 e)), hi]
      rw [show ([q] : List UInt8).length = 1 from rfl] at hc ⊢
      rw [Int.toNat_natCast, Nat.add_zero, split_spA k _ (by omega)]
      simp
theorem splitB_els (s : ByteArray) (h : s.data.toList ≠ []) : (Lib.splitB ⟨#[q]⟩ 0 (Lib.countB s ⟨#[q]⟩) s).map (·.data.toList) = els q s.data.toList := by
  rw [Lib.splitB_data, els_ne h]
  exact split_spA _ _ rfl

end Go.Proofs.YtghpolfmhnnbaaaDoor.Sep
