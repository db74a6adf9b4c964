/-
  What the lines of a paragraph hold: no space at either end, no two spaces together, and without their spaces the words. No program.
-/
import Derived.Test.YtbfgjngljggbpaaDoorParLaws
import Derived.Lib.Replace
import Derived.Lib.TrimByte
import Derived.Lib.Join
namespace Go.Proofs.YtbfgjngljggbpaaDoor.Par
open Go Go.Proofs.YtbfgjngljggbpaaDoor.Sep

def NoDbl (l : List UInt8) : Prop := ∀ a b, l ≠ a ++ 32 :: 32 :: b
theorem clean_noDbl {x : List UInt8} (h : clean 32 x) : NoDbl x := by
  intro a b e
  exact h 32 (by rw [e]; simp) rfl
theorem noDbl_tl : ∀ (r : List (List UInt8)) (x : List UInt8), clean 32 x → (∀ y ∈ r, clean 32 y ∧ y ≠ []) → NoDbl (x ++ tl 32 r)
  | [], x, hx, _ => by
    have e : x ++ tl 32 [] = x := by simp [tl]
    rw [e]
    exact clean_noDbl hx
  | y :: r, [], _, hr => by
    obtain ⟨hy, hy0⟩ := hr y (by simp)
    have ih := noDbl_tl r y hy fun z hz => hr z (by simp [hz])
    intro a b e
    rw [List.nil_append, tl_cons] at e
    cases a with
    | nil =>
      cases y with
      | nil => exact hy0 rfl
      | cons c t =>
        simp at e
        exact hy c (by simp) e.1
    | cons d a =>
      simp only [List.cons_append, List.cons.injEq] at e
      exact ih a b e.2
  | y :: r, c :: x, hx, hr => by
    have ih := noDbl_tl (y :: r) x (fun d hd => hx d (by simp [hd])) hr
    intro a b e
    cases a with
    | nil =>
      simp only [List.nil_append, List.cons_append, List.cons.injEq] at e
      exact hx c (by simp) e.1
    | cons d a =>
      simp only [List.cons_append, List.cons.injEq] at e
      exact ih a b e.2
theorem noDbl_contains {l : List UInt8} (h : NoDbl l) : Lib.contains l [32, 32] = false := by
  unfold Lib.contains
  rw [Lib.index_none fun j _ => ?_]
  · rfl
  · cases ho : Lib.occAt l [32, 32] j with
    | false => rfl
    | true =>
      unfold Lib.occAt at ho
      obtain ⟨b, hb⟩ := List.isPrefixOf_iff_prefix.1 ho
      have e := List.take_append_drop j l
      rw [← hb] at e
      exact absurd e.symm (h (l.take j) b)

theorem trim_same {l : List UInt8} (h1 : ∃ c t, l = c :: t ∧ c ≠ 32) (h2 : ∃ t c, l = t ++ [c] ∧ c ≠ 32) : Lib.trimB l 32 = l := by
  obtain ⟨t, c, e, hc⟩ := h2
  have hr : Lib.trimRightB l 32 = l := by
    rw [e, Lib.trimRightB, List.reverse_append]
    simp [hc]
  rw [Lib.trimB, hr]
  obtain ⟨c, t, e, hc⟩ := h1
  rw [e, Lib.trimLeftB]
  simp [hc]

theorem jn_good {w : Nat} {g : List (List UInt8)} (h0 : g ≠ []) (hg : ∀ x ∈ g, clean 32 x ∧ x ≠ []) (_hw : (jn 32 g).length ≤ w) : jn 32 g ≠ [] ∧ Lib.trimB (jn 32 g) 32 = jn 32 g ∧ Lib.contains (jn 32 g) [32, 32] = false := by
  cases g with
  | nil => exact absurd rfl h0
  | cons x r =>
    obtain ⟨hx, hx0⟩ := hg x (by simp)
    have e : jn 32 (x :: r) = x ++ tl 32 r := rfl
    refine ⟨?_, trim_same ?_ ?_, ?_⟩
    · rw [e]
      intro h
      exact hx0 (List.append_eq_nil_iff.1 h).1
    · cases x with
      | nil => exact absurd rfl hx0
      | cons c t => exact ⟨c, t ++ tl 32 r, rfl, hx c (by simp)⟩
    · rcases snoc_cases (x :: r) with h | ⟨ys, y, h⟩
      · cases h
      · obtain ⟨hy, hy0⟩ := hg y (by rw [h]; simp)
        rcases snoc_cases y with h2 | ⟨t, c, h2⟩
        · exact absurd h2 hy0
        · have hc : c ≠ 32 := hy c (by rw [h2]; simp)
          rw [h]
          by_cases hys : ys = []
          · rw [hys, List.nil_append, jn_one]
            exact ⟨t, c, h2, hc⟩
          · rw [jn_snoc ys y hys, h2]
            exact ⟨jn 32 ys ++ 32 :: t, c, by simp, hc⟩
    · rw [e]
      exact noDbl_contains (noDbl_tl r x hx fun y hy => hg y (by simp [hy]))
theorem lines_good {w : Nat} {ws : List (List UInt8)} (h : perr ws w = 0) : ∀ l ∈ wrap w ws, l ≠ [] ∧ l.length ≤ w ∧ Lib.trimB l 32 = l ∧ Lib.contains l [32, 32] = false := by
  obtain ⟨w1, _, hv⟩ := perr_ok h
  intro l hl
  rw [wrap, lines_groups] at hl
  obtain ⟨g, hg, rfl⟩ := List.mem_map.1 hl
  have hle := groups_le (pieces_le w1 ws) g hg
  have hj := jn_good (groups_ne _ _ g hg) (fun x hx => by
    have hx2 : x ∈ pieces w ws := by rw [← groups_flat w (pieces w ws)]; exact List.mem_flatten.2 ⟨g, hg, hx⟩
    have hv2 := pieces_valid w1 hv x hx2
    exact ⟨valid_clean hv2, valid_ne hv2⟩) hle
  exact ⟨hj.1, hle, hj.2⟩

theorem replaceK_spA : ∀ (k : Nat) (l : List UInt8), Lib.count l [32] = k → Lib.replaceK [32] [] k l = (spA 32 [] l).flatten
  | 0, l, h => by
    have hge := Lib.index_ge l [32]
    by_cases hm : Lib.index l [32] = -1
    · rw [(spA_index l []).1 hm]
      simp [Lib.replaceK]
    · obtain ⟨i, hi⟩ : ∃ i : Nat, Lib.index l [32] = i := ⟨(Lib.index l [32]).toNat, by omega⟩
      rw [Lib.count_hit (by simp) hi] at h
      omega
  | k + 1, l, h => by
    have hge := Lib.index_ge l [32]
    by_cases hm : Lib.index l [32] = -1
    · rw [Lib.count_miss hm] at h
      omega
    · obtain ⟨i, hi⟩ : ∃ i : Nat, Lib.index l [32] = i := ⟨(Lib.index l [32]).toNat, by omega⟩
      have hc := Lib.count_hit (by simp) hi
      rw [(spA_index l []).2 i hi, Lib.replaceK_hit _ _ _ _ _ hi]
      rw [show ([32] : List UInt8).length = 1 from rfl] at hc ⊢
      rw [replaceK_spA k _ (by omega)]
      simp
theorem replaceAll_spA (l : List UInt8) : Lib.replaceAll l [32] [] = (spA 32 [] l).flatten := by
  have e : Lib.replaceNum l [32] (-1) = Lib.count l [32] := by
    unfold Lib.replaceNum
    rw [if_pos (.inl (by decide))]
  rw [Lib.replaceAll, Lib.replace, if_neg (by decide), e, replaceK_spA _ l rfl]
theorem spA_filter : ∀ (l cur : List UInt8), (spA 32 cur l).flatten = cur ++ l.filter (· != 32)
  | [], cur => by simp [spA]
  | c :: l, cur => by
    by_cases hc : c = 32
    · rw [spA, if_pos hc, List.flatten_cons, spA_filter l []]
      simp [hc]
    · rw [spA, if_neg hc, spA_filter l]
      simp [hc]
theorem join_empty : ∀ xs : List (List UInt8), Lib.join xs [] = xs.flatten
  | [] => rfl
  | x :: r => by
    rw [Lib.join_cons, Lib.joinTail]
    simp
theorem pieces_flat {w : Nat} (hw : 0 < w) : ∀ ws : List (List UInt8), (pieces w ws).flatten = ws.flatten
  | [] => rfl
  | x :: r => by rw [pieces_cons, List.flatten_append, chop_flat hw _ x (Nat.le_refl _), pieces_flat hw r, List.flatten_cons]
theorem content_law {w : Nat} {ws : List (List UInt8)} (h : perr ws w = 0) : Lib.replaceAll (Lib.join (wrap w ws) []) [32] [] = Lib.join ws [] := by
  obtain ⟨w1, _, _⟩ := perr_ok h
  have hsp := line_split h
  rw [replaceAll_spA, join_empty, join_empty, spA_filter, List.nil_append, List.filter_flatten, ← pieces_flat w1 ws, ← hsp]
  generalize wrap w ws = ls
  induction ls with
  | nil => rfl
  | cons l r ih =>
    simp only [List.map_cons, List.flatten_cons, List.flatten_append, spA_filter, List.nil_append]
    rw [ih]
end Go.Proofs.YtbfgjngljggbpaaDoor.Par
