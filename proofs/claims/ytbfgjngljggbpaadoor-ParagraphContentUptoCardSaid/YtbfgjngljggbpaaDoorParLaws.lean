/-
  What the lines of a paragraph are like: groups of pieces, greedy, minimal, stable. No program.
-/
import Derived.Test.YtbfgjngljggbpaaDoorParPlain
namespace Go.Proofs.YtbfgjngljggbpaaDoor.Par
open Go Go.Proofs.YtbfgjngljggbpaaDoor.Sep

def grp (w : Nat) (cur : List (List UInt8)) : List (List UInt8) → List (List (List UInt8))
  | [] => [cur]
  | p :: ps => if (jn 32 cur).length + 1 + p.length ≤ w then grp w (cur ++ [p]) ps else cur :: grp w [p] ps
def groups (w : Nat) : List (List UInt8) → List (List (List UInt8))
  | [] => []
  | p :: r => grp w [p] r
theorem jn_one (p : List UInt8) : jn 32 [p] = p := by simp [jn, tl]
theorem foldl_grp (w : Nat) : ∀ (ps cur out : List (List UInt8)), cur ≠ [] → ps.foldl (step w) (out ++ [jn 32 cur]) = out ++ (grp w cur ps).map (jn 32)
  | [], cur, out, _ => rfl
  | p :: ps, cur, out, h => by
    rw [List.foldl_cons, step_snoc, grp]
    by_cases hf : (jn 32 cur).length + 1 + p.length ≤ w
    · rw [if_pos hf, if_pos hf, ← jn_snoc cur p h, foldl_grp w ps (cur ++ [p]) out (by simp)]
    · rw [if_neg hf, if_neg hf]
      have := foldl_grp w ps [p] (out ++ [jn 32 cur]) (by simp)
      rw [jn_one] at this
      rw [this, List.map_cons, List.append_assoc]
      rfl
theorem lines_groups (w : Nat) (ps : List (List UInt8)) : lines w ps = (groups w ps).map (jn 32) := by
  cases ps with
  | nil => rfl
  | cons p r =>
    have := foldl_grp w r [p] [] (by simp)
    rw [jn_one, List.nil_append, List.nil_append] at this
    rw [lines, List.foldl_cons, step_nil, this]
    rfl
theorem grp_flat (w : Nat) : ∀ (ps cur : List (List UInt8)), (grp w cur ps).flatten = cur ++ ps
  | [], cur => by simp [grp]
  | p :: ps, cur => by
    rw [grp]
    split
    · rw [grp_flat w ps, List.append_assoc]
      rfl
    · rw [List.flatten_cons, grp_flat w ps]
      rfl
theorem groups_flat (w : Nat) (ps : List (List UInt8)) : (groups w ps).flatten = ps := by
  cases ps with
  | nil => rfl
  | cons p r => exact grp_flat w r [p]
theorem grp_ne (w : Nat) : ∀ (ps cur : List (List UInt8)), cur ≠ [] → ∀ g ∈ grp w cur ps, g ≠ []
  | [], cur, h, g, hg => by
    rw [grp, List.mem_singleton] at hg
    rw [hg]
    exact h
  | p :: ps, cur, h, g, hg => by
    rw [grp] at hg
    split at hg
    · exact grp_ne w ps _ (by simp) g hg
    · rcases List.mem_cons.1 hg with rfl | hg
      · exact h
      · exact grp_ne w ps _ (by simp) g hg
theorem groups_ne (w : Nat) (ps : List (List UInt8)) : ∀ g ∈ groups w ps, g ≠ [] := by
  cases ps with
  | nil => intro g hg; cases hg
  | cons p r => exact grp_ne w r [p] (by simp)
theorem grp_le (w : Nat) : ∀ (ps cur : List (List UInt8)), cur ≠ [] → (jn 32 cur).length ≤ w → (∀ p ∈ ps, p.length ≤ w) → ∀ g ∈ grp w cur ps, (jn 32 g).length ≤ w
  | [], cur, _, h, _, g, hg => by
    rw [grp, List.mem_singleton] at hg
    rw [hg]
    exact h
  | p :: ps, cur, h0, h, hp, g, hg => by
    rw [grp] at hg
    split at hg
    · rename_i hf
      refine grp_le w ps _ (by simp) ?_ (fun q hq => hp q (by simp [hq])) g hg
      rw [jn_snoc cur p h0, List.length_append, List.length_cons]
      omega
    · rcases List.mem_cons.1 hg with rfl | hg
      · exact h
      · exact grp_le w ps _ (by simp) (by rw [jn_one]; exact hp p (by simp)) (fun q hq => hp q (by simp [hq])) g hg
theorem groups_le {w : Nat} {ps : List (List UInt8)} (hp : ∀ p ∈ ps, p.length ≤ w) : ∀ g ∈ groups w ps, (jn 32 g).length ≤ w := by
  cases ps with
  | nil => intro g hg; cases hg
  | cons p r => exact grp_le w r [p] (by simp) (by rw [jn_one]; exact hp p (by simp)) (fun q hq => hp q (by simp [hq]))
theorem grp_head (w : Nat) : ∀ (ps cur : List (List UInt8)), cur ≠ [] → ∃ g r, grp w cur ps = g :: r ∧ g.headD [] = cur.headD []
  | [], cur, _ => ⟨cur, [], rfl, rfl⟩
  | p :: ps, cur, h => by
    rw [grp]
    split
    · obtain ⟨g, r, h1, h2⟩ := grp_head w ps (cur ++ [p]) (by simp)
      refine ⟨g, r, h1, ?_⟩
      rw [h2]
      cases cur with
      | nil => exact absurd rfl h
      | cons a t => rfl
    · exact ⟨cur, _, rfl, rfl⟩
theorem grp_gap (w : Nat) : ∀ (ps cur : List (List UInt8)), cur ≠ [] → ∀ (i : Nat) (g h : List (List UInt8)), (grp w cur ps)[i]? = some g → (grp w cur ps)[i + 1]? = some h → w < (jn 32 g).length + 1 + (h.headD []).length
  | [], cur, _, i, g, h, h1, h2 => by simp [grp] at h2
  | p :: ps, cur, h0, i, g, h, h1, h2 => by
    rw [grp] at h1 h2
    split at h1
    · rename_i hf
      rw [if_pos hf] at h2
      exact grp_gap w ps _ (by simp) i g h h1 h2
    · rename_i hf
      rw [if_neg hf] at h2
      cases i with
      | zero =>
        obtain ⟨g1, r1, e1, e2⟩ := grp_head w ps [p] (by simp)
        rw [e1] at h2
        simp at h1 h2
        subst h1 h2
        rw [e2]
        simp
        omega
      | succ i =>
        simp at h1 h2
        exact grp_gap w ps _ (by simp) i g h h1 h2
theorem groups_gap {w : Nat} {ps : List (List UInt8)} {i : Nat} {g h : List (List UInt8)} (h1 : (groups w ps)[i]? = some g) (h2 : (groups w ps)[i + 1]? = some h) : w < (jn 32 g).length + 1 + (h.headD []).length := by
  cases ps with
  | nil => simp [groups] at h1
  | cons p r => exact grp_gap w r [p] (by simp) i g h h1 h2

theorem spA_jn {q : UInt8} {g : List (List UInt8)} (h0 : g ≠ []) (h : ∀ x ∈ g, clean q x) : spA q [] (jn q g) = g := by
  cases g with
  | nil => exact absurd rfl h0
  | cons x r =>
    show spA q [] (x ++ tl q r) = _
    rw [spA_app x _ _ (h x (by simp)), List.nil_append, spA_tl r x fun y hy => h y (by simp [hy])]
theorem cut_fst (q : UInt8) (l : List UInt8) : (Lib.cut l [q]).1 = (spA q [] l).headD [] := by
  have hge := Lib.index_ge l [q]
  unfold Lib.cut
  by_cases hm : Lib.index l [q] = -1
  · rw [if_neg (by omega), (spA_index l []).1 hm]
    rfl
  · obtain ⟨i, hi⟩ : ∃ i : Nat, Lib.index l [q] = i := ⟨(Lib.index l [q]).toNat, by omega⟩
    rw [if_pos (by omega), (spA_index l []).2 i hi, hi]
    simp
theorem valid_clean {s : List UInt8} (h : validB s = true) : ∀ c ∈ s, c ≠ 32 := by
  intro c hc e
  subst e
  simp only [validB, Bool.and_eq_true, List.all_eq_true] at h
  have := h.2 32 hc
  revert this
  decide
theorem valid_ne {s : List UInt8} (h : validB s = true) : s ≠ [] := by
  intro e
  subst e
  revert h
  decide
theorem chop_mem {w : Nat} (hw : 0 < w) {s p : List UInt8} (hp : p ∈ chop w s) : ∀ c ∈ p, c ∈ s := by
  intro c hc
  rw [← chop_flat hw _ s (Nat.le_refl _)]
  exact List.mem_flatten.2 ⟨p, hp, hc⟩
theorem pieces_valid {w : Nat} (hw : 0 < w) {ws : List (List UInt8)} (h : ws.all validB = true) : ∀ p ∈ pieces w ws, validB p = true := by
  intro p hp
  obtain ⟨l, hl, hp⟩ := List.mem_flatten.1 hp
  obtain ⟨s, hs, rfl⟩ := List.mem_map.1 hl
  have hv := List.all_eq_true.1 h s hs
  have hne := chop_pos (w := w) (valid_ne hv) p hp
  simp only [validB, Bool.and_eq_true, List.all_eq_true] at hv ⊢
  refine ⟨?_, fun c hc => hv.2 c (chop_mem hw hp c hc)⟩
  cases p with
  | nil => exact absurd rfl hne
  | cons a t => rfl
theorem perr_ok {ws : List (List UInt8)} {w : Nat} (h : perr ws w = 0) : 1 ≤ w ∧ w ≤ 200 ∧ ws.all validB = true := by
  unfold perr at h
  split at h
  · omega
  · split at h
    · rename_i h1 h2
      exact ⟨by omega, by omega, h2⟩
    · omega
theorem perr_of {ws : List (List UInt8)} {w : Nat} (h1 : 1 ≤ w) (h2 : w ≤ 200) : perr ws w = if ws.all validB then 0 else 1 := by
  unfold perr
  rw [if_neg (by omega)]

/-- The first piece of a line does not fit on the line before. -/
theorem greedy_law {w : Nat} {ws : List (List UInt8)} (h : perr ws w = 0) {i : Nat} {a b : List UInt8} (h1 : (wrap w ws)[i]? = some a) (h2 : (wrap w ws)[i + 1]? = some b) : w < a.length + 1 + (Lib.cut b [32]).1.length := by
  obtain ⟨w1, _, hv⟩ := perr_ok h
  rw [wrap, lines_groups, List.getElem?_map] at h1 h2
  obtain ⟨g, hg, rfl⟩ := Option.map_eq_some_iff.1 h1
  obtain ⟨k, hk, rfl⟩ := Option.map_eq_some_iff.1 h2
  have hgap := groups_gap hg hk
  have hkm := List.mem_of_getElem? hk
  have hcl : ∀ x ∈ k, clean 32 x := fun x hx c hc => by
    have hx2 : x ∈ pieces w ws := by rw [← groups_flat w (pieces w ws)]; exact List.mem_flatten.2 ⟨k, hkm, hx⟩
    exact valid_clean (pieces_valid w1 hv x hx2) c hc
  rw [cut_fst, spA_jn (groups_ne _ _ k hkm) hcl]
  exact hgap

/-- One line just where the words fit. -/
theorem jn_len_cons (x y : List UInt8) (r : List (List UInt8)) : (jn 32 (x :: y :: r)).length = x.length + 1 + (jn 32 (y :: r)).length := by
  simp [jn, tl]
  omega
theorem jn_mem_le : ∀ {ws : List (List UInt8)} {x : List UInt8}, x ∈ ws → x.length ≤ (jn 32 ws).length
  | [y], x, h => by
    rw [List.mem_singleton] at h
    rw [h, jn_one]
    exact Nat.le_refl _
  | y :: z :: r, x, h => by
    rw [jn_len_cons]
    rcases List.mem_cons.1 h with rfl | h
    · omega
    · have := jn_mem_le h
      omega
theorem tl_length (r : List (List UInt8)) : (tl 32 r).length = (r.map fun x => x.length + 1).sum := by
  induction r with
  | nil => rfl
  | cons x r ih => rw [tl_cons, List.length_cons, List.length_append, ih, List.map_cons, List.sum_cons]; omega
theorem jn_length {ws : List (List UInt8)} (h : ws ≠ []) : (jn 32 ws).length + 1 = (ws.map fun x => x.length + 1).sum := by
  cases ws with
  | nil => exact absurd rfl h
  | cons x r =>
    rw [jn, List.length_append, tl_length, List.map_cons, List.sum_cons]
    omega
theorem sum_append (a b : List (List UInt8)) : ((a ++ b).map fun x => x.length + 1).sum = (a.map fun x => x.length + 1).sum + (b.map fun x => x.length + 1).sum := by simp
theorem chop_sum {w : Nat} (hw : 0 < w) : ∀ (n : Nat) (s : List UInt8), s.length ≤ n → s.length + 1 ≤ ((chop w s).map fun x => x.length + 1).sum
  | 0, s, hn => by
    rw [chop_short (by omega)]
    simp
  | n + 1, s, hn => by
    rcases Nat.lt_or_ge w s.length with hl | hl
    · have := chop_sum hw n (s.drop w) (by rw [List.length_drop]; omega)
      rw [List.length_drop] at this
      rw [chop_long hw hl, List.map_cons, List.sum_cons, List.length_take]
      omega
    · rw [chop_short hl]
      simp
theorem pieces_sum {w : Nat} (hw : 0 < w) : ∀ ws : List (List UInt8), (ws.map fun x => x.length + 1).sum ≤ ((pieces w ws).map fun x => x.length + 1).sum
  | [] => Nat.le_refl _
  | x :: r => by
    have h1 := chop_sum hw _ x (Nat.le_refl _)
    have h2 := pieces_sum hw r
    rw [pieces_cons, sum_append, List.map_cons, List.sum_cons]
    omega
theorem grp_fits (w : Nat) : ∀ (ps cur : List (List UInt8)), cur ≠ [] → (jn 32 (cur ++ ps)).length ≤ w → grp w cur ps = [cur ++ ps]
  | [], cur, _, _ => by simp [grp]
  | p :: ps, cur, h0, h => by
    have e : cur ++ p :: ps = (cur ++ [p]) ++ ps := by simp
    rw [e] at h
    have h1 : (jn 32 (cur ++ [p])).length ≤ (jn 32 ((cur ++ [p]) ++ ps)).length := by
      have := jn_length_take (q := 32) ((cur ++ [p]) ++ ps) (cur ++ [p]).length
      rwa [List.take_left] at this
    rw [jn_snoc cur p h0, List.length_append, List.length_cons] at h1
    rw [grp, if_pos (by omega), grp_fits w ps (cur ++ [p]) (by simp) h, e]
theorem wrap_one {w : Nat} {ws : List (List UInt8)} (h0 : ws ≠ []) (h : (jn 32 ws).length ≤ w) : wrap w ws = [jn 32 ws] := by
  have hp : pieces w ws = ws := pieces_of_le fun x hx => Nat.le_trans (jn_mem_le hx) h
  rw [wrap, hp, lines_groups]
  cases ws with
  | nil => exact absurd rfl h0
  | cons x r =>
    rw [groups, grp_fits w r [x] (by simp) h]
    rfl
theorem single_law {w : Nat} (hw : 0 < w) {ws : List (List UInt8)} (h0 : ws ≠ []) (h1 : (wrap w ws).length = 1) : (jn 32 ws).length ≤ w := by
  rw [wrap, lines_groups, List.length_map] at h1
  obtain ⟨g, hg⟩ : ∃ g, groups w (pieces w ws) = [g] := by
    match hG : groups w (pieces w ws), h1 with
    | [g], _ => exact ⟨g, rfl⟩
  have hf := groups_flat w (pieces w ws)
  rw [hg] at hf
  have hf2 : g = pieces w ws := by simpa using hf
  have hle := groups_le (pieces_le hw ws) g (by rw [hg]; simp)
  rw [hf2] at hle
  have hs := pieces_sum hw ws
  have h2 := jn_length h0
  have hne : pieces w ws ≠ [] := by
    intro e
    rw [e] at hg
    cases hg
  have h3 := jn_length hne
  omega

/-- No other breaking has fewer lines. -/
def lastLen (L : List (List UInt8)) : Nat := (L.getLastD []).length
def Min (L : List (List UInt8)) (n wide : Nat) : Prop := L.length < n ∨ (L.length = n ∧ lastLen L ≤ wide)
theorem min_first (w : Nat) (p : List UInt8) : Min (step w [] p) 1 p.length := by
  rw [step_nil]
  exact .inr ⟨rfl, Nat.le_refl _⟩
theorem min_break {w n wide : Nat} {L : List (List UInt8)} (p : List UInt8) (h : Min L n wide) : Min (step w L p) (n + 1) p.length := by
  have hc := step_count w L p
  rcases h with h | ⟨h, _⟩
  · exact .inl (by omega)
  · rcases snoc_cases L with rfl | ⟨ys, l, rfl⟩
    · rw [step_nil]
      exact .inr ⟨by simp at h ⊢; omega, Nat.le_refl _⟩
    · rw [step_snoc]
      split
      · exact .inl (by simp at h ⊢; omega)
      · exact .inr ⟨by simp at h ⊢; omega, by simp [lastLen]⟩
theorem min_join {w n wide : Nat} {L : List (List UInt8)} (p : List UInt8) (h0 : L ≠ []) (h : Min L n wide) (hw : wide + 1 + p.length ≤ w) : Min (step w L p) n (wide + 1 + p.length) := by
  obtain ⟨ys, l, rfl⟩ := (snoc_cases L).resolve_left h0
  rw [step_snoc]
  have hl : lastLen (ys ++ [l]) = l.length := by simp [lastLen]
  rcases h with h | ⟨h, h2⟩
  · split
    · exact .inl (by simp at h ⊢; omega)
    · rcases Nat.lt_or_ge (ys ++ [l] ++ [p]).length n with h3 | h3
      · exact .inl h3
      · exact .inr ⟨by simp at h h3 ⊢; omega, by simp [lastLen]⟩
  · rw [hl] at h2
    rw [if_pos (by omega)]
    exact .inr ⟨by simpa using h, by simp [lastLen]; omega⟩

/-- The lines of the first words. -/
theorem foldl_prefix (w : Nat) : ∀ (qs ys : List (List UInt8)) (l : List UInt8), ∃ t zs, qs.foldl (step w) (ys ++ [l]) = ys ++ (l ++ t) :: zs
  | [], ys, l => ⟨[], [], by simp⟩
  | q :: qs, ys, l => by
    rw [List.foldl_cons, step_snoc]
    split
    · obtain ⟨t, zs, h⟩ := foldl_prefix w qs ys (l ++ 32 :: q)
      exact ⟨32 :: q ++ t, zs, by rw [h]; simp⟩
    · obtain ⟨t, zs, h⟩ := foldl_prefix w qs (ys ++ [l]) q
      exact ⟨[], (q ++ t) :: zs, by rw [h]; simp⟩
theorem prefix_law (w : Nat) (ws : List (List UInt8)) (k : Nat) (ys : List (List UInt8)) (l : List UInt8) (h : wrap w (ws.take k) = ys ++ [l]) : ∃ t zs, wrap w ws = ys ++ (l ++ t) :: zs := by
  have e : pieces w ws = pieces w (ws.take k) ++ pieces w (ws.drop k) := by rw [← pieces_append, List.take_append_drop]
  have e2 : wrap w ws = (pieces w (ws.drop k)).foldl (step w) (wrap w (ws.take k)) := by
    rw [wrap, e, lines, List.foldl_append]
    rfl
  rw [e2, h]
  exact foldl_prefix w _ ys l

/-- Breaking the pieces again. -/
theorem stable_law {w : Nat} {ws : List (List UInt8)} (h : perr ws w = 0) : perr (pieces w ws) w = 0 ∧ wrap w (pieces w ws) = wrap w ws := by
  obtain ⟨w1, w2, hv⟩ := perr_ok h
  constructor
  · rw [perr_of w1 w2, if_pos (List.all_eq_true.2 (pieces_valid w1 hv))]
  · rw [wrap, wrap, pieces_of_le (pieces_le w1 ws)]
theorem line_split {w : Nat} {ws : List (List UInt8)} (h : perr ws w = 0) : ((wrap w ws).map (spA 32 [])).flatten = pieces w ws := by
  obtain ⟨w1, _, hv⟩ := perr_ok h
  rw [wrap, lines_groups, List.map_map]
  have e : (groups w (pieces w ws)).map (spA 32 [] ∘ jn 32) = groups w (pieces w ws) := by
    refine (List.map_congr_left fun g hg => ?_).trans (List.map_id _)
    refine spA_jn (groups_ne _ _ g hg) fun x hx c hc => ?_
    have hx2 : x ∈ pieces w ws := by rw [← groups_flat w (pieces w ws)]; exact List.mem_flatten.2 ⟨g, hg, hx⟩
    exact valid_clean (pieces_valid w1 hv x hx2) c hc
  rw [e, groups_flat]
end Go.Proofs.YtbfgjngljggbpaaDoor.Par
