/-
  Plain: sizes behind actions; ager.Apply in the reading's words.
-/
import Derived.Test.YtghpolfmhnnbaaaDoorAgAwake
namespace Go.Proofs.YtghpolfmhnnbaaaDoor
open Go.RowKit

def Bnd (K : Nat) (rs : List Reel) : Prop := rs.length ≤ 6 ∧ ∀ r ∈ rs, r.ps.length ≤ K ∧ ∀ x ∈ r.ps, x.length ≤ 200
theorem Bnd.fine {K : Nat} {rs : List Reel} (h : Bnd K rs) (hK : K ≤ 65536) : Fine rs :=
  ⟨by have := h.1; omega, fun r hr => ⟨by have := (h.2 r hr).1; omega, fun x hx => by have := (h.2 r hr).2 x hx; omega⟩⟩
theorem Bnd.more {K K' : Nat} {rs : List Reel} (h : Bnd K rs) (hK : K ≤ K') : Bnd K' rs := ⟨h.1, fun r hr => ⟨Nat.le_trans (h.2 r hr).1 hK, (h.2 r hr).2⟩⟩
theorem rep_len {α : Type} {l : List α} {i : Nat} (b : List α) (h : i < l.length) : (rep l i b).length + 1 = l.length + b.length := by
  unfold rep
  rw [List.length_append, List.length_append, List.length_take, List.length_drop]
  omega
theorem rep_mem {α : Type} {l : List α} {i : Nat} {b : List α} {x : α} (h : x ∈ rep l i b) : x ∈ l ∨ x ∈ b := by
  unfold rep at h
  rcases List.mem_append.1 h with h | h
  · exact .inl (List.mem_of_mem_take h)
  · rcases List.mem_append.1 h with h | h
    · exact .inr h
    · exact .inl (List.mem_of_mem_drop h)
theorem inside_lt {x : List UInt8} {d : Dmg} (h : inside x d = true) : d.at_.toNat < x.length ∧ 0 ≤ d.at_ := by
  unfold inside at h
  rw [Bool.and_eq_true, decide_eq_true_eq, decide_eq_true_eq] at h
  omega
theorem over_len {x : List UInt8} {a n : Nat} (h : a + n ≤ x.length) : (over x a n).length = x.length := by
  unfold over
  rw [List.length_append, List.length_append, List.length_take, List.length_drop, List.length_replicate]
  omega
theorem burstN_le {x : List UInt8} {d : Dmg} (h : inside x d = true) : d.at_.toNat + burstN x d ≤ x.length := by
  have := inside_lt h
  unfold burstN
  omega
/-- What replaces a piece is at most two pieces, none longer. -/
theorem pieceE_bd {d : Dmg} {x : List UInt8} {b : List (List UInt8)} (h : pieceE d x = some b) : b.length ≤ 2 ∧ ∀ y ∈ b, y.length ≤ x.length := by
  unfold pieceE at h
  split at h
  · split at h
    · obtain rfl := Option.some.inj h
      have := inside_lt ‹_›
      refine ⟨by simp, fun y hy => ?_⟩
      rw [List.mem_singleton] at hy
      subst hy
      have := rep_len [63] this.1
      simp at this
      omega
    · cases h
  · split at h
    · split at h
      · obtain rfl := Option.some.inj h
        have := inside_lt ‹_›
        refine ⟨by simp, fun y hy => ?_⟩
        rw [List.mem_singleton] at hy
        subst hy
        have := rep_len [inv1 (x.getD d.at_.toNat 0)] this.1
        simp at this ⊢
        omega
      · cases h
    · split at h
      · obtain rfl := Option.some.inj h
        exact ⟨by simp, fun y hy => by simp at hy⟩
      · split at h
        · split at h
          · obtain rfl := Option.some.inj h
            refine ⟨by simp, fun y hy => ?_⟩
            simp only [List.mem_cons, List.not_mem_nil, or_false] at hy
            rcases hy with rfl | rfl
            · rw [List.length_take]; omega
            · rw [List.length_drop]; omega
          · cases h
        · split at h
          · obtain rfl := Option.some.inj h
            refine ⟨by simp, fun y hy => ?_⟩
            simp only [List.mem_cons, List.not_mem_nil, or_false, or_self] at hy
            subst hy
            exact Nat.le_refl _
          · split at h
            · split at h
              · rename_i hc
                obtain rfl := Option.some.inj h
                rw [Bool.and_eq_true] at hc
                refine ⟨by simp, fun y hy => ?_⟩
                rw [List.mem_singleton] at hy
                subst hy
                rw [over_len (burstN_le hc.1)]
                exact Nat.le_refl _
              · cases h
            · cases h
theorem editP_bd {K : Nat} {d : Dmg} {ps : List (List UInt8)} (h : ps.length ≤ K) (hx : ∀ x ∈ ps, x.length ≤ 200) : (editP d ps).length ≤ K + 1 ∧ ∀ x ∈ editP d ps, x.length ≤ 200 := by
  unfold editP
  split
  · rename_i hp
    obtain ⟨q, hq⟩ : ∃ q, d.piece.toNat = q := ⟨_, rfl⟩
    have hql : q < ps.length := by omega
    have hmem : ps.getD q [] ∈ ps := by rw [List.getD_eq_getElem?_getD, List.getElem?_eq_getElem hql, Option.getD_some]; exact List.getElem_mem hql
    rw [hq]
    unfold edit
    split
    · split
      · refine ⟨by rw [Option.getD_some, List.length_set, List.length_set]; omega, fun x hx2 => ?_⟩
        rw [Option.getD_some] at hx2
        rcases List.mem_or_eq_of_mem_set hx2 with h2 | rfl
        · rcases List.mem_or_eq_of_mem_set h2 with h3 | rfl
          · exact hx x h3
          · rw [List.getD_eq_getElem?_getD]
            cases h4 : ps[d.at_.toNat]? with
            | none => simp
            | some y => exact hx y (List.mem_of_getElem? h4)
        · exact hx _ hmem
      · exact ⟨by rw [Option.getD_none]; omega, by rw [Option.getD_none]; exact hx⟩
    · cases hb : pieceE d (ps.getD q []) with
      | none => exact ⟨by show ps.length ≤ _; omega, hx⟩
      | some b =>
        obtain ⟨h1, h2⟩ := pieceE_bd hb
        show (rep ps q b).length ≤ _ ∧ ∀ x ∈ rep ps q b, _
        have := rep_len b hql
        refine ⟨by omega, fun x hx2 => ?_⟩
        rcases rep_mem hx2 with h3 | h3
        · exact hx x h3
        · have := h2 x h3
          have := hx _ hmem
          omega
  · exact ⟨by omega, hx⟩
theorem applyR_bd {K : Nat} {rs : List Reel} (h : Bnd K rs) (d : Dmg) : Bnd (K + 1) (applyR rs d) := by
  unfold applyR
  split
  · split
    · refine ⟨Nat.le_trans (List.length_eraseIdx_le _ _) h.1, fun r hr => ?_⟩
      have := h.2 r (List.mem_of_mem_eraseIdx hr)
      exact ⟨by omega, this.2⟩
    · split
      · rename_i r hr
        refine ⟨by rw [List.length_set]; exact h.1, fun y hy => ?_⟩
        rcases List.mem_or_eq_of_mem_set hy with h2 | rfl
        · have := h.2 y h2
          exact ⟨by omega, this.2⟩
        · have := h.2 r (List.mem_of_getElem? hr)
          exact editP_bd this.1 this.2
      · exact h.more (by omega)
  · exact h.more (by omega)
def ageR (rs : List Reel) (ds : List Dmg) : List Reel := ds.foldl applyR rs
theorem ageR_snoc (rs : List Reel) (ds : List Dmg) (d : Dmg) : ageR rs (ds ++ [d]) = applyR (ageR rs ds) d := by simp [ageR]
theorem ageR_bd {K : Nat} {rs : List Reel} (h : Bnd K rs) : ∀ ds : List Dmg, Bnd (K + ds.length) (ageR rs ds) := by
  intro ds
  induction ds generalizing rs K with
  | nil => exact h
  | cons d ds ih =>
    have := ih (applyR_bd h d)
    rw [List.length_cons, show K + (ds.length + 1) = K + 1 + ds.length by omega]
    exact this

theorem apply_r (ao : Option Addr) (n cap : Nat) (rs : List Reel) (k r p a l : Int) (w : World) (hr : Reels w ao n rs) (hf : Fine rs) (hl64 : l ≤ 9223372036854775807) (h8 : k = 8 → Burst8) :
    Calls Tryd.prog 7 #[.slice ao n cap, .agg #[.int .i64 k, .int .i64 r, .int .i64 p, .int .i64 a, .int .i64 l]] w fun e w' => ∃ a' c', e = .returned (.slice a' (applyR rs ⟨k, r, p, a, l⟩).length c') ∧ Reels w' a' (applyR rs ⟨k, r, p, a, l⟩).length (applyR rs ⟨k, r, p, a, l⟩) ∧ (applyR rs ⟨k, r, p, a, l⟩).length ≤ c' ∧ c' ≤ 9223372036854775807 ∧ Below w.heap.size w w' := by
  refine (apply_any ao n cap rs k r p a l w hr hf hl64 h8).mono ?_
  rintro e w' ⟨v, rfl, ho, hb⟩
  obtain ⟨a', c', rfl, h1, h2, _⟩ := ho.form
  unfold maxLen at h2
  exact ⟨a', c', rfl, ho.read, h1, by omega, hb⟩
theorem burst8 : Burst8 := fun ao n cap p ps x r a l w h hl => edit8_any ao n cap p ps x r a l w h hl
theorem small_bnd {rs : List Reel} (h : smallR rs = true) : Bnd 6 rs := by
  unfold smallR smallP at h
  simp only [Bool.and_eq_true, decide_eq_true_eq, List.all_eq_true] at h
  exact h
theorem reels_len {w : World} {ao : Option Addr} {n : Nat} {rs : List Reel} (h : Reels w ao n rs) : n = rs.length := h.1
end Go.Proofs.YtghpolfmhnnbaaaDoor
