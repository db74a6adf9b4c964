/-
  The law ViterbiExtract, walked.
-/
import Derived.Test.YtnklgppfggkeoaaDoorVitLaw1
namespace Go.Proofs.YtnklgppfggkeoaaDoor
open Go.RowKit

namespace Vit
/-- What the law says of a string of cells. -/
theorem extract_cases (c : List UInt8) (hl : c.length ≤ 400) :
    (Conv.ansE c = 0 ∧ vErr c = 0 ∧ decX c = Conv.ansX c ∧ decN c = 0 ∧ decO c = true) ∨ (Conv.ansE c = 3 ∧ vErr c = 3 ∧ decX c = []) ∨ (Conv.ansE c = 4 ∧ vErr c = 4 ∧ decX c = []) ∨
    (Conv.ansE c = 11 ∧ vErr c = 0 ∧ 0 < decN c) ∨ (Conv.ansE c = 11 ∧ vErr c = 0 ∧ decN c ≤ 0 ∧ 0 < Cells.unread c) := by
  cases hok : Cells.ok c
  · right; left
    have e : vErr c = 3 := by unfold vErr; rw [if_neg (by rw [hok]; decide)]
    exact ⟨(Conv.ans_syntax hok).2, e, (dec_bad (by rw [e]; decide)).1⟩
  · by_cases h2 : c.length % 2 = 0 ∧ 4 ≤ c.length
    · have e := err_ok hok h2
      obtain ⟨d1, d2, d3⟩ := dec_ok e
      cases h63 : c.contains 63
      · have hk := Conv.ok_of_cells c hok h63
        obtain ⟨a1, a2⟩ := Conv.ans_bits hk h2 (by omega)
        rcases Conv.ext_cases c (c.length / 2) (by omega) hk with ⟨s, hs, rfl, hx, he⟩ | ⟨hno, hx, he⟩
        · obtain ⟨w1, w2, w3⟩ := code_word s hs
          left
          rw [a1, a2, d1, d2, d3, hx, he, w1, w2, w3]
          exact ⟨rfl, e, rfl, rfl, rfl⟩
        · right; right; right; left
          refine ⟨by rw [a2, he], e, ?_⟩
          rw [d2]
          obtain ⟨m1, m2, m3, m4, -⟩ := main c (c.length / 2) (by omega) (by omega)
          apply Classical.byContradiction
          intro hn
          have h0 : Cells.dist (Conv.code (bits c)) c = 0 := by omega
          have no : ∀ l, Conv.ok l = true → ∀ x ∈ l, x ≠ 63 := fun l hl x hx e => by
            unfold Conv.ok at hl
            rw [List.all_eq_true] at hl
            have := hl x hx
            subst e
            cases this
          exact hno (bits c) (Cells.eq_of_dist _ _ (by rw [Conv.code_length, m3]; omega) (no _ (Conv.ok_code _)) (no _ hk) h0)
      · right; right; right
        have hu : 0 < Cells.unread c := by
          unfold Cells.unread
          exact List.count_pos_iff.2 (List.contains_iff_mem.1 h63)
        by_cases hd : 0 < decN c
        · exact .inl ⟨(Conv.ans_open hok h2 h63).2, e, hd⟩
        · exact .inr ⟨(Conv.ans_open hok h2 h63).2, e, by omega, hu⟩
    · right; right; left
      have e : vErr c = 4 := by unfold vErr; rw [if_pos hok, if_neg h2]
      exact ⟨(Conv.ans_short hok h2).2, e, (dec_bad (by rw [e]; decide)).1⟩
end Vit

set_option maxHeartbeats 4000000 in
theorem law_vextract (a0 : ByteArray) (w0 : a0.size ≤ 140737488351232) (w : World) :
    Calls Tryd.prog 10 #[.string a0] w fun e w' => e = .returned (.bool true) ∧ Below w.heap.size w w' := by
  have hl := toList_length a0
  by_cases hA : 400 < (a0.size : Int)
  · go_enter Tryd.func10, Tryd.ntmps10
    go_wp2_with fail
    refine (awake_any _).mono ?_
    rintro e w1 ⟨rfl, hb1⟩
    go_wp2_with fail
    go_ret
    exact ⟨rfl, hb1⟩
  · have h1 := fun w => extract_all a0 w (by omega)
    have h2 := fun w => decode_any a0 w (by omega)
    have h3 := fun w => unread_any a0 w
    have hcs := Vit.extract_cases a0.data.toList (by omega)
    have hY : ∀ Y : ByteArray, (Y.toList == Y.toList) = true := fun Y => by simp
    rcases hcs with ⟨e1, e2, e3, e4, e5⟩ | ⟨e1, e2, e3⟩ | ⟨e1, e2, e3⟩ | ⟨e1, e2, e3⟩ | ⟨e1, e2, e3, e4⟩
    · rw [e1] at h1
      rw [e2, e3, e4, e5] at h2
      generalize (⟨(Conv.ansX a0.data.toList).toArray⟩ : ByteArray) = X at *
      have H1 := Lib.hid h1
      have H2 := Lib.hid h2
      have hX := hY X
      clear h1 h2 h3 hY e1 e2 e3 e4 e5
      go_enter Tryd.func10, Tryd.ntmps10
      go_wp2_with fail
      refine (H1.out _).mono ?_
      rintro e w1 ⟨rfl, hb1⟩
      go_wp2_with fail
      refine (H2.out _).mono ?_
      rintro e w2 ⟨rfl, hb2⟩
      go_wp2_with fail
      refine (awake_any _).mono ?_
      rintro e w3 ⟨rfl, hb3⟩
      go_wp2_with fail
      go_ret
      exact ⟨rfl, bchain (bchain hb1 hb2) hb3⟩
    · rw [e1] at h1
      rw [e2, e3] at h2
      generalize Vit.decN a0.data.toList = N at *
      generalize Vit.decO a0.data.toList = O at *
      generalize (⟨(Conv.ansX a0.data.toList).toArray⟩ : ByteArray) = X at *
      have H1 := Lib.hid h1
      have H2 := Lib.hid h2
      clear h1 h2 h3 hY e1 e2 e3
      go_enter Tryd.func10, Tryd.ntmps10
      go_wp2_with fail
      refine (H1.out _).mono ?_
      rintro e w1 ⟨rfl, hb1⟩
      go_wp2_with fail
      refine (H2.out _).mono ?_
      rintro e w2 ⟨rfl, hb2⟩
      go_wp2_with fail
      refine (awake_any _).mono ?_
      rintro e w3 ⟨rfl, hb3⟩
      go_wp2_with fail
      go_ret
      exact ⟨rfl, bchain (bchain hb1 hb2) hb3⟩
    · rw [e1] at h1
      rw [e2, e3] at h2
      generalize Vit.decN a0.data.toList = N at *
      generalize Vit.decO a0.data.toList = O at *
      generalize (⟨(Conv.ansX a0.data.toList).toArray⟩ : ByteArray) = X at *
      have H1 := Lib.hid h1
      have H2 := Lib.hid h2
      clear h1 h2 h3 hY e1 e2 e3
      go_enter Tryd.func10, Tryd.ntmps10
      go_wp2_with fail
      refine (H1.out _).mono ?_
      rintro e w1 ⟨rfl, hb1⟩
      go_wp2_with fail
      refine (H2.out _).mono ?_
      rintro e w2 ⟨rfl, hb2⟩
      go_wp2_with fail
      refine (awake_any _).mono ?_
      rintro e w3 ⟨rfl, hb3⟩
      go_wp2_with fail
      go_ret
      exact ⟨rfl, bchain (bchain hb1 hb2) hb3⟩
    · rw [e1] at h1
      rw [e2] at h2
      generalize Vit.decN a0.data.toList = N at *
      generalize Vit.decO a0.data.toList = O at *
      generalize (⟨(Vit.decX a0.data.toList).toArray⟩ : ByteArray) = Z at *
      generalize (⟨(Conv.ansX a0.data.toList).toArray⟩ : ByteArray) = X at *
      have H1 := Lib.hid h1
      have H2 := Lib.hid h2
      clear h1 h2 h3 hY e1 e2
      go_enter Tryd.func10, Tryd.ntmps10
      go_wp2_with fail
      refine (H1.out _).mono ?_
      rintro e w1 ⟨rfl, hb1⟩
      go_wp2_with fail
      refine (H2.out _).mono ?_
      rintro e w2 ⟨rfl, hb2⟩
      go_wp2_with fail
      refine (awake_any _).mono ?_
      rintro e w3 ⟨rfl, hb3⟩
      go_wp2_with fail
      go_ret
      exact ⟨rfl, bchain (bchain hb1 hb2) hb3⟩
    · rw [e1] at h1
      rw [e2] at h2
      generalize Vit.decN a0.data.toList = N at *
      generalize Vit.decO a0.data.toList = O at *
      generalize (⟨(Vit.decX a0.data.toList).toArray⟩ : ByteArray) = Z at *
      generalize (⟨(Conv.ansX a0.data.toList).toArray⟩ : ByteArray) = X at *
      generalize Cells.unread a0.data.toList = U at *
      have H1 := Lib.hid h1
      have H2 := Lib.hid h2
      have H3 := Lib.hid h3
      clear h1 h2 h3 hY e1 e2
      go_enter Tryd.func10, Tryd.ntmps10
      go_wp2_with fail
      refine (H1.out _).mono ?_
      rintro e w1 ⟨rfl, hb1⟩
      go_wp2_with fail
      refine (H2.out _).mono ?_
      rintro e w2 ⟨rfl, hb2⟩
      go_wp2_with fail
      refine (H3.out _).mono ?_
      rintro e w4 ⟨rfl, rfl⟩
      go_wp2_with fail
      refine (awake_any _).mono ?_
      rintro e w3 ⟨rfl, hb3⟩
      go_wp2_with fail
      go_ret
      exact ⟨rfl, bchain (bchain hb1 hb2) hb3⟩
end Go.Proofs.YtnklgppfggkeoaaDoor
