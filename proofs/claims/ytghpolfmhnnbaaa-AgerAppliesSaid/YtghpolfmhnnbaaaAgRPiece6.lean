/-
  The reference's piece.
-/
import Derived.Test.YtghpolfmhnnbaaaAgRPiece5
import Derived.Test.YtghpolfmhnnbaaaAgUndoP
namespace Go.Proofs.Ytghpolfmhnnbaaa
open Go.RowKit

theorem put_one {x : List UInt8} {a : Nat} (v : UInt8) : put x a 1 v = rep x a [v] := rfl
theorem put_over (x : List UInt8) (a m : Nat) : put x a m 49 = over x a m := rfl
theorem rpiece_any (k : Int) (x : List UInt8) (r p a l : Int) (w : World) (hx : x.length ≤ 65536) (hl : l ≤ 9223372036854775807) :
    Calls Try.prog 24 #[.string ⟨x.toArray⟩, .agg #[.int .i64 k, .int .i64 r, .int .i64 p, .int .i64 a, .int .i64 l]] w (PieceP (pieceE ⟨k, r, p, a, l⟩ x) w) := by
  by_cases h3 : k = 3
  · subst h3
    exact rpiece_3 x r p a l w
  by_cases h7 : k = 7
  · subst h7
    exact rpiece_7 x r p a l w
  by_cases hk : k = 1 ∨ k = 2 ∨ k = 5 ∨ k = 8
  · by_cases hin : 0 ≤ a ∧ a < x.length
    · obtain ⟨b, rfl⟩ : ∃ b : Nat, a = b := ⟨a.toNat, by omega⟩
      have hb : b < x.length := by omega
      have hi : inside x ⟨k, r, p, b, l⟩ = true := by simp [inside]; omega
      rcases hk with rfl | rfl | rfl | rfl
      · have e : pieceE ⟨1, r, p, b, l⟩ x = some [put x b 1 63] := by
          unfold pieceE
          rw [if_pos rfl, if_pos hi]
          rfl
        rw [e]
        exact rpiece_1 x r p l b w hx hb
      · obtain ⟨c, hc⟩ : ∃ c, x[b]? = some c := ⟨_, List.getElem?_eq_getElem hb⟩
        have e : pieceE ⟨2, r, p, b, l⟩ x = some [put x b 1 (inv1 c)] := by
          unfold pieceE
          rw [if_neg (by show ¬ ((2 : Int) = 1); decide), if_pos rfl, if_pos hi]
          show some [rep x b [inv1 (x.getD b 0)]] = _
          rw [List.getD_eq_getElem?_getD, hc]
          rfl
        rw [e]
        exact rpiece_2 x r p l b c w hx hb hc
      · by_cases h1 : 1 ≤ b
        · have e : pieceE ⟨5, r, p, b, l⟩ x = some [x.take b, x.drop b] := by
            unfold pieceE
            rw [if_neg (by show ¬ ((5 : Int) = 1); decide), if_neg (by show ¬ ((5 : Int) = 2); decide), if_neg (by show ¬ ((5 : Int) = 3); decide), if_pos rfl, if_pos (by simp [hi]; omega)]
            rfl
          rw [e]
          exact rpiece_5 x r p l b w h1 hb
        · obtain rfl : b = 0 := by omega
          have e : pieceE ⟨5, r, p, (0 : Nat), l⟩ x = none := by
            unfold pieceE
            rw [if_neg (by show ¬ ((5 : Int) = 1); decide), if_neg (by show ¬ ((5 : Int) = 2); decide), if_neg (by show ¬ ((5 : Int) = 3); decide), if_pos rfl, if_neg (by simp)]
          rw [e]
          exact rpiece_50 x r p l w hb
      · have e0 : pieceE ⟨8, r, p, b, l⟩ x = if inside x ⟨8, r, p, b, l⟩ && decide (1 ≤ l) then some [over x b (burstN x ⟨8, r, p, b, l⟩)] else none := rfl
        by_cases h1 : 1 ≤ l
        · rw [e0, if_pos (by simp [hi, h1])]
          exact rpiece_8 x r p l b w hx hb h1 hl _ rfl
        · rw [e0, if_neg (by simp [h1])]
          exact rpiece_80 x r p l b w hb (by omega)
    · have hi : inside x ⟨k, r, p, a, l⟩ = false := by simp [inside]; omega
      have e : pieceE ⟨k, r, p, a, l⟩ x = none := by
        unfold pieceE
        rcases hk with rfl | rfl | rfl | rfl <;> simp [hi]
      rw [e]
      by_cases h0 : a < 0
      · exact rpiece_out1 k hk x r p a l w h0
      · exact rpiece_out2 k hk x r p a l w (by omega) (by omega)
  · have e : pieceE ⟨k, r, p, a, l⟩ x = none := by
      unfold pieceE
      rw [if_neg (by show ¬ (k = 1); omega), if_neg (by show ¬ (k = 2); omega), if_neg (by show ¬ (k = 3); omega), if_neg (by show ¬ (k = 5); omega), if_neg (by show ¬ (k = 7); omega), if_neg (by show ¬ (k = 8); omega)]
    rw [e]
    exact rpiece_other k x r p a l w (beq_eq_false_iff_ne.2 (by omega)) (beq_eq_false_iff_ne.2 (by omega)) (beq_eq_false_iff_ne.2 h3) (beq_eq_false_iff_ne.2 (by omega)) (beq_eq_false_iff_ne.2 h7) (beq_eq_false_iff_ne.2 (by omega))
end Go.Proofs.Ytghpolfmhnnbaaa
