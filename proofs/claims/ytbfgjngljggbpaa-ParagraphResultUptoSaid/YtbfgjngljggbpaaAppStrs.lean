/-
  append(a, b...) of slices of strings, both of which the call has made.
-/
import Derived.Test.YtbfgjngljggbpaaStrs
import Derived.Laws.AppendOwnNone
namespace Go.Proofs.Ytbfgjngljggbpaa
open Go.RowKit

theorem strsL_append (a b : List (List UInt8)) : strsL (a ++ b) = strsL a ++ strsL b := by simp [strsL]
theorem strs_one (l : List (List UInt8)) : ∀ u ∈ strsL l, u.oneCell' = true := by
  intro u hu
  obtain ⟨x, _, rfl⟩ := List.mem_map.1 hu
  rfl
theorem wpList_appStrs {ops : Array Oper} {rest : List Oper} {o : Oper} {a : Act} {Q : Exit → Act → World → Prop} {w : World} (hgd : o.guard = none) (s x : Operand)
    (ho : o.op = .call { callee := .builtin .append, args := #[s, x], argTypes := #[22, 22] }) (B : Nat) (v : Value) (xs : List (List UInt8)) (hs : a.eval s = v) (hown : Own w B 9 v (strsL xs))
    (B2 : Nat) (v2 : Value) (ys : List (List UInt8)) (hx : a.eval x = v2) (hy : Own w B2 9 v2 (strsL ys)) (hlen : xs.length + ys.length ≤ 8796093022208) (hB : B ≤ w.heap.size)
    (h : ∀ v' w', Own w' B 9 v' (strsL (xs ++ ys)) → Below B w w' → w.grownBy w' v.ownBlock → wpList Try.prog ops Q rest (a.put o.dst v') w') :
    wpList Try.prog ops Q (o :: rest) a w := by
  obtain ⟨i, hi, hz0, hz1, hz2⟩ := info_parts info_str
  rcases hy.2 with ⟨rfl, hn⟩ | ⟨g, cap, cur, rfl, h1, hh, h2, h3, h4, ht⟩
  · obtain rfl : ys = [] := List.eq_nil_of_length_eq_zero (by rw [strsL_length] at hn; exact hn)
    refine wpList_append_own_none hgd s x 22 ho B 9 i 1 Try.underlying22 hi v (strsL xs).length (strsL xs) hs hown hx ?_
    exact h v w (by rw [List.append_nil]; exact hown) (Below.refl _ _) ⟨rfl, rfl, rfl, Nat.le_refl _, fun _ _ _ => rfl⟩
  · refine wpList_append_own _ hgd s x 22 ho B 9 i (.string ByteArray.empty) 1 16 Try.underlying22 hi hz0 hz1 hz2 rfl (by decide) v (strsL xs).length (strsL xs) hs hown ⟨g, 0, none⟩ (strsL ys).length cap (strsL ys) hx (by omega) ?_ (strs_one ys) ?_ ?_ hB ?_
    · intro j u hj
      have := hy.cell j u hj
      rwa [Addr.add_lit, Nat.zero_add]
    · rw [strsL_length, strsL_length]
      unfold maxLen
      omega
    · rw [strsL_length, strsL_length]
      omega
    · intro v' w' hown' hg _
      refine h v' w' ?_ ((Below.refl B w).grown hg hB fun k hk => (World.ownsRow.lt hown k hk).1) hg
      unfold Own
      rw [strsL_append, List.length_append]
      exact hown'
end Go.Proofs.Ytbfgjngljggbpaa
