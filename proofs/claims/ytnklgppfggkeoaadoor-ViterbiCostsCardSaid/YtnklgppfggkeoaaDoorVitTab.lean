/-
  The table of stages in one block.
-/
import Derived.Test.YtnklgppfggkeoaaDoorVitBef
namespace Go.Proofs.YtnklgppfggkeoaaDoor
open Go.RowKit

theorem block_sets {b : Nat} {E : TypeId} {m : Nat × Nat} : ∀ (vs : List Value) (o : Nat) (L : List Value) (w : World), w.heap[b]? = some (.cells L.toArray E m) → o + vs.length ≤ L.length → (w.setCells b o vs).heap[b]? = some (.cells (L.take o ++ vs ++ L.drop (o + vs.length)).toArray E m)
  | [], o, L, w, h, _ => by
    rw [List.append_nil, List.length_nil, Nat.add_zero, List.take_append_drop]
    exact h
  | v :: r, o, L, w, h, hl => by
    have h1 := block_set (i := o) h v
    rw [List.setIfInBounds_toArray] at h1
    have hlo : o < L.length := by simp at hl; omega
    have h2 := block_sets r (o + 1) (L.set o v) (w.setCell ⟨b, o, none⟩ v) h1 (by rw [List.length_set]; simp at hl; omega)
    have e1 : (L.set o v).take (o + 1) = L.take o ++ [v] := by
      rw [List.take_succ_eq_append_getElem (by rw [List.length_set]; exact hlo), List.take_set_of_le (Nat.le_refl o), List.getElem_set_self]
    have e2 : (L.set o v).drop (o + 1 + r.length) = L.drop (o + (v :: r).length) := by
      rw [List.drop_set_of_lt (by omega), List.length_cons]
      congr 1
      omega
    rw [e1, e2, List.append_assoc, List.append_assoc] at h2
    rw [List.append_assoc]
    exact h2

def tabL : List UInt8 → List Value
  | x :: y :: r => (stgC (Vit.before x y (Vit.dp r))).toList ++ tabL r
  | _ => (stgC Vit.last).toList
theorem tabL_get (c : List UInt8) (i : Nat) (hi : i < 8) : (tabL c)[i]? = (stgC (Vit.dp c)).toList[i]? := by
  match c with
  | x :: y :: r =>
    rw [tabL, List.getElem?_append_left (by exact hi)]
    rfl
  | [_] => rfl
  | [] => rfl
theorem tabL_length : ∀ (n : Nat) (c : List UInt8), c.length = 2 * n → (tabL c).length = 8 * (n + 1)
  | 0, c, h => by
    obtain rfl : c = [] := List.eq_nil_of_length_eq_zero (by omega)
    rfl
  | n + 1, c, h => by
    match c, h with
    | x :: y :: r, h =>
      have h2 := tabL_length n r (by simp at h; omega)
      rw [tabL, List.length_append, h2]
      show 8 + 8 * (n + 1) = _
      omega
    | [_], h => simp at h; omega
    | [], h => simp at h
/-- The table while the stages from k on are known. -/
def tabK (c : List UInt8) (k : Nat) : List Value := List.replicate (8 * k) (.int .i64 0) ++ tabL (c.drop (2 * k))
theorem tabK_length (c : List UInt8) (n k : Nat) (hc : c.length = 2 * n) (hk : k ≤ n) : (tabK c k).length = 8 * (n + 1) := by
  rw [tabK, List.length_append, List.length_replicate, tabL_length (n - k) _ (by rw [List.length_drop]; omega)]
  omega
theorem tabK_get (c : List UInt8) (k i : Nat) (hi : i < 8) : (tabK c k)[k * 8 + i]? = (stgC (Vit.dp (c.drop (2 * k)))).toList[i]? := by
  rw [tabK, List.getElem?_append_right (by rw [List.length_replicate]; omega), List.length_replicate, show k * 8 + i - 8 * k = i by omega, tabL_get _ _ hi]
theorem tabK_zero (c : List UInt8) (k i : Nat) (hi : i < 8) : (tabK c (k + 1))[k * 8 + i]? = some (.int .i64 0) := by
  rw [tabK, List.getElem?_append_left (by rw [List.length_replicate]; omega), List.getElem?_replicate, if_pos (by omega)]
theorem tabK_store (c : List UInt8) (k : Nat) (x y : UInt8) (hx : c[2 * k]? = some x) (hy : c[2 * k + 1]? = some y) :
    (tabK c (k + 1)).take (k * 8) ++ (stgC (Vit.before x y (Vit.dp (c.drop (2 * (k + 1)))))).toList ++ (tabK c (k + 1)).drop (k * 8 + 8) = tabK c k := by
  obtain ⟨h1, rfl⟩ := List.getElem?_eq_some_iff.1 hx
  obtain ⟨h2, rfl⟩ := List.getElem?_eq_some_iff.1 hy
  have e : c.drop (2 * k) = c[2 * k] :: c[2 * k + 1] :: c.drop (2 * (k + 1)) := by
    rw [List.drop_eq_getElem_cons h1, List.drop_eq_getElem_cons h2]
    rfl
  unfold tabK
  rw [e, tabL, List.take_append_of_le_length (by rw [List.length_replicate]; omega), List.take_replicate, List.drop_append_of_le_length (by rw [List.length_replicate]; omega), List.drop_replicate, show min (k * 8) (8 * (k + 1)) = 8 * k by omega, show 8 * (k + 1) - (k * 8 + 8) = 0 by omega, List.replicate_zero, List.nil_append, List.append_assoc]
theorem made8 (n : Nat) : (madeCells #[.int .i64 0, .int .i64 0, .int .i64 0, .int .i64 0, .int .i64 0, .int .i64 0, .int .i64 0, .int .i64 0] n) = (List.replicate n (Value.int .i64 0)).toArray := by
  apply Array.ext
  · simp [madeCells]
  · intro i h1 h2
    have h3 : i % 8 < 8 := Nat.mod_lt _ (by omega)
    simp [madeCells]
    have h8 : i % 8 = 0 ∨ i % 8 = 1 ∨ i % 8 = 2 ∨ i % 8 = 3 ∨ i % 8 = 4 ∨ i % 8 = 5 ∨ i % 8 = 6 ∨ i % 8 = 7 := by omega
    rcases h8 with h | h | h | h | h | h | h | h <;> rw [h] <;> rfl
/-- The first table: all zero but the last stage. -/
theorem tab_first (c : List UInt8) (n : Nat) (hc : c.length = 2 * n) :
    (List.replicate (8 * (n + 1)) (Value.int .i64 0)).take (n * 8) ++ (stgC Vit.last).toList ++ (List.replicate (8 * (n + 1)) (Value.int .i64 0)).drop (n * 8 + 8) = tabK c n := by
  unfold tabK
  rw [List.take_replicate, List.drop_replicate, show min (n * 8) (8 * (n + 1)) = 8 * n by omega, show 8 * (n + 1) - (n * 8 + 8) = 0 by omega, List.replicate_zero, List.append_nil, show c.drop (2 * n) = [] by rw [← hc, List.drop_length]]
  rfl
/-- A table that is ready: block g holds the stages of c. -/
def Tab (W : World) (g : Nat) (E : TypeId) (c : List UInt8) : Prop := W.heap[g]? = some (.cells (tabL c).toArray E (0, 0))
theorem tabL_at (c : List UInt8) (n k i : Nat) (hc : c.length = 2 * n) (hk : k ≤ n) (hi : i < 8) : (tabL c)[k * 8 + i]? = (stgC (Vit.dp (c.drop (2 * k)))).toList[i]? := by
  induction k generalizing c n with
  | zero => rw [Nat.zero_mul, Nat.zero_add, tabL_get _ _ hi]; rfl
  | succ k ih =>
    match c, hc with
    | x :: y :: r, hc =>
      have h := ih r (n - 1) (by simp at hc; omega) (by omega)
      rw [tabL, List.getElem?_append_right (by show 8 ≤ _; omega)]
      show (tabL r)[(k + 1) * 8 + i - 8]? = _
      rw [show (k + 1) * 8 + i - 8 = k * 8 + i by omega, h]
      rfl
    | [_], hc => simp at hc; omega
    | [], hc => simp at hc; omega
theorem Tab.cell {W : World} {g : Nat} {E : TypeId} {c : List UInt8} (h : Tab W g E c) (n k i : Nat) (hc : c.length = 2 * n) (hk : k ≤ n) (hi : i < 8) (v : Value) (hv : (stgC (Vit.dp (c.drop (2 * k)))).toList[i]? = some v) : W.cell? ⟨g, k * 8 + i, none⟩ = some v :=
  block_cell h _ _ (by rw [List.getElem?_toArray, tabL_at c n k i hc hk hi, hv])
theorem Tab.below {W W' : World} {g : Nat} {E : TypeId} {c : List UInt8} {B : Nat} (h : Tab W g E c) (hb : Below B W W') (hg : g < B) : Tab W' g E c := hb_below hb hg h
/-- The stages of a string of cells are small. -/
theorem small_dp (n : Nat) (c : List UInt8) (hc : c.length = 2 * n) (hn : n ≤ 50000) : Small (Vit.dp c) := fun p q => by
  rcases Vit.best n c p q hc with ⟨h, _⟩ | ⟨h1, h2, _, _, _, _, h7⟩
  · rw [h]
    decide
  · refine ⟨by omega, by omega, ?_, ?_⟩
    · rcases h7 with h | ⟨h, _⟩ <;> omega
    · rcases h7 with h | ⟨h, _⟩ <;> omega
end Go.Proofs.YtnklgppfggkeoaaDoor
