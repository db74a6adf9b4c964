/-
  steleref59.SameReel.
-/
import Derived.Test.YtghpolfmhnnbaaaDoorAgGreat
import Derived.BigQuiet
namespace Go.Proofs.YtghpolfmhnnbaaaDoor
open Go.RowKit

theorem blk_cell {w : World} {b : Nat} {cs : Array Value} {E : TypeId} {m : Nat × Nat} (h : w.heap[b]? = some (.cells cs E m)) (i : Nat) (v : Value) (hv : cs[i]? = some v) : w.cell? ⟨b, i, none⟩ = some v := by
  simp [World.cell?, h, hv]
theorem blk_alloc {W : World} {o x : Obj} {g : Nat} (h : W.heap[g]? = some x) : (W.alloc o).heap[g]? = some x := (Below.heap_alloc W o g (Array.getElem?_eq_some_iff.1 h).1).trans h

def reelC (n : Int) (a : Option Addr) (l c : Nat) : Obj := .cells #[.int .i64 n, .slice a l c] 26
theorem boxes (n1 n2 : Int) (a1 a2 : Option Addr) (l1 l2 c1 c2 : Nat) (w : World) : ∃ W, (w.alloc (.cells #[.int .i64 n1, .slice a1 l1 c1] 26)).alloc (.cells #[.int .i64 n2, .slice a2 l2 c2] 26) = W ∧ Below w.heap.size w W ∧
    W.cell? ⟨w.heap.size, 0, none⟩ = some (.int .i64 n1) ∧ W.cell? ⟨w.heap.size, 1, none⟩ = some (.slice a1 l1 c1) ∧ W.cell? ⟨w.heap.size + 1, 0, none⟩ = some (.int .i64 n2) ∧ W.cell? ⟨w.heap.size + 1, 1, none⟩ = some (.slice a2 l2 c2) := by
  have e0 := heap_alloc_new w (.cells #[.int .i64 n1, .slice a1 l1 c1] 26)
  have e1 := heap_alloc_new (w.alloc (.cells #[.int .i64 n1, .slice a1 l1 c1] 26)) (.cells #[.int .i64 n2, .slice a2 l2 c2] 26)
  have e2 := blk_alloc (o := .cells #[.int .i64 n2, .slice a2 l2 c2] 26) e0
  rw [World.size_alloc] at e1
  exact ⟨_, rfl, ((Below.refl _ w).alloc (Nat.le_refl _) _).alloc (by simp) _, blk_cell e2 0 _ rfl, blk_cell e2 1 _ rfl, blk_cell e1 0 _ rfl, blk_cell e1 1 _ rfl⟩

end Go.Proofs.YtghpolfmhnnbaaaDoor
