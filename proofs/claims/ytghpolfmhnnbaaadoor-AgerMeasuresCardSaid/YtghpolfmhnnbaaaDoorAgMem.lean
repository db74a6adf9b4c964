/-
  Rows of actions and of reels in memory.
-/
import Derived.Test.YtghpolfmhnnbaaaDoorAgPlain
import Derived.Maps.AppendAt
import Derived.Deep.AppendLies
namespace Go.Proofs.YtghpolfmhnnbaaaDoor
open Go.RowKit

theorem flat_get {α β : Type} (f : α → List β) (k : Nat) (hk : ∀ a, (f a).length = k) : ∀ (l : List α) (j i : Nat) (x : α), l[j]? = some x → i < k → (l.flatMap f)[j * k + i]? = (f x)[i]?
  | [], j, i, x, h, _ => by simp at h
  | a :: l, 0, i, x, h, hi => by
    obtain rfl : a = x := by simpa using h
    rw [List.flatMap_cons, Nat.zero_mul, Nat.zero_add, List.getElem?_append_left (by rw [hk]; exact hi)]
  | a :: l, j + 1, i, x, h, hi => by
    have ih := flat_get f k hk l j i x (by simpa using h) hi
    rw [List.flatMap_cons, Nat.succ_mul, List.getElem?_append_right (by rw [hk]; omega), hk, ← ih]
    congr 1
    omega
theorem flat_len {α β : Type} (f : α → List β) (k : Nat) (hk : ∀ a, (f a).length = k) (l : List α) : (l.flatMap f).length = l.length * k := by
  induction l with
  | nil => simp
  | cons a l ih => rw [List.flatMap_cons, List.length_append, ih, hk, List.length_cons, Nat.succ_mul, Nat.add_comm]

def dmgC (d : Dmg) : List Value := [.int .i64 d.kind, .int .i64 d.reel, .int .i64 d.piece, .int .i64 d.at_, .int .i64 d.len]
theorem dmgC_len (d : Dmg) : (dmgC d).length = 5 := rfl
def dmgsC (ds : List Dmg) : List Value := ds.flatMap dmgC
theorem dmgsC_snoc (ds : List Dmg) (d : Dmg) : dmgsC (ds ++ [d]) = dmgsC ds ++ dmgC d := by simp [dmgsC]
/-- A slice of actions that the call has made. -/
def OwnD (w : World) (B : Nat) (v : Value) (ds : List Dmg) : Prop := w.ownsRow B 31 5 v ds.length (dmgsC ds)
/-- A slice of actions that is read. -/
def Dmgs (w : World) (ao : Option Addr) (n : Nat) (ds : List Dmg) : Prop :=
  n = ds.length ∧ ∀ (j : Nat) (d : Dmg), ds[j]? = some d → ∃ bk o, ao = some ⟨bk, o, none⟩ ∧ w.cell? ⟨bk, o + j * 5, none⟩ = some (.int .i64 d.kind) ∧ w.cell? ⟨bk, o + j * 5 + 1, none⟩ = some (.int .i64 d.reel) ∧
    w.cell? ⟨bk, o + j * 5 + 2, none⟩ = some (.int .i64 d.piece) ∧ w.cell? ⟨bk, o + j * 5 + 3, none⟩ = some (.int .i64 d.at_) ∧ w.cell? ⟨bk, o + j * 5 + 4, none⟩ = some (.int .i64 d.len)
section
variable {w w' : World} {B n c : Nat} {ao : Option Addr} {ds : List Dmg} {v : Value}
theorem OwnD.form (h : OwnD w B v ds) : ∃ ao cap, v = .slice ao ds.length cap ∧ ds.length ≤ cap := by
  rcases h.2 with ⟨rfl, hn⟩ | ⟨g, cap, cur, rfl, _, _, h2, _⟩
  · exact ⟨none, 0, by rw [hn], by omega⟩
  · exact ⟨_, cap, rfl, h2⟩
theorem OwnD.read (h : OwnD w B (.slice ao n c) ds) : Dmgs w ao n ds := by
  have hn : n = ds.length := by
    obtain ⟨ao', cap', e, _⟩ := h.form
    injection e
  refine ⟨hn, fun j d hj => ?_⟩
  have hl : j < ds.length := (List.getElem?_eq_some_iff.1 hj).1
  obtain ⟨g, cap, hv, _, _⟩ := World.ownsRow.form h (by omega)
  have hao : ao = some ⟨g, 0, none⟩ := by injection hv
  subst hao
  have hc := World.ownsRow.cells h (g := g) rfl
  have hf := fun i hi => flat_get dmgC 5 dmgC_len ds j i d hj hi
  refine ⟨g, 0, rfl, ?_, ?_, ?_, ?_, ?_⟩
  · have := hc (j * 5) _ ((hf 0 (by omega)).trans rfl)
    rwa [Addr.add_lit] at this
  · have := hc (j * 5 + 1) _ ((hf 1 (by omega)).trans rfl)
    rwa [Addr.add_lit] at this
  · have := hc (j * 5 + 2) _ ((hf 2 (by omega)).trans rfl)
    rwa [Addr.add_lit] at this
  · have := hc (j * 5 + 3) _ ((hf 3 (by omega)).trans rfl)
    rwa [Addr.add_lit] at this
  · have := hc (j * 5 + 4) _ ((hf 4 (by omega)).trans rfl)
    rwa [Addr.add_lit] at this
theorem Dmgs.below (h : Dmgs w ao n ds) (hb : Below w.heap.size w w') : Dmgs w' ao n ds := by
  refine ⟨h.1, fun j d hj => ?_⟩
  obtain ⟨bk, o, rfl, h1, h2, h3, h4, h5⟩ := h.2 j d hj
  have hlt := World.block_lt_of_cell? _ _ h1
  have hk : ∀ i, w'.cell? ⟨bk, i, none⟩ = w.cell? ⟨bk, i, none⟩ := fun i => hb.cell (p := ⟨bk, i, none⟩) hlt
  exact ⟨bk, o, rfl, (hk _).trans h1, (hk _).trans h2, (hk _).trans h3, (hk _).trans h4, (hk _).trans h5⟩
theorem Dmgs.drewN (h : Dmgs w ao n ds) (q : Nat) : Dmgs (w.drewN q) ao n ds := h
end
theorem info_dmg : (Tryd.prog.info? 31).map (fun i => (i.zero, i.size, i.bytes)) = some (some (.agg #[.int .i64 0, .int .i64 0, .int .i64 0, .int .i64 0, .int .i64 0]), 5, 40) := by kernel_rfl
theorem info_reel : (Tryd.prog.info? 26).map (fun i => (i.zero, i.size, i.bytes)) = some (some (.agg #[.int .i64 0, .slice none 0 0]), 2, 32) := by kernel_rfl

/-- append of one action, which the walk has laid in a block of its own. -/
theorem wpList_appD {ops : Array Oper} {rest : List Oper} {o : Oper} {a : Act} {Q : Exit → Act → World → Prop} {w : World} (hgd : o.guard = none) (s x : Operand)
    (ho : o.op = .call { callee := .builtin .append, args := #[s, x], argTypes := #[37, 37] }) (B : Nat) (v : Value) (ds : List Dmg) (hs : a.eval s = v) (hown : OwnD w B v ds) (d : Dmg)
    (hx : a.eval x = .slice (some ⟨w.heap.size, 0, none⟩) 1 1) (hn : ds.length ≤ 65536) (hB : B ≤ w.heap.size)
    (h : ∀ v' w', OwnD w' B v' (ds ++ [d]) → Below B w w' → w.grownBy w' v.ownBlock → wpList Tryd.prog ops Q rest (a.put o.dst v') w') :
    wpList Tryd.prog ops Q (o :: rest) a (w.alloc (.cells (dmgC d).toArray 31)) := by
  obtain ⟨i, hi, hz0, hz1, hz2⟩ := info_parts info_dmg
  refine wpList_append_own _ hgd s x 37 ho B 31 i _ 5 40 Tryd.underlying37 hi hz0 hz1 hz2 rfl (by decide) v ds.length (dmgsC ds) hs (World.ownsRow.alloc hown _) ⟨w.heap.size, 0, none⟩ 1 1 (dmgC d) hx rfl ?_ ?_ ?_ (by omega) (by simp; omega) ?_
  · exact World.news_of_block (heap_alloc_new w _)
  · intro u hu
    simp only [dmgC, List.mem_cons, List.not_mem_nil, or_false] at hu
    rcases hu with rfl | rfl | rfl | rfl | rfl <;> rfl
  · unfold maxLen
    omega
  · intro v' w' hown' hg _
    have hg' : w.grownBy w' v.ownBlock := ⟨hg.os, hg.tape, hg.output, Nat.le_trans (by simp) hg.size, fun k hk hne => (hg.block k (by simp; omega) hne).trans (Below.heap_alloc w _ k hk)⟩
    refine h v' w' ?_ ((Below.refl B w).grown hg' hB fun k hk => (World.ownsRow.lt hown k hk).1) hg'
    unfold OwnD
    rw [dmgsC_snoc, List.length_append]
    exact hown'
end Go.Proofs.YtghpolfmhnnbaaaDoor
