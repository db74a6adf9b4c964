/-
  session.replay: the draft in its box. No walk.
-/
import Derived.Test.YtbhmdcdhklgomaaGreatDoorM32
import Derived.Test.YtbhmdcdhklgomaaGreatDoorM36
import Derived.Test.YtbhmdcdhklgomaaGreatDoorM31
import Derived.Test.YtbhmdcdhklgomaaGreatDoorM34
import Derived.Test.YtbhmdcdhklgomaaGreatDoorM08
namespace Go.Proofs.YtbhmdcdhklgomaaGreatDoor
open Go.RowKit Top

/-- The draft that replay makes, in box bd, in rows of the call's own; the tree's parts are read in w; the result's box b1 is still empty. -/
def RepI (w : World) (b1 bd : Nat) (d : Rep) (X : World) : Prop := ∃ ca cc ta tc ha hc,
  X.heap[bd]? = some (.cells #[.int .i64 0, .int .i64 0, .string ⟨#[]⟩, .slice none 0 0, .slice ca d.store.chunks.length cc, .int .i64 d.store.ses, .string ⟨d.store.stream.toArray⟩, .slice ta d.tree.length tc, .slice ha d.holds.length hc] 68 (0, 0)) ∧
  X.heap[b1]? = some (.cells #[.int .i64 0, .int .i64 0, .string ⟨#[]⟩, .slice none 0 0, .slice none 0 0, .int .i64 0, .string ⟨#[]⟩, .slice none 0 0, .slice none 0 0] 68 (0, 0)) ∧
  OwnK X w.heap.size (.slice ca d.store.chunks.length cc) d.store.chunks ∧ OwnEnts w X w.heap.size (.slice ta d.tree.length tc) d.tree ∧ OwnH X w.heap.size (.slice ha d.holds.length hc) d.holds ∧ Below w.heap.size w X ∧ w.heap.size ≤ bd ∧ w.heap.size ≤ b1 ∧ b1 ≠ bd
section
variable {w X Y : World} {b1 bd : Nat} {d : Rep}
/-- What turns no draft, chunk, entry, hold keeps the draft. -/
theorem rep_keep {Ts : List TypeId} (h : RepI w b1 bd d X) (hk : KeepC Ts X Y) (hb : Below w.heap.size w Y) (h1 : 68 ∉ Ts) (h2 : 160 ∉ Ts) (h3 : 43 ∉ Ts) (h4 : 87 ∉ Ts) : RepI w b1 bd d Y := by
  obtain ⟨ca, cc, ta, tc, ha, hc, g1, g2, g3, g4, g5, _, g7⟩ := h
  exact ⟨ca, cc, ta, tc, ha, hc, hk.2 _ _ _ _ g1 h1, hk.2 _ _ _ _ g2 h1, OwnF.keepC g3 hk h2, g4.keepC hk h3, OwnF.keepC g5 hk h4, hb, g7⟩
theorem rep_at (h : RepI w b1 bd d X) : Below w.heap.size w X := by
  obtain ⟨ca, cc, ta, tc, ha, hc, g1, g2, g3, g4, g5, g6, g7⟩ := h
  exact g6
theorem rep_below (h : RepI w b1 bd d X) (hb : Below X.heap.size X Y) : RepI w b1 bd d Y :=
  rep_keep (Ts := []) h (KeepC.of_below hb) ((rep_at h).trans (hb.mono (rep_at h).size)) (by simp) (by simp) (by simp) (by simp)
theorem rep_store (h : RepI w b1 bd d Y) {st : Store} {pa : Option Addr} {pc : Nat} (hf : OwnK Y w.heap.size (.slice pa st.chunks.length pc) st.chunks) :
    RepI w b1 bd ⟨st, d.tree, d.holds⟩ (((Y.setCell ⟨bd, 4, none⟩ (.slice pa st.chunks.length pc)).setCell ⟨bd, 5, none⟩ (.int .i64 st.ses)).setCell ⟨bd, 6, none⟩ (.string ⟨st.stream.toArray⟩)) ∧ KeepC [68] Y (((Y.setCell ⟨bd, 4, none⟩ (.slice pa st.chunks.length pc)).setCell ⟨bd, 5, none⟩ (.int .i64 st.ses)).setCell ⟨bd, 6, none⟩ (.string ⟨st.stream.toArray⟩)) := by
  obtain ⟨ca, cc, ta, tc, ha, hc, h1, h2, h3, h4, h5, h6, h7, h8, h9⟩ := h
  have sg : Y.grownBy (((Y.setCell ⟨bd, 4, none⟩ (.slice pa st.chunks.length pc)).setCell ⟨bd, 5, none⟩ (.int .i64 st.ses)).setCell ⟨bd, 6, none⟩ (.string ⟨st.stream.toArray⟩)) (some bd) := set_grown (w := Y) (b := bd) [(4, .slice pa st.chunks.length pc), (5, .int .i64 st.ses), (6, .string ⟨st.stream.toArray⟩)]
  have t1 := sets h1 [(4, .slice pa st.chunks.length pc), (5, .int .i64 st.ses), (6, .string ⟨st.stream.toArray⟩)]
  have kk := (Oth.of_grown sg).keepC (Ts := [68]) h1 (by simp)
  exact ⟨⟨pa, pc, ta, tc, ha, hc, t1, (Oth.of_grown sg).get h2 h9, OwnF.keepC hf kk (by decide), h4.keepC kk (by decide), OwnF.keepC h5 kk (by decide), h6.grown sg h6.size (fun k e => by injection e with e; omega), h7, h8, h9⟩, kk⟩
theorem rep_tree (h : RepI w b1 bd d Y) {t : List Ent} {pa : Option Addr} {pc : Nat} (hf : OwnEnts w Y w.heap.size (.slice pa t.length pc) t) :
    RepI w b1 bd ⟨d.store, t, d.holds⟩ (Y.setCell ⟨bd, 7, none⟩ (.slice pa t.length pc)) ∧ KeepC [68] Y (Y.setCell ⟨bd, 7, none⟩ (.slice pa t.length pc)) := by
  obtain ⟨ca, cc, ta, tc, ha, hc, h1, h2, h3, h4, h5, h6, h7, h8, h9⟩ := h
  have sg : Y.grownBy (Y.setCell ⟨bd, 7, none⟩ (.slice pa t.length pc)) (some bd) := set_grown (w := Y) (b := bd) [(7, .slice pa t.length pc)]
  have t1 := sets h1 [(7, .slice pa t.length pc)]
  have kk := (Oth.of_grown sg).keepC (Ts := [68]) h1 (by simp)
  exact ⟨⟨ca, cc, pa, pc, ha, hc, t1, (Oth.of_grown sg).get h2 h9, OwnF.keepC h3 kk (by decide), hf.keepC kk (by decide), OwnF.keepC h5 kk (by decide), h6.grown sg h6.size (fun k e => by injection e with e; omega), h7, h8, h9⟩, kk⟩
theorem rep_holds (h : RepI w b1 bd d Y) {t : List Hold} {pa : Option Addr} {pc : Nat} (hf : OwnH Y w.heap.size (.slice pa t.length pc) t) :
    RepI w b1 bd ⟨d.store, d.tree, t⟩ (Y.setCell ⟨bd, 8, none⟩ (.slice pa t.length pc)) ∧ KeepC [68] Y (Y.setCell ⟨bd, 8, none⟩ (.slice pa t.length pc)) := by
  obtain ⟨ca, cc, ta, tc, ha, hc, h1, h2, h3, h4, h5, h6, h7, h8, h9⟩ := h
  have sg : Y.grownBy (Y.setCell ⟨bd, 8, none⟩ (.slice pa t.length pc)) (some bd) := set_grown (w := Y) (b := bd) [(8, .slice pa t.length pc)]
  have t1 := sets h1 [(8, .slice pa t.length pc)]
  have kk := (Oth.of_grown sg).keepC (Ts := [68]) h1 (by simp)
  exact ⟨⟨ca, cc, ta, tc, pa, pc, t1, (Oth.of_grown sg).get h2 h9, OwnF.keepC h3 kk (by decide), h4.keepC kk (by decide), OwnF.keepC hf kk (by decide), h6.grown sg h6.size (fun k e => by injection e with e; omega), h7, h8, h9⟩, kk⟩
end
theorem base_rep (w : World) (c0 c1 c2 c3 : Value) : ∃ W, ((w.alloc (.cells #[c0, c1, c2, c3] 30)).alloc (.cells #[.int .i64 0, .int .i64 0, .string ⟨#[]⟩, .slice none 0 0, .slice none 0 0, .int .i64 0, .string ⟨#[]⟩, .slice none 0 0, .slice none 0 0] 68)).alloc (.cells #[.int .i64 0, .int .i64 0, .string ⟨#[]⟩, .slice none 0 0, .slice none 0 0, .int .i64 0, .string ⟨#[]⟩, .slice none 0 0, .slice none 0 0] 68) = W ∧
    W.heap[w.heap.size]? = some (.cells #[c0, c1, c2, c3] 30 (0, 0)) ∧ RepI w (w.heap.size + 1) (w.heap.size + 1 + 1) rep0 W := by
  generalize (Obj.cells #[c0, c1, c2, c3] 30) = A
  have e0 := heap_alloc_new w A
  have hb1 := (Below.refl _ w).alloc (Nat.le_refl _) A
  generalize hw1 : w.alloc A = w1 at *
  have hs1 : w1.heap.size = w.heap.size + 1 := by rw [← hw1]; simp
  generalize hB : (Obj.cells #[.int .i64 0, .int .i64 0, .string ⟨#[]⟩, .slice none 0 0, .slice none 0 0, .int .i64 0, .string ⟨#[]⟩, .slice none 0 0, .slice none 0 0] 68) = B
  have e1 := heap_alloc_new w1 B
  have hb2 := (Below.refl _ w1).alloc (Nat.le_refl _) B
  have hs2 : (w1.alloc B).heap.size = w.heap.size + 1 + 1 := by simp [hs1]
  generalize w1.alloc B = w2 at *
  have e2 := heap_alloc_new w2 B
  have hb3 := (Below.refl _ w2).alloc (Nat.le_refl _) B
  rw [hs1] at e1
  rw [hs2] at e2
  have e0' := (hb2.block _ (by omega)).trans e0
  have hb12 := hb1.trans (hb2.mono hb1.size)
  refine ⟨_, rfl, (hb3.block _ (by omega)).trans e0', none, 0, none, 0, none, 0, ?_, ?_, OwnF.nil _ _, OwnEnts.nil _ _ _, OwnF.nil _ _, hb12.trans (hb3.mono hb12.size), by omega, by omega, by omega⟩
  · rw [e2, ← hB]
    rfl
  · rw [hb3.block _ (by omega), e1, ← hB]
end Go.Proofs.YtbhmdcdhklgomaaGreatDoor

/-
  session.Begin: its boxes. No walk.
-/
namespace Go.Proofs.YtbhmdcdhklgomaaGreatDoor
open Go.RowKit Top

theorem base_beg (w : World) (c0 c1 c2 c3 : Value) : ∃ W, (w.alloc (.cells #[c0, c1, c2, c3] 30)).alloc (.cells #[.int .i64 0, .int .i64 0, .string ⟨#[]⟩, .slice none 0 0, .slice none 0 0, .int .i64 0, .string ⟨#[]⟩, .slice none 0 0, .slice none 0 0] 68) = W ∧
    W.heap[w.heap.size]? = some (.cells #[c0, c1, c2, c3] 30 (0, 0)) ∧
    W.heap[w.heap.size + 1]? = some (.cells #[.int .i64 0, .int .i64 0, .string ⟨#[]⟩, .slice none 0 0, .slice none 0 0, .int .i64 0, .string ⟨#[]⟩, .slice none 0 0, .slice none 0 0] 68 (0, 0)) ∧ Below w.heap.size w W ∧ w.heap.size + 1 < W.heap.size := by
  generalize (Obj.cells #[c0, c1, c2, c3] 30) = A
  have e0 := heap_alloc_new w A
  have hb1 := (Below.refl _ w).alloc (Nat.le_refl _) A
  generalize hw1 : w.alloc A = w1 at *
  have hs1 : w1.heap.size = w.heap.size + 1 := by rw [← hw1]; simp
  generalize hB : (Obj.cells #[.int .i64 0, .int .i64 0, .string ⟨#[]⟩, .slice none 0 0, .slice none 0 0, .int .i64 0, .string ⟨#[]⟩, .slice none 0 0, .slice none 0 0] 68) = B
  have e1 := heap_alloc_new w1 B
  have hb2 := (Below.refl _ w1).alloc (Nat.le_refl _) B
  rw [hs1] at e1
  refine ⟨_, rfl, (hb2.block _ (by omega)).trans e0, ?_, hb1.trans (hb2.mono hb1.size), by simp [hs1]⟩
  rw [e1, ← hB]
theorem draft0_any (w : World) : DraV w (.agg #[.int .i64 0, .int .i64 0, .string ⟨#[]⟩, .slice none 0 0, .slice none 0 0, .int .i64 0, .string ⟨#[]⟩, .slice none 0 0, .slice none 0 0]) draft0 :=
  ⟨none, 0, none, 0, none, 0, none, 0, rfl, Ents.nil _, Flat.nil _ _ _, Ents.nil _, Flat.nil _ _ _⟩
end Go.Proofs.YtbhmdcdhklgomaaGreatDoor

/-
  append of one element of k cells, at a step of a region that draws.
-/
namespace Go.Proofs.YtbhmdcdhklgomaaGreatDoor
open Go.RowKit Top

theorem step_appN {P : Program} (E T : TypeId) (k bytes : Nat) (z : Value) (hinfo : (P.info? E).map (fun i => (i.zero, i.size, i.bytes)) = some (some z, k, bytes)) (hT : P.underlying T = some (.slice E)) (hz : z.cells.size = k) (hk : 0 < k) (hb0 : bytes ≤ 1024)
    {ops : Array Oper} {o : Oper} {a : Act} {K : Act → World → Prop} {Q : Exit → Act → World → Prop} {X : Prop} {w : World} (hgd : o.guard = none) (s x : Operand)
    (ho : o.op = .call { callee := .builtin .append, args := #[s, x], argTypes := #[T, T] }) (B : Nat) (v : Value) (n0 : Nat) (xs : List Value) (hs : a.eval s = v) (hown : w.ownsRow B E k v n0 xs)
    (g : Nat) (cs : List Value) (hx : a.eval x = .slice (some ⟨g, 0, none⟩) 1 1) (hg : w.heap[g]? = some (.cells cs.toArray E (0, 0))) (hcs : cs.length = k) (h1 : ∀ u ∈ cs, u.oneCell' = true) (hlen : n0 ≤ 16777215) (hB : B ≤ w.heap.size)
    (h : ∀ v' w', w'.ownsRow B E k v' (n0 + 1) (xs ++ cs) → Below B w w' → w.grownBy w' v.ownBlock → K (a.put o.dst v') w') :
    if Region.wanted o (yielded ops a.tmps) = true then Oper.wp P o a w K Q else X := by
  obtain ⟨i, hi, hz0, hz1, hz2⟩ := parts_of hinfo
  have hw : Region.wanted o (yielded ops a.tmps) = true := by simp [Region.wanted, hgd]
  rw [if_pos hw]
  have hby : (n0 + 1) * bytes ≤ 16777216 * 1024 := Nat.mul_le_mul (by omega) hb0
  refine wp_append_lies _ s x T ho B E i _ k bytes hT hi hz0 hz1 hz2 hz hk v n0 xs hs hown ⟨g, 0, none⟩ 1 1 cs hx (by rw [hcs]; omega) (World.news_of_block hg) h1 (by omega) (by unfold maxLen; omega) (by omega) hB _ rfl ?_
  intro g' cap w' hown' hgr _ _
  exact h _ w' hown' ((Below.refl B w).grown hgr hB fun k hk => (World.ownsRow.lt hown k hk).1) hgr
end Go.Proofs.YtbhmdcdhklgomaaGreatDoor
