/-
  Rows that cannot lie in a box, by the kinds of their cells. No walk.
-/
import Derived.Test.YtbhmdcdhklgomaaGreatDoorM30
import Derived.StillTail
import Derived.BigQuiet
namespace Go.Proofs.YtbhmdcdhklgomaaGreatDoor
open Go.RowKit Top

theorem row9 {w : World} {b : Nat} {T : TypeId} {v0 v1 v2 v3 v4 v5 v6 v7 v8 : Value} (h : w.heap[b]? = some (.cells #[v0, v1, v2, v3, v4, v5, v6, v7, v8] T (0, 0))) :
    (w.cell? ⟨b, 0, none⟩ = some v0 ∧ w.cell? ⟨b, 1, none⟩ = some v1 ∧ w.cell? ⟨b, 2, none⟩ = some v2 ∧ w.cell? ⟨b, 3, none⟩ = some v3 ∧ w.cell? ⟨b, 4, none⟩ = some v4 ∧ w.cell? ⟨b, 5, none⟩ = some v5 ∧ w.cell? ⟨b, 6, none⟩ = some v6 ∧ w.cell? ⟨b, 7, none⟩ = some v7 ∧ w.cell? ⟨b, 8, none⟩ = some v8) ∧
    (w.frozen? ⟨b, 0, none⟩ = false ∧ w.frozen? ⟨b, 1, none⟩ = false ∧ w.frozen? ⟨b, 2, none⟩ = false ∧ w.frozen? ⟨b, 3, none⟩ = false ∧ w.frozen? ⟨b, 4, none⟩ = false ∧ w.frozen? ⟨b, 5, none⟩ = false ∧ w.frozen? ⟨b, 6, none⟩ = false ∧ w.frozen? ⟨b, 7, none⟩ = false ∧ w.frozen? ⟨b, 8, none⟩ = false) := by
  refine ⟨⟨?_, ?_, ?_, ?_, ?_, ?_, ?_, ?_, ?_⟩, ?_, ?_, ?_, ?_, ?_, ?_, ?_, ?_, ?_⟩
  · exact tcell h 0 v0 rfl
  · exact tcell h 1 v1 rfl
  · exact tcell h 2 v2 rfl
  · exact tcell h 3 v3 rfl
  · exact tcell h 4 v4 rfl
  · exact tcell h 5 v5 rfl
  · exact tcell h 6 v6 rfl
  · exact tcell h 7 v7 rfl
  · exact tcell h 8 v8 rfl
  · exact tfree h 0
  · exact tfree h 1
  · exact tfree h 2
  · exact tfree h 3
  · exact tfree h 4
  · exact tfree h 5
  · exact tfree h 6
  · exact tfree h 7
  · exact tfree h 8
theorem set9 {w : World} {b : Nat} {T : TypeId} {u0 u1 u2 u3 u4 u5 u6 u7 u8 : Value} (h : w.heap[b]? = some (.cells #[u0, u1, u2, u3, u4, u5, u6, u7, u8] T (0, 0))) (v0 v1 v2 v3 v4 v5 v6 v7 v8 : Value) :
    (((((((((w.setCell ⟨b, 0, none⟩ v0).setCell ⟨b, 1, none⟩ v1).setCell ⟨b, 2, none⟩ v2).setCell ⟨b, 3, none⟩ v3).setCell ⟨b, 4, none⟩ v4).setCell ⟨b, 5, none⟩ v5).setCell ⟨b, 6, none⟩ v6).setCell ⟨b, 7, none⟩ v7).setCell ⟨b, 8, none⟩ v8).heap[b]? = some (.cells #[v0, v1, v2, v3, v4, v5, v6, v7, v8] T (0, 0)) ∧
    w.grownBy (((((((((w.setCell ⟨b, 0, none⟩ v0).setCell ⟨b, 1, none⟩ v1).setCell ⟨b, 2, none⟩ v2).setCell ⟨b, 3, none⟩ v3).setCell ⟨b, 4, none⟩ v4).setCell ⟨b, 5, none⟩ v5).setCell ⟨b, 6, none⟩ v6).setCell ⟨b, 7, none⟩ v7).setCell ⟨b, 8, none⟩ v8) (some b) := by
  have h0 : (w.setCell ⟨b, 0, none⟩ v0).heap[b]? = some (.cells #[v0, u1, u2, u3, u4, u5, u6, u7, u8] T (0, 0)) := tset h v0
  have h1 : ((w.setCell ⟨b, 0, none⟩ v0).setCell ⟨b, 1, none⟩ v1).heap[b]? = some (.cells #[v0, v1, u2, u3, u4, u5, u6, u7, u8] T (0, 0)) := tset h0 v1
  have h2 : (((w.setCell ⟨b, 0, none⟩ v0).setCell ⟨b, 1, none⟩ v1).setCell ⟨b, 2, none⟩ v2).heap[b]? = some (.cells #[v0, v1, v2, u3, u4, u5, u6, u7, u8] T (0, 0)) := tset h1 v2
  have h3 : ((((w.setCell ⟨b, 0, none⟩ v0).setCell ⟨b, 1, none⟩ v1).setCell ⟨b, 2, none⟩ v2).setCell ⟨b, 3, none⟩ v3).heap[b]? = some (.cells #[v0, v1, v2, v3, u4, u5, u6, u7, u8] T (0, 0)) := tset h2 v3
  have h4 : (((((w.setCell ⟨b, 0, none⟩ v0).setCell ⟨b, 1, none⟩ v1).setCell ⟨b, 2, none⟩ v2).setCell ⟨b, 3, none⟩ v3).setCell ⟨b, 4, none⟩ v4).heap[b]? = some (.cells #[v0, v1, v2, v3, v4, u5, u6, u7, u8] T (0, 0)) := tset h3 v4
  have h5 : ((((((w.setCell ⟨b, 0, none⟩ v0).setCell ⟨b, 1, none⟩ v1).setCell ⟨b, 2, none⟩ v2).setCell ⟨b, 3, none⟩ v3).setCell ⟨b, 4, none⟩ v4).setCell ⟨b, 5, none⟩ v5).heap[b]? = some (.cells #[v0, v1, v2, v3, v4, v5, u6, u7, u8] T (0, 0)) := tset h4 v5
  have h6 : (((((((w.setCell ⟨b, 0, none⟩ v0).setCell ⟨b, 1, none⟩ v1).setCell ⟨b, 2, none⟩ v2).setCell ⟨b, 3, none⟩ v3).setCell ⟨b, 4, none⟩ v4).setCell ⟨b, 5, none⟩ v5).setCell ⟨b, 6, none⟩ v6).heap[b]? = some (.cells #[v0, v1, v2, v3, v4, v5, v6, u7, u8] T (0, 0)) := tset h5 v6
  have h7 : ((((((((w.setCell ⟨b, 0, none⟩ v0).setCell ⟨b, 1, none⟩ v1).setCell ⟨b, 2, none⟩ v2).setCell ⟨b, 3, none⟩ v3).setCell ⟨b, 4, none⟩ v4).setCell ⟨b, 5, none⟩ v5).setCell ⟨b, 6, none⟩ v6).setCell ⟨b, 7, none⟩ v7).heap[b]? = some (.cells #[v0, v1, v2, v3, v4, v5, v6, v7, u8] T (0, 0)) := tset h6 v7
  have h8 : (((((((((w.setCell ⟨b, 0, none⟩ v0).setCell ⟨b, 1, none⟩ v1).setCell ⟨b, 2, none⟩ v2).setCell ⟨b, 3, none⟩ v3).setCell ⟨b, 4, none⟩ v4).setCell ⟨b, 5, none⟩ v5).setCell ⟨b, 6, none⟩ v6).setCell ⟨b, 7, none⟩ v7).setCell ⟨b, 8, none⟩ v8).heap[b]? = some (.cells #[v0, v1, v2, v3, v4, v5, v6, v7, v8] T (0, 0)) := tset h7 v8
  exact ⟨h8, set_grown (w := w) (b := b) [(0, v0), (1, v1), (2, v2), (3, v3), (4, v4), (5, v5), (6, v6), (7, v7), (8, v8)]⟩
/-- The kind of a cell. -/
def kd : Value → Nat
  | .int .i64 _ => 2
  | .string _ => 1
  | .slice _ _ _ => 3
  | _ => 0
/-- A row of these kinds lies nowhere in cells of those kinds. -/
def noIn (ks kb : List Nat) : Prop := ∀ off, off < kb.length → ∃ i, i < ks.length ∧ kb[off + i]? ≠ ks[i]?
instance (ks kb : List Nat) : Decidable (noIn ks kb) := by
  unfold noIn
  have (off : Nat) : Decidable (∃ i, i < ks.length ∧ kb[off + i]? ≠ ks[i]?) := decidable_of_iff (∃ i ∈ List.range ks.length, kb[off + i]? ≠ ks[i]?) (by simp)
  exact Nat.decidableBallLT kb.length fun off _ => ∃ i, i < ks.length ∧ kb[off + i]? ≠ ks[i]?
theorem cell_in {w : World} {b o : Nat} {cs : Array Value} {T : TypeId} {fr : Nat × Nat} {v : Value} (hb : w.heap[b]? = some (.cells cs T fr)) (h : w.cell? ⟨b, o, none⟩ = some v) : cs[o]? = some v := by
  simpa [World.cell?, hb] using h
theorem Raw.oth {w w' : World} {b : Nat} {ao : Option Addr} {k : Nat} {vss : List (List Value)} {cs : Array Value} {T : TypeId} {fr : Nat × Nat} (h : Raw w ao k vss) (hb : w.heap[b]? = some (.cells cs T fr)) (ho : Oth b w w')
    (ks kb : List Nat) (hks : ∀ vs ∈ vss, vs.map kd = ks) (hkb : cs.toList.map kd = kb) (hk : 0 < k) (hn : noIn ks kb) : Raw w' ao k vss := by
  intro j vs hj
  obtain ⟨h1, bk, o, h2, h3⟩ := h j vs hj
  have hv := hks vs (List.mem_of_getElem? hj)
  have hln : ks.length = vs.length := by rw [← hv, List.length_map]
  have hne : bk ≠ b := by
    intro e
    subst e
    have h4 : ∀ i v, vs[i]? = some v → kb[o + j * k + i]? = some (kd v) := fun i v hi => by
      have := cell_in hb (h3 i v hi)
      rw [← hkb, List.getElem?_map, Array.getElem?_toList, this]
      rfl
    have hoff : o + j * k < kb.length := by
      have := h4 0 _ (List.getElem?_eq_getElem (by omega))
      exact (List.getElem?_eq_some_iff.1 this).1
    obtain ⟨i, hi, hx⟩ := hn _ hoff
    refine hx ?_
    have hil : i < vs.length := by omega
    rw [h4 i _ (List.getElem?_eq_getElem hil), ← hv, List.getElem?_map, List.getElem?_eq_getElem hil]
    rfl
  refine ⟨h1, bk, o, h2, fun i v hi => ?_⟩
  have hc := h3 i v hi
  have hlt : bk < w.heap.size := World.block_lt_of_cell? _ _ hc
  exact (World.cell?_of_block (ho.2 bk hlt hne)).trans hc
/-- Boxes in which no row of the archive lies. -/
structure Free (kb : List Nat) : Prop where
  attr : noIn [1, 1] kb
  ext : noIn [2, 2, 2] kb
  chunk : noIn [1, 2, 2, 2] kb
  hold : noIn [1, 2] kb
  ent : noIn [2, 1, 3, 1, 2, 1, 3] kb
  ses : noIn [2, 2, 1, 3, 1, 1] kb
theorem free_arc : Free [0, 2, 2, 3] := ⟨by decide, by decide, by decide, by decide, by decide, by decide⟩
theorem free_dra : Free [2, 2, 1, 3, 3, 2, 1, 3, 3] := ⟨by decide, by decide, by decide, by decide, by decide, by decide⟩
section
variable {w w' : World} {b : Nat} {cs : Array Value} {T : TypeId} {fr : Nat × Nat} {v : Value}
theorem Flat.oth {α : Type} {c : α → List Value} {k : Nat} {l : List α} (h : Flat c k w v l) (hb : w.heap[b]? = some (.cells cs T fr)) (ho : Oth b w w') (ks kb : List Nat) (hks : ∀ x, (c x).map kd = ks) (hkb : cs.toList.map kd = kb) (hk : 0 < k) (hn : noIn ks kb) : Flat c k w' v l := by
  obtain ⟨ao, cap, h1, h2, h3, h4⟩ := h
  refine ⟨ao, cap, h1, h2, h3, h4.oth hb ho ks kb (fun vs hvs => ?_) hkb hk hn⟩
  obtain ⟨x, _, rfl⟩ := List.mem_map.1 hvs
  exact hks x
theorem EntC.oth {kb : List Nat} (hf : Free kb) (hkb : cs.toList.map kd = kb) (hb : w.heap[b]? = some (.cells cs T fr)) (ho : Oth b w w') {vs : List Value} {e : Ent} (h : EntC w vs e) : EntC w' vs e := by
  obtain ⟨aa, ac, ea, ec, h1, h2, h3⟩ := h
  exact ⟨aa, ac, ea, ec, h1, h2.oth hb ho _ kb (fun _ => rfl) hkb (by decide) hf.attr, h3.oth hb ho _ kb (fun _ => rfl) hkb (by decide) hf.ext⟩
theorem EntV.oth {kb : List Nat} (hf : Free kb) (hkb : cs.toList.map kd = kb) (hb : w.heap[b]? = some (.cells cs T fr)) (ho : Oth b w w') {e : Ent} (h : EntV w v e) : EntV w' v e := by
  obtain ⟨aa, ac, ea, ec, h1, h2, h3⟩ := h
  exact ⟨aa, ac, ea, ec, h1, h2.oth hb ho _ kb (fun _ => rfl) hkb (by decide) hf.attr, h3.oth hb ho _ kb (fun _ => rfl) hkb (by decide) hf.ext⟩
theorem Ents.oth {kb : List Nat} (hf : Free kb) (hkb : cs.toList.map kd = kb) (hb : w.heap[b]? = some (.cells cs T fr)) (ho : Oth b w w') {l : List Ent} (h : Ents w v l) : Ents w' v l := by
  obtain ⟨ao, cap, vss, h1, h2, h3, h4, h5⟩ := h
  refine ⟨ao, cap, vss, h1, h2, h3, h4.oth hb ho _ kb (fun vs hvs => ?_) hkb (by decide) hf.ent, h5.1, fun j x y hx hy => (h5.2 j x y hx hy).oth hf hkb hb ho⟩
  obtain ⟨y, _, aa, ac, ea, ec, rfl, _⟩ := all2_mem h5 hvs
  rfl
theorem SesC.oth {kb : List Nat} (hf : Free kb) (hkb : cs.toList.map kd = kb) (hb : w.heap[b]? = some (.cells cs T fr)) (ho : Oth b w w') {vs : List Value} {s : Ses} (h : SesC w vs s) : SesC w' vs s := by
  obtain ⟨ea, ec, h1, h2⟩ := h
  exact ⟨ea, ec, h1, h2.oth hf hkb hb ho⟩
theorem SesV.oth {kb : List Nat} (hf : Free kb) (hkb : cs.toList.map kd = kb) (hb : w.heap[b]? = some (.cells cs T fr)) (ho : Oth b w w') {s : Ses} (h : SesV w v s) : SesV w' v s := by
  obtain ⟨ea, ec, h1, h2⟩ := h
  exact ⟨ea, ec, h1, h2.oth hf hkb hb ho⟩
theorem Sess.oth {kb : List Nat} (hf : Free kb) (hkb : cs.toList.map kd = kb) (hb : w.heap[b]? = some (.cells cs T fr)) (ho : Oth b w w') {l : List Ses} (h : Sess w v l) : Sess w' v l := by
  obtain ⟨ao, cap, vss, h1, h2, h3, h4, h5⟩ := h
  refine ⟨ao, cap, vss, h1, h2, h3, h4.oth hb ho _ kb (fun vs hvs => ?_) hkb (by decide) hf.ses, h5.1, fun j x y hx hy => (h5.2 j x y hx hy).oth hf hkb hb ho⟩
  obtain ⟨y, _, ea, ec, rfl, _⟩ := all2_mem h5 hvs
  rfl
theorem ArcV.oth {kb : List Nat} (hf : Free kb) (hkb : cs.toList.map kd = kb) (hb : w.heap[b]? = some (.cells cs T fr)) (ho : Oth b w w') {l : List Ses} (h : ArcV w v l) : ArcV w' v l := by
  obtain ⟨id, da, sp, sa, sc, h1, h2⟩ := h
  exact ⟨id, da, sp, sa, sc, h1, h2.oth hf hkb hb ho⟩
theorem DraV.oth {kb : List Nat} (hf : Free kb) (hkb : cs.toList.map kd = kb) (hb : w.heap[b]? = some (.cells cs T fr)) (ho : Oth b w w') {d : Draft} (h : DraV w v d) : DraV w' v d := by
  obtain ⟨ea, ec, ca, cc, ta, tc, ha, hc, h1, h2, h3, h4, h5⟩ := h
  exact ⟨ea, ec, ca, cc, ta, tc, ha, hc, h1, h2.oth hf hkb hb ho, h3.oth hb ho _ kb (fun _ => rfl) hkb (by decide) hf.chunk, h4.oth hf hkb hb ho, h5.oth hb ho _ kb (fun _ => rfl) hkb (by decide) hf.hold⟩
end
end Go.Proofs.YtbhmdcdhklgomaaGreatDoor

/-
  session.Close; clones whose parts are read in an elder world.
-/
namespace Go.Proofs.YtbhmdcdhklgomaaGreatDoor
open Go.RowKit Top

theorem row_keepC {E : TypeId} {k B n : Nat} {v : Value} {xs : List Value} {w w' : World} {Ts : List TypeId} (h : w.ownsRow B E k v n xs) (hs : KeepC Ts w w') (hE : E ∉ Ts) : w'.ownsRow B E k v n xs := by
  rcases h.2 with h2 | ⟨g, cap, cur, rfl, h1, hg, h3⟩
  · exact ⟨h.1, .inl h2⟩
  · exact ⟨h.1, .inr ⟨g, cap, cur, rfl, h1, hs.2 _ _ _ _ hg hE, h3⟩⟩
theorem row_form {E : TypeId} {k B n : Nat} {v : Value} {xs : List Value} {w : World} (h : w.ownsRow B E k v n xs) : ∃ ao cap, v = .slice ao n cap ∧ n ≤ cap ∧ cap ≤ 9223372036854775807 := by
  rcases h.2 with ⟨rfl, hn⟩ | ⟨g, cap, cur, rfl, _, _, h2, h3, _⟩
  · exact ⟨none, 0, by rw [hn], by omega, by omega⟩
  · exact ⟨_, cap, rfl, h2, by unfold maxLen at h3; omega⟩
theorem OwnEnts.form {R w : World} {B : Nat} {v : Value} {l : List Ent} (h : OwnEnts R w B v l) : ∃ ao cap, v = .slice ao l.length cap := by
  obtain ⟨vss, h1, _⟩ := h
  obtain ⟨ao, cap, e, _⟩ := row_form h1
  exact ⟨ao, cap, e⟩
theorem OwnEnts.keepC {R w w' : World} {B : Nat} {v : Value} {l : List Ent} {Ts : List TypeId} (h : OwnEnts R w B v l) (hs : KeepC Ts w w') (hE : 43 ∉ Ts) : OwnEnts R w' B v l := by
  obtain ⟨vss, h1, h2⟩ := h
  exact ⟨vss, row_keepC h1 hs hE, h2⟩
/-- slices.Clone of entries that are read in an elder world. -/
theorem cloneEntsR (R : World) (tv : Value) (t : List Ent) (w : World) (ht : Ents R tv t) (hR : Below R.heap.size R w) (hn : t.length ≤ 65536) :
    Calls Tryz.prog 62 #[tv] w fun en w' => ∃ v, en = .returned v ∧ OwnEnts R w' w.heap.size v t ∧ Below w.heap.size w w' := by
  obtain ⟨ao, cap, vss, rfl, h2, h3, h4, h5⟩ := ht
  refine (clone_ent ao t.length cap vss w (h4.below hR) h5.1.symm (all2_ones h5) hn).mono ?_
  rintro en w' ⟨v, rfl, ho, hb⟩
  exact ⟨v, rfl, ⟨vss, ho, h5⟩, hb⟩
/-- slices.Clone of sessions that are read in an elder world. -/
theorem cloneSessR (R : World) (v : Value) (l : List Ses) (w : World) (hl : Sess R v l) (hR : Below R.heap.size R w) (hn : l.length ≤ 65536) :
    Calls Tryz.prog 63 #[v] w fun e w' => ∃ v', e = .returned v' ∧ OwnSess R w' w.heap.size v' l ∧ Below w.heap.size w w' := by
  obtain ⟨ao, cap, vss, rfl, h2, h3, h4, h5⟩ := hl
  refine (clone_ses ao l.length cap vss w (h4.below hR) h5.1.symm (fun x hx => by
    obtain ⟨y, _, hy⟩ := all2_mem h5 hx
    exact sesC_one hy) hn).mono ?_
  rintro en w' ⟨v, rfl, ho, hb⟩
  exact ⟨v, rfl, ⟨vss, ho, h5⟩, hb⟩
theorem OwnSess.read {R w : World} {B : Nat} {v : Value} {l : List Ses} (h : OwnSess R w B v l) (hb : Below R.heap.size R w) : Sess w v l := by
  obtain ⟨vss, h1, h2⟩ := h
  obtain ⟨ao, cap, rfl, h3, h4⟩ := row_form h1
  refine ⟨ao, cap, vss, rfl, h3, h4, Raw.of_own (E := 39) (B := B) (n := l.length) (cap := cap) (by rw [h2.1]; exact h1) (fun x hx => by
    obtain ⟨y, _, hy⟩ := all2_mem h2 hx
    exact sesC_len hy), h2.1, fun j x y hx hy => (h2.2 j x y hx hy).below hb⟩
theorem far6 {w : World} {b c : Nat} (h : c ≠ b) (v0 v1 v2 v3 v4 v5 : Value) (j : Nat) : ((((((w.setCell ⟨b, 0, none⟩ v0).setCell ⟨b, 1, none⟩ v1).setCell ⟨b, 2, none⟩ v2).setCell ⟨b, 3, none⟩ v3).setCell ⟨b, 4, none⟩ v4).setCell ⟨b, 5, none⟩ v5).cell? ⟨c, j, none⟩ = w.cell? ⟨c, j, none⟩ := by
  refine World.cell?_of_block ?_
  exact (heap_setCell_other _ ⟨b, 5, none⟩ c v5 h).trans ((heap_setCell_other _ ⟨b, 4, none⟩ c v4 h).trans ((heap_setCell_other _ ⟨b, 3, none⟩ c v3 h).trans ((heap_setCell_other _ ⟨b, 2, none⟩ c v2 h).trans ((heap_setCell_other _ ⟨b, 1, none⟩ c v1 h).trans (heap_setCell_other _ ⟨b, 0, none⟩ c v0 h)))))

set_option maxHeartbeats 4000000 in
set_option maxRecDepth 100000 in
theorem close_any (v : Value) (d : Draft) (w : World) (hd : DraV w v d) (hn : d.entries.length ≤ 65536) :
    Calls Tryz.prog 23 #[v] w fun en w' => ∃ v', en = .returned v' ∧ SesV w' v' (closeS d) ∧ Below w.heap.size w w' := by
  obtain ⟨da, dc, ca, cc, ta, tc, ha, hc, rfl, h2, h3, h4, h5⟩ := hd
  obtain ⟨W, hW, hbW, hzW, qD⟩ := box9 w (.int .i64 d.num) (.int .i64 d.date) (.string ⟨d.prev.toArray⟩) (.slice da d.entries.length dc) (.slice ca d.store.chunks.length cc) (.int .i64 d.store.ses) (.string ⟨d.store.stream.toArray⟩) (.slice ta d.tree.length tc) (.slice ha d.holds.length hc) 68
  obtain ⟨V, hV, hbV, hzV, hblk, _⟩ := box6 W (.int .i64 0) (.int .i64 0) (.string ⟨#[]⟩) (.slice none 0 0) (.string ⟨#[]⟩) (.string ⟨#[]⟩) 39
  have hbWV := hbW.trans (hbV.mono hbW.size)
  have hqD := (hbV.block w.heap.size hzW).trans qD
  have hl0 : w.heap.size < V.heap.size := Nat.lt_of_lt_of_le hzW hbV.size
  have hl1 : W.heap.size < V.heap.size := by omega
  have d0 : V.drew.cell? ⟨w.heap.size, 0, none⟩ = some (.int .i64 d.num) := tcell hqD 0 (.int .i64 d.num) rfl
  have d1 : V.drew.cell? ⟨w.heap.size, 1, none⟩ = some (.int .i64 d.date) := tcell hqD 1 (.int .i64 d.date) rfl
  have d2 : V.drew.cell? ⟨w.heap.size, 2, none⟩ = some (.string ⟨d.prev.toArray⟩) := tcell hqD 2 (.string ⟨d.prev.toArray⟩) rfl
  have d3 : V.drew.cell? ⟨w.heap.size, 3, none⟩ = some (.slice da d.entries.length dc) := tcell hqD 3 (.slice da d.entries.length dc) rfl
  have d6 : V.drew.cell? ⟨w.heap.size, 6, none⟩ = some (.string ⟨d.store.stream.toArray⟩) := tcell hqD 6 (.string ⟨d.store.stream.toArray⟩) rfl
  have hne : w.heap.size ≠ W.heap.size := by omega
  have HCL := Lib.hid (cloneEntsR w _ d.entries V.drew h2 hbWV.drew hn)
  have HZ := Lib.hid hblk
  have HB := Lib.hid hbWV
  have hwW := hbW.size
  clear h2 h3 h4 h5 hqD qD hblk hzV
  go_enter Tryz.func23, Tryz.ntmps23
  go_upto_region 1 with (fail)
  try rw [hW]
  try rw [hV]
  clear hW hV
  go_region_held3 (fun w' => w'.cell? ⟨w.heap.size, 0, none⟩ = some (.int .i64 d.num) ∧ w'.cell? ⟨w.heap.size, 1, none⟩ = some (.int .i64 d.date) ∧ w'.cell? ⟨w.heap.size, 2, none⟩ = some (.string ⟨d.prev.toArray⟩) ∧ w'.cell? ⟨w.heap.size, 3, none⟩ = some (.slice da d.entries.length dc) ∧ w'.cell? ⟨w.heap.size, 6, none⟩ = some (.string ⟨d.store.stream.toArray⟩)) (first | with_reducible exact ⟨d0, d1, d2, d3, d6⟩ | with_reducible exact ⟨p0, p1, p2, p3, p6⟩ | with_reducible exact ⟨r0, r1, r2, r3, r6⟩ | go_keep) ((go_at_call 62; refine HCL.out.mono ?_; rintro en v1 ⟨cv, rfl, hcv, hv1⟩; obtain ⟨na, nc, rfl⟩ := hcv.form; have p0 := cell_on hv1 hl0 d0; have p1 := cell_on hv1 hl0 d1; have p2 := cell_on hv1 hl0 d2; have p3 := cell_on hv1 hl0 d3; have p6 := cell_on hv1 hl0 d6; have hz := (hv1.block _ hl1).trans HZ.out; have y0 := tcell hz 0 _ rfl; have z0 := tfree hz 0; have y1 := tcell hz 1 _ rfl; have z1 := tfree hz 1; have y2 := tcell hz 2 _ rfl; have z2 := tfree hz 2; have y3 := tcell hz 3 _ rfl; have z3 := tfree hz 3; have y4 := tcell hz 4 _ rfl; have z4 := tfree hz 4; have y5 := tcell hz 5 _ rfl; have z5 := tfree hz 5; have r0 := (far6 (w := v1) hne (.int .i64 d.num) (.int .i64 d.date) (.string ⟨d.prev.toArray⟩) (.slice na d.entries.length nc) (.string ⟨d.store.stream.toArray⟩) (.string ⟨#[]⟩) 0).trans p0; have r1 := (far6 (w := v1) hne (.int .i64 d.num) (.int .i64 d.date) (.string ⟨d.prev.toArray⟩) (.slice na d.entries.length nc) (.string ⟨d.store.stream.toArray⟩) (.string ⟨#[]⟩) 1).trans p1; have r2 := (far6 (w := v1) hne (.int .i64 d.num) (.int .i64 d.date) (.string ⟨d.prev.toArray⟩) (.slice na d.entries.length nc) (.string ⟨d.store.stream.toArray⟩) (.string ⟨#[]⟩) 2).trans p2; have r3 := (far6 (w := v1) hne (.int .i64 d.num) (.int .i64 d.date) (.string ⟨d.prev.toArray⟩) (.slice na d.entries.length nc) (.string ⟨d.store.stream.toArray⟩) (.string ⟨#[]⟩) 3).trans p3; have r6 := (far6 (w := v1) hne (.int .i64 d.num) (.int .i64 d.date) (.string ⟨d.prev.toArray⟩) (.slice na d.entries.length nc) (.string ⟨d.store.stream.toArray⟩) (.string ⟨#[]⟩) 6).trans p6))
  all_goals
    go_wp2_with fail
    try simp only [Exit.inBlock, Exit.then]
    have sg := set_grown (w := v1) (b := W.heap.size) [(0, .int .i64 d.num), (1, .int .i64 d.date), (2, .string ⟨d.prev.toArray⟩), (3, .slice na d.entries.length nc), (4, .string ⟨d.store.stream.toArray⟩), (5, .string ⟨#[]⟩)]
    have t1 := sets hz [(0, .int .i64 d.num), (1, .int .i64 d.date), (2, .string ⟨d.prev.toArray⟩), (3, .slice na d.entries.length nc), (4, .string ⟨d.store.stream.toArray⟩), (5, .string ⟨#[]⟩)]
    have hvb := HB.out.drew.trans (hv1.mono HB.out.drew.size)
    have hfin := hvb.grown sg hvb.size (fun k hk => by injection hk with hk; omega)
    have he := (hcv.keepC ((Oth.of_grown sg).keepC (Ts := [39]) hz (by simp)) (by decide)).read hfin
    refine bodyPost_ret (v := .agg #[.int .i64 d.num, .int .i64 d.date, .string ⟨d.prev.toArray⟩, .slice na d.entries.length nc, .string ⟨d.store.stream.toArray⟩, .string ⟨#[]⟩]) ?_ ?_ ?_
    · refine results_cell_row (p := 2) (ty := 39) (by kernel_rfl) _ _ W.heap.size 39 _ (0, 0) _ ?_ t1 Tryz.underlying39 (by kernel_rfl) (by kernel_rfl)
      kernel_rfl
    · kernel_rfl
    · exact ⟨_, rfl, ⟨na, nc, rfl, he⟩, by first | exact hfin | exact hfin.drew⟩
end Go.Proofs.YtbhmdcdhklgomaaGreatDoor

/-
  A region that draws its order, whose head only reads and draws (calls that draw among them) and whose tail is forced: one walk of the head in the text's order, then the tail. After the library's still tail, over a class of worlds.
-/
namespace Go.Proofs.YtbhmdcdhklgomaaGreatDoor
open Go

section
variable {P : Program} {ops : Array Oper} {md : Region.Mode} {C : World → Prop}
def wpAnyLQ (P : Program) (md : Region.Mode) (ops : Array Oper) (C : World → Prop) (n : Nat) (L : Array Bool → Act → Prop) : Nat → Array Bool → Act → Prop
  | 0, listed, a => L listed a
  | f + 1, listed, a =>
    Region.ready md ops listed ≠ [] ∧ ∀ i ∈ Region.ready md ops listed, i < n ∧ qOp P ops C i (wpAnyLQ P md ops C n L f (listed.setIfInBounds i true)) a

theorem wpAny_of_headQ {n g : Nat} {L : Array Bool → Act → Prop} {Q' : Exit → Act → World → Prop} (hL : ∀ listed a w, C w → L listed a → wpAny P md ops Q' g listed a w) :
    ∀ (f : Nat) (listed : Array Bool) (a : Act) (w : World), C w → wpAnyLQ P md ops C n L f listed a → wpAny P md ops Q' (f + g) listed a w
  | 0, listed, a, w, hw, h => by rw [Nat.zero_add]; exact hL _ _ _ hw h
  | f + 1, listed, a, w, hw, h => by
    rw [show f + 1 + g = (f + g) + 1 by omega]
    exact ⟨fun h0 => absurd h0 h.1, fun i hi => wpOp_of_qOp hw (fun a' w' hw' h' => wpAny_of_headQ hL f _ a' w' hw' h') (h.2 i hi).2⟩

theorem wpAnyLQ_first {n i : Nat} {oi : Oper} {v : Value} {L : Array Bool → Act → Prop} (hi : ops[i]? = some oi) (hsel : ∀ (j : Nat) (o : Oper) cs b, ops[j]? = some o → o.op ≠ .select cs b)
    (hs : Region.sinkB md ops n = true) (hc : Region.chainB md ops n = true) (hn : n < ops.size) (hin : i < n)
    (hdone : ∀ listed a, L listed a → ∀ j ∈ Region.ready md ops listed, n ≤ j) :
    ∀ (f : Nat) (listed : Array Bool) (a : Act), HeadInv md ops n listed →
      (∀ j oj, ops[j]? = some oj → j ≠ i → listed.getD j true = false → (∀ e ∈ oj.after, Region.binds md e = true → e.on ≠ i) → oi.apart ops oj = true) →
      i ∈ Region.ready md ops listed → YieldsIn P ops C oi v a →
      wpAnyLQ P md ops C n L f (listed.setIfInBounds i true) (a.put oi.dst v) → wpAnyLQ P md ops C n L (f + 1) listed a := by
  intro f
  induction f with
  | zero =>
    intro listed a inv _ hr hy H
    have hun := (mem_ready.1 hr).1
    refine ⟨fun h => (by rw [h] at hr; cases hr), fun j hj => ?_⟩
    have hjn : j < n := by
      rcases Nat.lt_or_ge j n with h | h
      · exact h
      · exact absurd hj (tail_waits hs hc hn inv _ i rfl hin hun j h)
    refine ⟨hjn, ?_⟩
    by_cases hji : j = i
    · subst hji; exact hy.qOp hi H
    · have := hdone _ _ H j (ready_mono hj hji)
      omega
  | succ f ih =>
    intro listed a inv hfree hr hy H
    have hun := (mem_ready.1 hr).1
    refine ⟨fun h => (by rw [h] at hr; cases hr), fun j hj => ?_⟩
    have hjn : j < n := by
      rcases Nat.lt_or_ge j n with h | h
      · exact h
      · exact absurd hj (tail_waits hs hc hn inv _ i rfl hin hun j h)
    refine ⟨hjn, ?_⟩
    by_cases hji : j = i
    · subst hji; exact hy.qOp hi H
    · have h1 := (H.2 j (ready_mono hj hji)).2
      obtain ⟨hjun, oj, hoj, hall⟩ := mem_ready.1 hj
      have hnot : ∀ e ∈ oj.after, Region.binds md e = true → e.on ≠ i := fun e he hb heq => by
        have h1 := hall e he hb
        rw [heq, getD_both hun] at h1
        cases h1
      have h2 := qOp_put hoj (hfree j oj hoj hji hjun hnot) (fun cs b => hsel i oi cs b hi) (fun cs b => hsel j oj cs b hoj) hy h1
      have hfree' : ∀ k ok, ops[k]? = some ok → k ≠ i → (listed.setIfInBounds j true).getD k true = false →
          (∀ e ∈ ok.after, Region.binds md e = true → e.on ≠ i) → oi.apart ops ok = true := fun k ok hk hki hun hno => by
        refine hfree k ok hk hki ?_ hno
        by_cases hjk : j = k
        · subst hjk; exact hjun
        · rw [getD_set_ne true hjk] at hun; exact hun
      refine qOp_mono (fun a' h3 => ih (listed.setIfInBounds j true) a' (inv.set hj hjn) hfree' (ready_mono hr (Ne.symm hji)) h3.1 ?_) h2
      rw [Array.setIfInBounds_comm _ _ hji]
      exact h3.2

theorem wpAnyLQ_lex {n g : Nat} {Lq : Act → Prop} (hsel : Region.noSelect ops = true) (hs : Region.sinkB md ops n = true) (hc : Region.chainB md ops n = true) (hn : n < ops.size) :
    ∀ (l : List Oper) (k : Nat) (listed : Array Bool) (a : Act), (∀ j, j < l.length → l[j]? = ops[k + j]?) → k + l.length = n → HeadInv md ops n listed →
    Region.lexHead md ops g l.length k listed = true → wpQuiet P ops C Lq l a →
    wpAnyLQ P md ops C n (fun listed' a' => Region.seqB md ops g n listed' = true ∧ Lq a') l.length listed a
  | [], k, listed, a, _, hk, _, hB, h => by
    have : k = n := by simpa using hk
    subst this
    exact ⟨by simpa [Region.lexHead] using hB, h⟩
  | o :: l, k, listed, a, hl, hk, inv, hB, h => by
    have h0 : ops[k]? = some o := by simpa using (hl 0 (by simp)).symm
    simp only [List.length_cons, Region.lexHead, Bool.and_eq_true] at hB
    obtain ⟨⟨hr, hf⟩, hB'⟩ := hB
    have hkn : k < n := by simp only [List.length_cons] at hk; omega
    have hr' : k ∈ Region.ready md ops listed := by simpa using hr
    have hst : qOp P ops C k (wpQuiet P ops C Lq l) a := by unfold qOp; simp only [h0]; exact h
    obtain ⟨v, hy, hK⟩ := yieldsIn_of_qOp h0 hst
    exact wpAnyLQ_first h0 (Region.noSelect_spec hsel) hs hc hn hkn (fun listed' a' hL => seqB_ready hL.1) l.length listed a inv (Region.free_spec h0 hf) hr' hy
      (wpAnyLQ_lex hsel hs hc hn l (k + 1) _ _ (fun j hj => by have := hl (j + 1) (by simp; omega); simpa [Nat.add_assoc, Nat.add_comm 1 j] using this) (by simp only [List.length_cons] at hk; omega) (inv.set hr' hkn) hB' hK)

theorem wp_region_quiet_tail {id : Nat} {Q : Exit → Act → World → Prop} {a : Act} {w : World} {l : List Oper} (n : Nat) (hm : P.follows .mixedOrders = true) (hB : Region.lexTailB .any l.toArray n = true)
    (h : wpQuiet P l.toArray (fun w' => ∃ n, w' = w.drewN n) (fun a' => ∀ w', (∃ n, w' = w.drewN n) → wpList P l.toArray Q (l.drop n) a' w') (l.take n) a) : (Code.region id l.toArray true).wp P Q a w := by
  simp only [Region.lexTailB, Bool.and_eq_true, decide_eq_true_eq] at hB
  obtain ⟨⟨⟨⟨hsel, hn⟩, hs⟩, hc⟩, hlex⟩ := hB
  have hn' : n < l.length := by simpa using hn
  have htl : (l.take n).length = n := by simp; omega
  have hdl : (l.drop n).length = l.toArray.size - n := by simp
  have inv0 : HeadInv .any l.toArray n (Array.replicate l.toArray.size false) :=
    ⟨by simp, fun j oj _ hl => (by rw [getD_replicate_false] at hl; cases hl), fun t _ ht => getD_in (by simpa using ht) (getD_replicate_false _ _)⟩
  have H := wpAnyLQ_lex (C := fun w' => ∃ n, w' = w.drewN n) (md := .any) (g := l.toArray.size - n) hsel hs hc hn (l.take n) 0 _ a (fun j hj => by
    have hj' : j < n := by rw [htl] at hj; exact hj
    simp [hj']) (by simpa using htl) inv0 (by rw [htl]; exact hlex) h
  refine wp_region_any hm ?_
  have := wpAny_of_headQ (C := fun w' => ∃ n, w' = w.drewN n) (Q' := Q) (g := l.toArray.size - n) (fun listed a' w' hw' hL => by
    have := wpAny_of_seq (md := .any) (Q' := Q) (l.drop n) n listed a' w' (fun j => by simp [List.getElem?_drop]) (by rw [hdl]; exact hL.1) (hL.2 w' hw')
    rwa [hdl] at this) _ _ _ _ ⟨1, rfl⟩ H
  rw [htl, show n + (l.toArray.size - n) = l.toArray.size by omega] at this
  exact this
end
end Go.Proofs.YtbhmdcdhklgomaaGreatDoor
