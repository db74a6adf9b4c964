/-
  chunkstore.Put: what its loops keep. No walk.
-/
import Derived.Test.YtbhmdcdhklgomaaGreatDoorM25
import Derived.Test.YtbhmdcdhklgomaaGreatDoorM03
import Derived.Test.YtbhmdcdhklgomaaGreatDoorM20
namespace Go.Proofs.YtbhmdcdhklgomaaGreatDoor
open Go.RowKit Go.Shelf Top

/-! Blocks by their types. -/
def SameT (Ts : List TypeId) (w w' : World) : Prop := w.heap.size ≤ w'.heap.size ∧ ∀ (j : Nat) (o : Obj), w.heap[j]? = some o → (∀ cs T fr, o = .cells cs T fr → T ∉ Ts) → w'.heap[j]? = some o
def KeepC (Ts : List TypeId) (w w' : World) : Prop := w.heap.size ≤ w'.heap.size ∧ ∀ (j : Nat) (cs : Array Value) (T : TypeId) (fr : Nat × Nat), w.heap[j]? = some (.cells cs T fr) → T ∉ Ts → w'.heap[j]? = some (.cells cs T fr)
section
variable {w w' w'' : World} {Ts Us : List TypeId}
theorem SameT.keep (h : SameT Ts w w') : KeepC Ts w w' := ⟨h.1, fun j cs T fr hj hT => h.2 j _ hj (fun cs' T' fr' e => by injection e with _ e2 _; rw [← e2]; exact hT)⟩
theorem KeepC.mono (h : KeepC Ts w w') (hs : ∀ T, T ∈ Ts → T ∈ Us) : KeepC Us w w' := ⟨h.1, fun j cs T fr hj hT => h.2 j cs T fr hj (fun ht => hT (hs T ht))⟩
theorem KeepC.refl (Ts : List TypeId) (w : World) : KeepC Ts w w := ⟨Nat.le_refl _, fun _ _ _ _ h _ => h⟩
theorem KeepC.trans (h : KeepC Ts w w') (k : KeepC Ts w' w'') : KeepC Ts w w'' := ⟨Nat.le_trans h.1 k.1, fun j cs T fr hj hT => k.2 j cs T fr (h.2 j cs T fr hj hT) hT⟩
theorem KeepC.of_below (h : Below w.heap.size w w') : KeepC Ts w w' := ⟨h.size, fun j _ _ _ hj _ => (h.block j (Array.getElem?_eq_some_iff.1 hj).1).trans hj⟩
theorem SameT.of_below (h : Below w.heap.size w w') : SameT Ts w w' := ⟨h.size, fun j _ hj _ => (h.block j (Array.getElem?_eq_some_iff.1 hj).1).trans hj⟩
theorem SameT.of_grown {x : Nat} (hg : w.grownBy w' (some x)) {cs : Array Value} {T : TypeId} {fr : Nat × Nat} (hx : w.heap[x]? = some (.cells cs T fr)) (hT : T ∈ Ts) : SameT Ts w w' :=
  ⟨hg.size, fun j o hj ho => by
    have hlt := (Array.getElem?_eq_some_iff.1 hj).1
    have hne : j ≠ x := by
      rintro rfl
      rw [hj] at hx
      injection hx with hx
      exact ho cs T fr hx hT
    exact (hg.block j hlt (fun e => hne (by injection e))).trans hj⟩
theorem KeepC.of_map {x : Nat} (hg : w.grownBy w' (some x)) (hx : ∀ cs T fr, w.heap[x]? ≠ some (.cells cs T fr)) : KeepC Ts w w' :=
  ⟨hg.size, fun j cs T fr hj _ => by
    have hlt := (Array.getElem?_eq_some_iff.1 hj).1
    have hne : j ≠ x := by
      rintro rfl
      exact hx cs T fr hj
    exact (hg.block j hlt (fun e => hne (by injection e))).trans hj⟩
theorem SameT.of_row {α : Type} {E : TypeId} {c : α → List Value} {k B : Nat} {v : Value} {l : List α} (h : OwnF E c k w B v l) (hg : w.grownBy w' v.ownBlock) (hE : E ∈ Ts) : SameT Ts w w' := by
  cases hv : v.ownBlock with
  | none =>
    rw [hv] at hg
    exact ⟨hg.size, fun j o hj _ => (hg.block j (Array.getElem?_eq_some_iff.1 hj).1 (by simp)).trans hj⟩
  | some g =>
    rw [hv] at hg
    obtain ⟨cs, hb⟩ := h.block hv
    exact SameT.of_grown hg hb hE
theorem OwnF.keepC {α : Type} {E : TypeId} {c : α → List Value} {k B : Nat} {v : Value} {l : List α} (h : OwnF E c k w B v l) (hs : KeepC Ts w w') (hE : E ∉ Ts) : OwnF E c k w' B v l := by
  rcases h.2 with h2 | ⟨g, cap, cur, rfl, h1, hg, h3⟩
  · exact ⟨h.1, .inl h2⟩
  · exact ⟨h.1, .inr ⟨g, cap, cur, rfl, h1, hs.2 _ _ _ _ hg hE, h3⟩⟩
theorem Boxed.keepC {b : Nat} {T : TypeId} {v : Value} (h : Boxed w b T v) (hs : KeepC Ts w w') (hT : T ∉ Ts) : Boxed w' b T v := hs.2 _ _ _ _ h hT
theorem MapK.sameT {b n : Nat} {k : Known} (h : MapK w b n k) (hs : SameT Ts w w') : MapK w' b n k := by
  have h' := h
  obtain ⟨D, ⟨es, cl, h1, h2⟩, h3⟩ := h'
  exact h.same ((hs.2 _ _ h1 (fun _ _ _ e => by cases e)).trans h1.symm)
theorem MapK.noCells {b n : Nat} {k : Known} (h : MapK w b n k) : ∀ cs T fr, w.heap[b]? ≠ some (.cells cs T fr) := by
  obtain ⟨D, ⟨es, cl, h1, h2⟩, h3⟩ := h
  intro cs T fr e
  rw [h1] at e
  cases e
theorem CollP.same {b B : Nat} {v : Value} {out : List Ext} (h : CollP w w' b v) (hx : Boxed w b 41 v) (ho : OwnX w B v out) : SameT [41, 93] w w' :=
  ⟨h.1, fun j o hj hno => by
    have hlt := (Array.getElem?_eq_some_iff.1 hj).1
    refine (h.2 j hlt ?_ ?_).trans hj
    · rintro rfl
      have hx : w.heap[j]? = some _ := hx
      rw [hj] at hx
      injection hx with hx
      exact hno _ _ _ hx (by simp)
    · intro e
      obtain ⟨cs, hb⟩ := ho.block e
      rw [hj] at hb
      injection hb with hb
      exact hno _ _ _ hb (by simp)⟩
end

theorem sumGo_len (s : Bs) : ∀ (f n : Nat) (h : List Int), h.length = 8 → (Blk.sumGo s f n h).length = 8
  | 0, _, _, h => h
  | f + 1, n, h, hl => by
    unfold Blk.sumGo
    split
    · exact sumGo_len s f _ _ (compress_len ..)
    · exact compress_len ..
theorem sum_len (s : Bs) : (Blk.sum s).length = 32 := by
  unfold Blk.sum
  have h := sumGo_len s (s.length / 64 + 1) 0 Blk.first rfl
  obtain ⟨r0, r1, r2, r3, r4, r5, r6, r7, e⟩ := eight h
  rw [e]
  rfl
/-! Bounds. -/
def ExtB (N : Nat) (y : Ext) : Prop := 0 ≤ y.off ∧ y.off ≤ (N : Int) * 65536 ∧ 0 ≤ y.len ∧ y.len ≤ (N : Int) * 65536
def ExtK (N : Nat) (y : Ext) : Prop := 0 ≤ y.off ∧ y.off ≤ (N : Int) * 65536 ∧ 0 ≤ y.len ∧ y.len ≤ 65536
structure PutOk (N : Nat) (s : PutS) : Prop where
  chunks : s.chunks.length ≤ N
  stream : s.stream.length ≤ N * 65536
  outs : s.out.length ≤ N
  out : ∀ y ∈ s.out, ExtB N y
  known : ∀ d x, Top.look s.known d = some x → ExtK N x
  each : ∀ c ∈ s.chunks, c.digest.length ≤ 1000000000 ∧ ExtK N c.ext
theorem ExtB.mono {N M : Nat} {y : Ext} (h : ExtB N y) (hM : N ≤ M) : ExtB M y := by
  obtain ⟨h1, h2, h3, h4⟩ := h
  exact ⟨h1, by omega, h3, by omega⟩
theorem ExtK.mono {N M : Nat} {y : Ext} (h : ExtK N y) (hM : N ≤ M) : ExtK M y := by
  obtain ⟨h1, h2, h3, h4⟩ := h
  exact ⟨h1, by omega, h3, h4⟩
theorem PutOk.mono {N M : Nat} {s : PutS} (h : PutOk N s) (hM : N ≤ M) : PutOk M s :=
  ⟨Nat.le_trans h.chunks hM, Nat.le_trans h.stream (Nat.mul_le_mul_right _ hM), Nat.le_trans h.outs hM, fun y hy => (h.out y hy).mono hM, fun d x hd => (h.known d x hd).mono hM, fun c hc => ⟨(h.each c hc).1, (h.each c hc).2.mono hM⟩⟩
theorem add_len (out : List Ext) (x : Ext) : (add out x).length ≤ out.length + 1 := by
  rcases list_end out with rfl | ⟨l, y, rfl⟩
  · rw [add_nil]; simp
  · rw [add_snoc]
    split
    · simp
    · simp
theorem add_ok {N : Nat} {out : List Ext} {x : Ext} (ho : ∀ y ∈ out, ExtB N y) (hx : ExtK N x) : ∀ y ∈ add out x, ExtB (N + 1) y := by
  obtain ⟨x1, x2, x3, x4⟩ := hx
  have hx1 : ExtB (N + 1) x := ⟨x1, by omega, x3, by omega⟩
  rcases list_end out with rfl | ⟨l, y, rfl⟩
  · intro z hz
    rw [add_nil, List.mem_singleton] at hz
    subst hz
    exact hx1
  · rw [add_snoc]
    split
    · intro z hz
      rcases List.mem_append.1 hz with hz | hz
      · exact (ho z (List.mem_append_left _ hz)).mono (by omega)
      · rw [List.mem_singleton] at hz
        subst hz
        obtain ⟨y1, y2, y3, y4⟩ := ho y (by simp)
        exact ⟨y1, by show y.off ≤ _; omega, by show 0 ≤ y.len + x.len; omega, by show y.len + x.len ≤ _; omega⟩
    · intro z hz
      rcases List.mem_append.1 hz with hz | hz
      · exact (ho z hz).mono (by omega)
      · rw [List.mem_singleton] at hz
        subst hz
        exact hx1
theorem PutOk.add {N : Nat} {s : PutS} (h : PutOk N s) {x : Ext} (hx : ExtK N x) : PutOk (N + 1) { s with out := Top.add s.out x } := by
  have h' := h.mono (Nat.le_succ N)
  exact ⟨h'.chunks, h'.stream, Nat.le_trans (add_len ..) (Nat.succ_le_succ h.outs), add_ok h.out hx, h'.known, h'.each⟩
theorem PutOk.new {N : Nat} {s : PutS} (h : PutOk N s) {ses : Int} {d dat : Bs} (hd : d.length ≤ 1000000000) (hl : dat.length ≤ 65536) (hn : Top.look s.known d = none) :
    PutOk (N + 1) ⟨s.known ++ [(d, ⟨ses, s.stream.length, dat.length⟩)], s.chunks ++ [⟨d, ⟨ses, s.stream.length, dat.length⟩⟩], s.stream ++ dat, Top.add s.out ⟨ses, s.stream.length, dat.length⟩⟩ := by
  have hs := h.stream
  have hx : ExtK N ⟨ses, s.stream.length, dat.length⟩ := ⟨by show (0 : Int) ≤ (s.stream.length : Int); omega, by show (s.stream.length : Int) ≤ _; omega, by show (0 : Int) ≤ (dat.length : Int); omega, by show (dat.length : Int) ≤ _; omega⟩
  have h' := h.mono (Nat.le_succ N)
  refine ⟨?_, ?_, Nat.le_trans (add_len ..) (Nat.succ_le_succ h.outs), add_ok h.out hx, fun d' x hdx => ?_, fun c hc => ?_⟩
  · have := h.chunks
    simp only [List.length_append, List.length_singleton]
    omega
  · simp only [List.length_append]
    omega
  · rw [look_snoc _ _ _ _ hn] at hdx
    split at hdx
    · injection hdx with hdx
      subst hdx
      exact hx.mono (Nat.le_succ N)
    · exact h'.known _ _ hdx
  · rcases List.mem_append.1 hc with hc | hc
    · exact h'.each c hc
    · rw [List.mem_singleton] at hc
      subst hc
      exact ⟨hd, hx.mono (Nat.le_succ N)⟩
theorem look_index {l : List Chunk} {d : Bs} {x : Ext} (h : Top.look (Top.index l) d = some x) : ∃ c ∈ l, c.ext = x := by
  rcases list_end l with rfl | ⟨r, c, rfl⟩
  · cases h
  · have e : Top.index (r ++ [c]) = idxStep (Top.index r) c := by
      rw [index_fold, index_fold, List.foldl_append]
      rfl
    rw [e] at h
    unfold idxStep at h
    have rc (h : Top.look (Top.index r) d = some x) : ∃ c' ∈ r ++ [c], c'.ext = x := by
      obtain ⟨c', h1, h2⟩ := look_index h
      exact ⟨c', List.mem_append_left _ h1, h2⟩
    split at h
    · exact rc h
    · rename_i hno
      rw [look_snoc _ _ _ _ (by simpa using hno)] at h
      split at h
      · injection h with h
        exact ⟨c, by simp, h⟩
      · exact rc h
termination_by l.length
decreasing_by simp_all
/-- A store that a new Put may start from. -/
structure StoOk (N : Nat) (s : Store) : Prop where
  chunks : s.chunks.length ≤ N
  stream : s.stream.length ≤ N * 65536
  each : ∀ c ∈ s.chunks, c.digest.length ≤ 1000000000 ∧ ExtK N c.ext
theorem StoOk.start {N : Nat} {s : Store} (h : StoOk N s) : PutOk N ⟨Top.index s.chunks, s.chunks, s.stream, []⟩ :=
  ⟨h.chunks, h.stream, Nat.zero_le _, fun _ hy => (List.not_mem_nil hy).elim, fun d x hd => by
    obtain ⟨c, h1, rfl⟩ := look_index hd
    exact (h.each c h1).2, h.each⟩
/-- How many extents a segment adds. -/
def cost (g : Seg) : Nat := if g.data = [] then 1 else (Top.chunks g.data).length
def SegOk (g : Seg) : Prop := g.data.length ≤ 65536 ∧ 0 ≤ g.len ∧ g.len ≤ 65536
theorem chunksGo_mem : ∀ (f : Nat) (d x : Bs), x ∈ Top.chunksGo f d → x.length ≤ d.length
  | 0, d, x, h => (List.not_mem_nil h).elim
  | f + 1, d, x, h => by
    by_cases hd : d = []
    · rw [hd, chunksGo_nil] at h
      exact (List.not_mem_nil h).elim
    · rw [chunksGo_cons f hd] at h
      rcases List.mem_cons.1 h with rfl | h
      · simp; omega
      · have := chunksGo_mem f _ x h
        rw [List.length_drop] at this
        omega
theorem runsGo_sum (c : Bs) : ∀ (f a b : Nat), a ≤ b → b ≤ c.length → ((Top.runsGo c f a b).map fun x => x.1.length).sum + a ≤ c.length
  | 0, a, b, h1, h2 => by
    show 0 + a ≤ _
    omega
  | f + 1, a, b, h1, h2 => by
    by_cases h : b < c.length
    · have hzl : zeros (c.drop b) ≤ c.length - b := by
        unfold zeros
        exact Nat.le_trans (List.takeWhile_sublist _).length_le (Nat.le_of_eq (List.length_drop ..))
      by_cases hz : 32 ≤ zeros (c.drop b)
      · rw [runsGo_hole c f a b h hz, List.map_cons, List.sum_cons]
        have := runsGo_sum c f (b + zeros (c.drop b)) (b + zeros (c.drop b)) (Nat.le_refl _) (by omega)
        simp only [List.length_take, List.length_drop]
        omega
      · rw [runsGo_data c f a b h hz]
        exact runsGo_sum c f a (b + max (zeros (c.drop b)) 1) (by omega) (by omega)
    · rw [runsGo_end c f a b h]
      split
      · simp
        omega
      · simp
        omega
theorem segOf_cost (x : Bs × Nat) : ((segOf x).map cost).sum ≤ x.1.length + 2 := by
  unfold segOf
  have h1 : ((if 0 < x.2 then [(⟨[], x.2⟩ : Seg)] else []).map cost).sum ≤ 1 := by
    split
    · simp [cost]
    · simp
  have h2 : ((if x.1 = [] then [] else [(⟨x.1, 0⟩ : Seg)]).map cost).sum ≤ x.1.length := by
    split
    · simp
    · rename_i hx
      simp only [List.map_cons, List.map_nil, List.sum_cons, List.sum_nil, cost, if_neg hx]
      exact chunksGo_len _ _
  rw [List.map_append, List.sum_append]
  omega
theorem flat_cost : ∀ l : List (Bs × Nat), ((l.flatMap segOf).map cost).sum ≤ (l.map fun x => x.1.length).sum + 2 * l.length
  | [] => by simp
  | x :: l => by
    have h1 := flat_cost l
    have h2 := segOf_cost x
    rw [List.flatMap_cons, List.map_append, List.sum_append, List.map_cons, List.sum_cons, List.length_cons]
    omega
theorem segs_cost (c : Bs) (h : c.length ≤ 65536) : ((segs c).map cost).sum ≤ 200000 := by
  have h1 := flat_cost (runs c)
  have h2 := runsGo_sum c (c.length + 1) 0 0 (Nat.le_refl _) (Nat.zero_le _)
  have h3 := runsGo_len c (c.length + 1) 0 0
  have h4 : ((segs c).map cost).sum ≤ ((runs c).map fun x => x.1.length).sum + 2 * (runs c).length := h1
  have h5 : ((runs c).map fun x => x.1.length).sum + 0 ≤ c.length := h2
  have h6 : (runs c).length ≤ c.length - 0 + 1 := h3
  omega
theorem segs_ok (c : Bs) (h : c.length ≤ 65536) : ∀ g ∈ segs c, SegOk g := by
  intro g hg
  unfold segs at hg
  obtain ⟨x, hx, hg⟩ := List.mem_flatMap.1 hg
  have hx := runsGo_mem c _ _ _ x hx
  unfold segOf at hg
  rcases List.mem_append.1 hg with hg | hg
  · split at hg
    · exact (List.not_mem_nil hg).elim
    · rw [List.mem_singleton] at hg
      subst hg
      exact ⟨by show x.1.length ≤ _; omega, by show (0 : Int) ≤ 0; omega, by show (0 : Int) ≤ _; omega⟩
  · split at hg
    · rw [List.mem_singleton] at hg
      subst hg
      exact ⟨by show 0 ≤ _; omega, by show (0 : Int) ≤ (x.2 : Int); omega, by show (x.2 : Int) ≤ _; omega⟩
    · exact (List.not_mem_nil hg).elim
theorem putChunk_ok {N : Nat} {s : PutS} {ses : Int} {dat : Bs} (h : PutOk N s) (hl : dat.length ≤ 65536) : PutOk (N + 1) (putChunk Blk.sum ses s dat) := by
  unfold putChunk
  cases hk : Top.look s.known (Blk.sum dat) with
  | some x => exact h.add (h.known _ _ hk)
  | none => exact h.new (by rw [sum_len]; omega) hl hk
theorem putChunks_ok {ses : Int} : ∀ (l : List Bs) {N : Nat} {s : PutS}, PutOk N s → (∀ x ∈ l, x.length ≤ 65536) → PutOk (N + l.length) (l.foldl (putChunk Blk.sum ses) s)
  | [], _, _, h, _ => h
  | x :: l, N, s, h, hl => by
    have := putChunks_ok (ses := ses) l (putChunk_ok (ses := ses) h (hl x (by simp))) (fun y hy => hl y (by simp [hy]))
    rw [List.foldl_cons, List.length_cons]
    rw [show N + (l.length + 1) = N + 1 + l.length by omega]
    exact this
theorem putSeg_ok {N : Nat} {s : PutS} {ses : Int} {g : Seg} (h : PutOk N s) (hg : SegOk g) : PutOk (N + cost g) (putSeg Blk.sum ses s g) := by
  unfold putSeg cost
  split
  · refine h.add ⟨by show (0 : Int) ≤ 0; omega, by show (0 : Int) ≤ _; omega, hg.2.1, hg.2.2⟩
  · exact putChunks_ok _ h (fun x hx => Nat.le_trans (chunksGo_mem _ _ x hx) hg.1)
theorem putSegs_ok {ses : Int} : ∀ (l : List Seg) {N : Nat} {s : PutS}, PutOk N s → (∀ x ∈ l, SegOk x) → PutOk (N + (l.map cost).sum) (l.foldl (putSeg Blk.sum ses) s)
  | [], _, _, h, _ => h
  | x :: l, N, s, h, hl => by
    have := putSegs_ok (ses := ses) l (putSeg_ok (ses := ses) h (hl x (by simp))) (fun y hy => hl y (by simp [hy]))
    rw [List.foldl_cons, List.map_cons, List.sum_cons]
    rw [show N + (cost x + (l.map cost).sum) = N + cost x + (l.map cost).sum by omega]
    exact this
end Go.Proofs.YtbhmdcdhklgomaaGreatDoor

/-
  session.digest. (Written by gen_dig.py.)
-/
namespace Go.Proofs.YtbhmdcdhklgomaaGreatDoor
open Go.RowKit Top

theorem encB_len {e : Ent} (hv : Valid e) : (encB e).length ≤ 4400000 := by
  have h1 := headB_len hv
  have h2 := hv.size0
  have h3 := hv.size1
  have h4 := hv.digest
  have h5 := hv.exts
  have s1 := str_len (headB e) (by omega)
  have s2 := num_len e.size (by omega) (by omega)
  have s3 := str_len e.digest (by omega)
  have s4 := num_len e.exts.length (by omega) (by omega)
  have s5 := flatMap_len extB 66 e.exts (fun a ha => extB_len (hv.ext a ha))
  have s6 : e.exts.length * 66 ≤ 65536 * 66 := Nat.mul_le_mul_right _ h5
  unfold encB
  simp only [List.length_append]
  omega
/-- A session that Begin, Add and Close have made. -/
structure SesOk (s : Ses) : Prop where
  num0 : 0 ≤ s.num
  num1 : s.num ≤ 1000000000
  date0 : 0 ≤ s.date
  date1 : s.date ≤ 1000000000
  prev : s.prev.length ≤ 64
  stream : s.stream.length ≤ 1000000000
  entries : s.entries.length ≤ 200
  each : ∀ e ∈ s.entries, entErr e = 0
def encS (l : List Ent) : Bs := l.flatMap fun e => (encE e).2
theorem encE_ok {e : Ent} (h : entErr e = 0) : encE e = (0, encB e) := if_neg (by simpa using h)
theorem encS_len {l : List Ent} (h : ∀ e ∈ l, entErr e = 0) : (encS l).length ≤ l.length * 4400000 :=
  flatMap_len _ _ l fun e he => by
    rw [encE_ok (h e he)]
    exact encB_len (valid (h e he))
def sesHead (s : Ses) : Bs := (num s.num ++ num s.date) ++ str s.prev
def sesMid (s : Ses) : Bs := (num (s.stream.length : Nat) ++ str (Blk.sum s.stream)) ++ num (s.entries.length : Nat)
theorem sesText_eq (s : Ses) : sesText s = (sesHead s ++ sesMid s) ++ encS s.entries := rfl
theorem sesHead_len {s : Ses} (h : SesOk s) : (sesHead s).length ≤ 200 := by
  have s1 := num_len s.num (by have := h.num0; omega) (by have := h.num1; omega)
  have s2 := num_len s.date (by have := h.date0; omega) (by have := h.date1; omega)
  have s3 := str_len s.prev (by have := h.prev; omega)
  have := h.prev
  unfold sesHead
  simp only [List.length_append]
  omega
theorem sesMid_len {s : Ses} (h : SesOk s) : (sesMid s).length ≤ 200 := by
  have s1 := num_len (s.stream.length : Nat) (by omega) (by have := h.stream; omega)
  have s2 := num_len (s.entries.length : Nat) (by omega) (by have := h.entries; omega)
  have s3 := str_len (Blk.sum s.stream) (by rw [sum_len]; omega)
  rw [sum_len] at s3
  unfold sesMid
  simp only [List.length_append]
  omega
theorem sesText_len {s : Ses} (h : SesOk s) : (sesText s).length ≤ 900000000 := by
  have h1 := sesHead_len h
  have h2 := sesMid_len h
  have h3 := encS_len h.each
  have h4 : s.entries.length * 4400000 ≤ 200 * 4400000 := Nat.mul_le_mul_right _ h.entries
  rw [sesText_eq]
  simp only [List.length_append]
  omega

set_option maxHeartbeats 4000000 in
set_option maxRecDepth 100000 in
theorem digest_any (v : Value) (s : Ses) (w : World) (hv : SesV w v s) (hg : Ground w) (hok : SesOk s) :
    Calls Tryz.prog 89 #[v] w fun e w' => e = .returned (.string ⟨(digestB s).toArray⟩) ∧ Below w.heap.size w w' := by
  obtain ⟨ea, ec, rfl, hents⟩ := hv
  obtain ⟨W, hW, hbW, hzW, hblk, d0, d1, d2, d3, d4, d5⟩ := box6 w (.int .i64 s.num) (.int .i64 s.date) (.string ⟨s.prev.toArray⟩) (.slice ea s.entries.length ec) (.string ⟨s.stream.toArray⟩) (.string ⟨s.sign.toArray⟩) 39
  have HEN := Lib.hid hents
  have HG := Lib.hid hg
  have HOK := Lib.hid hok
  have D3 := Lib.hid d3
  have D5 := Lib.hid d5
  have hzW' : w.heap.size < W.heap.size := by omega
  clear hents hg hblk hzW
  go_enter Tryz.func89, Tryz.ntmps89
  go_upto_region 1 with (fail)
  try rw [hW]
  clear hW
  go_upto_region 2 with (fail)
  have hbl := Lib.fresh_isBuilder 102 5 W
  have hb12 := (Below.refl W.heap.size W).alloc (Nat.le_refl _) (.cells #[.pointer none, .slice none 0 0] 102)
  have d0 := (hb12.cell (p := ⟨w.heap.size, 0, none⟩) hzW').trans d0
  have d1 := (hb12.cell (p := ⟨w.heap.size, 1, none⟩) hzW').trans d1
  have d2 := (hb12.cell (p := ⟨w.heap.size, 2, none⟩) hzW').trans d2
  have D4 := Lib.hid d4
  clear d3 d4 d5
  generalize W.alloc (.cells #[.pointer none, .slice none 0 0] 102) = W2 at *
  have hlw2 : w.heap.size < W2.heap.size := Nat.lt_of_lt_of_le hzW' hb12.size
  have hbl2 : Bld W.heap.size W.heap.size (Lib.byteCells []) W2.drew := hbl
  have hb2 := hbW.trans (hb12.mono hbW.size)
  have g2 : Ground W2.drew := HG.out.below hb2.drew
  have hb12 := hb12.drew
  clear hbl
  go_cut [] (fun wx => Hid (Bld W.heap.size W.heap.size (Lib.byteCells (sesHead s)) wx) ∧ Below W.heap.size W wx)
  case first =>
      have hcat : ((⟨(numB s.num).toArray⟩ : ByteArray) ++ ⟨(numB s.date).toArray⟩) ++ ⟨(strB s.prev).toArray⟩ = ⟨(sesHead s).toArray⟩ := by
        rw [ba_app, ba_app]
        rfl
      have hok := HOK.out
      have k0 := hok.num0
      have k1 := hok.num1
      have k2 := hok.date0
      have k3 := hok.date1
      have k4 := hok.prev
      have hsl : ([] : Bs).length + (sesHead s).length ≤ 140737488355328 := by
        have := sesHead_len hok
        rw [List.length_nil]
        omega
      have K1 := Lib.hid (fun X (h : Ground X) => number_any s.num X h (by omega) (by omega))
      have K2 := Lib.hid (fun X (h : Ground X) => number_any s.date X h (by omega) (by omega))
      have K3 := Lib.hid (fun X (h : Ground X) => string_any s.prev X h (by omega))
      have z1 : (⟨(numB s.num).toArray⟩ : ByteArray).size ≤ 22 := num_len s.num (by omega) (by omega)
      have z2 : (⟨(numB s.date).toArray⟩ : ByteArray).size ≤ 22 := num_len s.date (by omega) (by omega)
      have z3 : (⟨(strB s.prev).toArray⟩ : ByteArray).size ≤ 100 := Nat.le_trans (str_len s.prev (by omega)) (by omega)
      clear hok
      generalize (⟨(numB s.num).toArray⟩ : ByteArray) = S1 at *
      generalize (⟨(numB s.date).toArray⟩ : ByteArray) = S2 at *
      generalize (⟨(strB s.prev).toArray⟩ : ByteArray) = S3 at *
      have HCAT := Lib.hid hcat
      clear hcat
      generalize s.num = n0 at *
      generalize s.date = n1 at *
      generalize s.prev = n2 at *
      have y2 : (S1 ++ S2).size ≤ 44 := by rw [ByteArray.size_append]; omega
      have add1 := string_add S1 S2 (by omega)
      have add2 := string_add (S1 ++ S2) S3 (by omega)
      clear k0 k1 k2 k3 k4 z1 z2 z3 y2 hb2 HG HOK HEN D3 D4 D5 hbW
      go_region_held3 (fun w' => w'.cell? ⟨w.heap.size, 0, none⟩ = some (.int .i64 n0) ∧ w'.cell? ⟨w.heap.size, 1, none⟩ = some (.int .i64 n1) ∧ w'.cell? ⟨w.heap.size, 2, none⟩ = some (.string ⟨n2.toArray⟩)) (first | exact ⟨p40, p41, p42⟩ | exact ⟨p30, p31, p32⟩ | exact ⟨p20, p21, p22⟩ | exact ⟨p10, p11, p12⟩ | exact ⟨d0, d1, d2⟩ | go_keep) ((first | (go_at_call 44; refine (K1.out W2.drew g2).mono ?_; rintro en v1 ⟨rfl, hv1⟩; have p10 := cell_on hv1 hlw2 d0; have p11 := cell_on hv1 hlw2 d1; have p12 := cell_on hv1 hlw2 d2; have l1 := Nat.lt_of_lt_of_le hlw2 hv1.size; have g11 := g2.below hv1; have b1 := bld_below hbl2 hv1; have zz1 := Nat.le_trans hb12.size hv1.size) | (go_at_call 44; refine (K2.out v1 g11).mono ?_; rintro en v2 ⟨rfl, hv2⟩; have p20 := cell_on hv2 l1 p10; have p21 := cell_on hv2 l1 p11; have p22 := cell_on hv2 l1 p12; have l2 := Nat.lt_of_lt_of_le l1 hv2.size; have g12 := g11.below hv2; have b2 := bld_below b1 hv2; have zz2 := Nat.le_trans zz1 hv2.size) | (go_at_call 40; refine (K3.out v2 g12).mono ?_; rintro en v3 ⟨rfl, hv3⟩; have p30 := cell_on hv3 l2 p20; have p31 := cell_on hv3 l2 p21; have p32 := cell_on hv3 l2 p22; have l3 := Nat.lt_of_lt_of_le l2 hv3.size; have g13 := g12.below hv3; have b3 := bld_below b2 hv3; have zz3 := Nat.le_trans zz2 hv3.size) | (go_at_call 43; rw [HCAT.out]; refine (write_any W.heap.size W.heap.size ([]) (sesHead s) v3 b3 hsl zz3).mono ?_; rintro en v4 ⟨rfl, b4, hv4, _⟩; have p40 := (hv4.cell (p := ⟨w.heap.size, 0, none⟩) hzW').trans p30; have p41 := (hv4.cell (p := ⟨w.heap.size, 1, none⟩) hzW').trans p31; have p42 := (hv4.cell (p := ⟨w.heap.size, 2, none⟩) hzW').trans p32)))
      all_goals
        go_wp2_with fail
        go_meet
        exact ⟨Lib.hid b4, (((hb12.trans (hv1.mono hb12.size)).trans (hv2.mono zz1)).trans (hv3.mono zz2)).trans hv4⟩
  case rest =>
    obtain ⟨hbl5, hb15⟩ := hcut
    have hbx5 := hbW.trans (hb15.mono hbW.size)
    have d3 := (hb15.cell (p := ⟨w.heap.size, 3, none⟩) hzW').trans D3.out
    have d4 := (hb15.cell (p := ⟨w.heap.size, 4, none⟩) hzW').trans D4.out
    have hlw5 : w.heap.size < wc.heap.size := Nat.lt_of_lt_of_le hzW' hb15.size
    have g5 : Ground wc.drew := HG.out.below hbx5.drew
    have hblw : Bld W.heap.size W.heap.size (Lib.byteCells (sesHead s)) wc.drew := hbl5.out
    have hb15 := hb15.drew
    clear hbl5 hb12 hbl2 g2 hb2 hlw2
    go_upto_region 3 with (fail)
    go_cut [] (fun wx => Hid (Bld W.heap.size W.heap.size (Lib.byteCells (sesHead s ++ sesMid s)) wx) ∧ Below W.heap.size W wx)
    case first =>
      have hcat : ((⟨(numB (s.stream.length : Nat)).toArray⟩ : ByteArray) ++ ⟨(strB (Blk.sum s.stream)).toArray⟩) ++ ⟨(numB (s.entries.length : Nat)).toArray⟩ = ⟨(sesMid s).toArray⟩ := by
        rw [ba_app, ba_app]
        rfl
      have hok := HOK.out
      have k0 := hok.stream
      have k1 := hok.entries
      have hdl := sum_len s.stream
      have hsl : (sesHead s).length + (sesMid s).length ≤ 140737488355328 := by
        have := sesHead_len hok
        have := sesMid_len hok
        omega
      have K1 := Lib.hid (fun X (h : Ground X) => number_any (s.stream.length : Nat) X h (by omega) (by omega))
      have K3 := Lib.hid (fun X (h : Ground X) => string_any (Blk.sum s.stream) X h (by omega))
      have K4 := Lib.hid (fun X (h : Ground X) => number_any (s.entries.length : Nat) X h (by omega) (by omega))
      have z1 : (⟨(numB (s.stream.length : Nat)).toArray⟩ : ByteArray).size ≤ 22 := num_len (s.stream.length : Nat) (by omega) (by omega)
      have z2 : (⟨(strB (Blk.sum s.stream)).toArray⟩ : ByteArray).size ≤ 100 := Nat.le_trans (str_len (Blk.sum s.stream) (by omega)) (by omega)
      have z3 : (⟨(numB (s.entries.length : Nat)).toArray⟩ : ByteArray).size ≤ 22 := num_len (s.entries.length : Nat) (by omega) (by omega)
      have hstl : s.stream.length ≤ 1000000000 := hok.stream
      clear hok
      generalize (⟨(numB (s.stream.length : Nat)).toArray⟩ : ByteArray) = S1 at *
      generalize (⟨(strB (Blk.sum s.stream)).toArray⟩ : ByteArray) = S2 at *
      generalize (⟨(numB (s.entries.length : Nat)).toArray⟩ : ByteArray) = S3 at *
      have HCAT := Lib.hid hcat
      clear hcat
      have y2 : (S1 ++ S2).size ≤ 200 := by rw [ByteArray.size_append]; omega
      have add1 := string_add S1 S2 (by omega)
      have add2 := string_add (S1 ++ S2) S3 (by omega)
      have gA : Ground (wc.drew.alloc (.cells #[.string ⟨s.stream.toArray⟩] 9)) := g5.below ((Below.refl _ wc.drew).alloc (Nat.le_refl _) _)
      have ra3 := ((Below.refl _ wc.drew).alloc (Nat.le_refl _) (.cells #[.string ⟨s.stream.toArray⟩] 9)).cell (p := ⟨w.heap.size, 3, none⟩) hlw5 |>.trans d3
      have ra4 := ((Below.refl _ wc.drew).alloc (Nat.le_refl _) (.cells #[.string ⟨s.stream.toArray⟩] 9)).cell (p := ⟨w.heap.size, 4, none⟩) hlw5 |>.trans d4
      go_region_held3 (fun w' => w'.cell? ⟨w.heap.size, 3, none⟩ = some (.slice ea s.entries.length ec) ∧ w'.cell? ⟨w.heap.size, 4, none⟩ = some (.string ⟨s.stream.toArray⟩)) (first | exact ⟨ra3, ra4⟩ | exact ⟨rb3, rb4⟩ | exact ⟨p53, p54⟩ | exact ⟨p43, p44⟩ | exact ⟨p33, p34⟩ | exact ⟨p23, p24⟩ | exact ⟨p13, p14⟩ | exact ⟨d3, d4⟩ | go_keep) ((first | (go_at_call 44; refine (K1.out wc.drew g5).mono ?_; rintro en v1 ⟨rfl, hv1⟩; have p13 := cell_on hv1 hlw5 d3; have p14 := cell_on hv1 hlw5 d4; have l1 := Nat.lt_of_lt_of_le hlw5 hv1.size; have g11 := g5.below hv1; have b1 := bld_below hblw hv1; have zz1 := Nat.le_trans hb15.size hv1.size; have rb3 := ((Below.refl _ v1).alloc (Nat.le_refl _) (.cells #[.string ⟨s.stream.toArray⟩] 9)).cell (p := ⟨w.heap.size, 3, none⟩) l1 |>.trans p13; have rb4 := ((Below.refl _ v1).alloc (Nat.le_refl _) (.cells #[.string ⟨s.stream.toArray⟩] 9)).cell (p := ⟨w.heap.size, 4, none⟩) l1 |>.trans p14) | (go_at_call 44; refine (K1.out (wc.drew.alloc (.cells #[.string ⟨s.stream.toArray⟩] 9)) gA).mono ?_; rintro en v1 ⟨rfl, hv1⟩; have csl := (hv1.cell (p := ⟨wc.drew.heap.size, 0, none⟩) (by simp)).trans (tcell (heap_alloc_new wc.drew (.cells #[.string ⟨s.stream.toArray⟩] 9)) 0 _ rfl); replace hv1 : Below wc.drew.heap.size wc.drew v1 := ((Below.refl _ wc.drew).alloc (Nat.le_refl _) _).trans (hv1.mono (by simp)); have p13 := cell_on hv1 hlw5 d3; have p14 := cell_on hv1 hlw5 d4; have l1 := Nat.lt_of_lt_of_le hlw5 hv1.size; have g11 := g5.below hv1; have b1 := bld_below hblw hv1; have zz1 := Nat.le_trans hb15.size hv1.size) | (go_at_call 65; (first | refine (sum_any s.stream wc.drew.heap.size 0 v1 hstl csl).mono ?_ | refine (sum_new s.stream v1 hstl).mono ?_); rintro en v2 ⟨rfl, hv2⟩; have p23 := cell_on hv2 l1 p13; have p24 := cell_on hv2 l1 p14; have l2 := Nat.lt_of_lt_of_le l1 hv2.size; have g12 := g11.below hv2; have b2 := bld_below b1 hv2; have zz2 := Nat.le_trans zz1 hv2.size) | (go_at_call 40; refine (K3.out v2 g12).mono ?_; rintro en v3 ⟨rfl, hv3⟩; have p33 := cell_on hv3 l2 p23; have p34 := cell_on hv3 l2 p24; have l3 := Nat.lt_of_lt_of_le l2 hv3.size; have g13 := g12.below hv3; have b3 := bld_below b2 hv3; have zz3 := Nat.le_trans zz2 hv3.size) | (go_at_call 44; refine (K4.out v3 g13).mono ?_; rintro en v4 ⟨rfl, hv4⟩; have p43 := cell_on hv4 l3 p33; have p44 := cell_on hv4 l3 p34; have l4 := Nat.lt_of_lt_of_le l3 hv4.size; have g14 := g13.below hv4; have b4 := bld_below b3 hv4; have zz4 := Nat.le_trans zz3 hv4.size) | (go_at_call 43; rw [HCAT.out]; refine (write_any W.heap.size W.heap.size (sesHead s) (sesMid s) v4 b4 hsl zz4).mono ?_; rintro en v5 ⟨rfl, b5, hv5, _⟩; have p53 := (hv5.cell (p := ⟨w.heap.size, 3, none⟩) hzW').trans p43; have p54 := (hv5.cell (p := ⟨w.heap.size, 4, none⟩) hzW').trans p44)))
      all_goals
        go_wp2_with fail
        go_meet
        exact ⟨Lib.hid b5, ((((hb15.trans (hv1.mono hb15.size)).trans (hv2.mono zz1)).trans (hv3.mono zz2)).trans (hv4.mono zz3)).trans hv5⟩
    case rest =>
      obtain ⟨hbl6, hb16⟩ := hcut
      have hbx6 := hbW.trans (hb16.mono hbW.size)
      have d3 := (hb16.cell (p := ⟨w.heap.size, 3, none⟩) hzW').trans D3.out
      have hpre : (sesHead s ++ sesMid s).length ≤ 400 := by
        have := sesHead_len HOK.out
        have := sesMid_len HOK.out
        rw [List.length_append]
        omega
      have HTX := Lib.hid (sesText_eq s)
      have HLN := Lib.hid (sesText_len HOK.out)
      generalize hP : sesHead s ++ sesMid s = pre at *
      have hEX : ∀ k, (encS (s.entries.take k)).length ≤ 200 * 4400000 := fun k => by
        have h1 := encS_len (l := s.entries.take k) (fun e he => HOK.out.each e (List.mem_of_mem_take he))
        have h2 := HOK.out.entries
        rw [List.length_take] at h1
        exact Nat.le_trans h1 (Nat.mul_le_mul_right _ (by omega))
      have HEX := Lib.hid hEX
      clear hEX hP
      go_wp2_with fail
      go_loopw [39] (fun i wr => ∃ k : Nat, k ≤ s.entries.length ∧ i = .int .i64 k ∧ Hid (Bld W.heap.size W.heap.size (Lib.byteCells (pre ++ encS (s.entries.take k))) wr) ∧ Below W.heap.size W wr) (fun i _ => s.entries.length - (intOf i).toNat)
      case atStart => exact ⟨0, Nat.zero_le _, rfl, by simpa [encS] using hbl6, hb16⟩
      case round =>
        obtain ⟨k, hk, rfl, hbl, hb⟩ := hrel
        by_cases hlt : k < s.entries.length
        · obtain ⟨x, hx⟩ : ∃ x, s.entries[k]? = some x := ⟨_, List.getElem?_eq_getElem hlt⟩
          have hbw := hbW.trans (hb.mono hbW.size)
          have hent := HOK.out.entries
          have hEr := HEN.out.below hbw
          obtain ⟨bk, o, xa, xac, xe, xec, hoo, hfa, hfe, c0, c1, c2, c3, c4, c5, c6⟩ := hEr.get hx
          subst hoo
          have hxe := HOK.out.each x (List.mem_of_getElem? hx)
          have HTK := Lib.hid (take_flatMap (fun e => (encE e).2) hx)
          have hel := encE_ok hxe
          have hxl := encB_len (valid hxe)
          have hl2 := HEX.out k
          have hvx := valid hxe
          have hvp := hvx.path
          have hvt := hvx.target
          obtain ⟨V, hV, hbV, hzV, e0, e1, e2, e3, e4, e5, e6⟩ := ebox wr x (.slice xa x.attrs.length xac) (.slice xe x.exts.length xec)
          have hbV1 := hb.trans (hbV.mono hb.size)
          have gV : Ground V := HG.out.below (hbW.trans (hbV1.mono hbW.size))
          have hevV : EntV V (.agg #[.int .i64 x.kind, .string ⟨x.path.toArray⟩, .slice xa x.attrs.length xac, .string ⟨x.target.toArray⟩, .int .i64 x.size, .string ⟨x.digest.toArray⟩, .slice xe x.exts.length xec]) x := ⟨_, _, _, _, rfl, hfa.below hbV, hfe.below hbV⟩
          have HENC := Lib.hid (encode_any _ x V hevV gV (by omega) (by omega))
          have hblV : Bld W.heap.size W.heap.size (Lib.byteCells (pre ++ encS (s.entries.take k))) V := bld_below hbl.out hbV
          have HBLV := Lib.hid hblV
          have hsl : (pre ++ encS (s.entries.take k)).length + (encB x).length ≤ 140737488355328 := by
            rw [List.length_append]
            omega
          rw [hel] at HENC
          have hapx : (pre ++ encS (s.entries.take k)) ++ encB x = pre ++ encS (s.entries.take (k + 1)) := by
            rw [List.append_assoc]
            unfold encS
            rw [HTK.out, hel]
          have HAP := Lib.hid hapx
          clear hx hEr hfa hfe hevV hblV hxe hvx hapx hel HTK
          generalize encB x = ex at *
          go_upto_region 7 with (fail)
          try rw [hV]
          clear hV
          go_wp2_with fail
          refine HENC.out.mono ?_
          rintro en w7 ⟨rfl, hb7⟩
          have hbV7 := hbV1.trans (hb7.mono hbV1.size)
          have hbl7 := bld_below HBLV.out hb7
          go_wp2_with fail
          refine (write_any W.heap.size W.heap.size (pre ++ encS (s.entries.take k)) ex w7 hbl7 hsl hbV7.size).mono ?_
          rintro en w8 ⟨rfl, hbl8, hb8, _⟩
          rw [HAP.out] at hbl8
          have HB8 := Lib.hid hbl8
          have hb78 := hbV7.trans hb8
          clear hbl7 hbl8
          go_wp2_with fail
          go_roundw
          case rel => exact ⟨k + 1, by omega, by go_num, HB8, hb78⟩
          case measure => simp [intOf]; omega
        · obtain rfl : k = s.entries.length := by omega
          have hfin := hbl.out
          rw [List.take_length, ← HTX.out] at hfin
          have HF := Lib.hid hfin
          have hbw := hbW.trans (hb.mono hbW.size)
          clear hfin
          go_wp2_with fail
          refine (Tryz.Builder_String_any W.heap.size W.heap.size _ wr HF.out hb.size).mono ?_
          rintro en w9 ⟨rfl, hb9⟩
          go_wp2_with fail
          refine (sum_new (sesText s) w9 (by have := HLN.out; omega)).mono ?_
          rintro en w10 ⟨rfl, hb10⟩
          have hb19 := hb.trans hb9
          have hfin := hbW.trans ((hb19.trans (hb10.mono hb19.size)).mono hbW.size)
          go_wp2_with fail
          go_ret
          exact ⟨rfl, hfin⟩
end Go.Proofs.YtbhmdcdhklgomaaGreatDoor
