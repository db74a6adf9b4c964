/-
  slices.Clone of chunks; a store in memory; chunkstore.Begin.
-/
import Derived.Test.YtbhmdcdhklgomaaGreatDoorM20
namespace Go.Proofs.YtbhmdcdhklgomaaGreatDoor
open Go.RowKit Top

theorem info_chunk : (Tryz.prog.info? 160).map (fun i => (i.zero, i.size, i.bytes)) = some (some (.agg #[.string ByteArray.empty, .int .i64 0, .int .i64 0, .int .i64 0]), 4, 40) := by kernel_rfl
theorem eql_nil_chunk (w : World) (a : Option Addr) (n c n' c' : Nat) : (binOp .eql 64 (.slice a n c) (.slice none n' c')).run Tryz.prog w = .ok (.bool a.isNone) w := Lib.run_eql_slice_nil w _ _ a n c n' c' Tryz.underlying64
set_option maxHeartbeats 2000000 in
set_option maxRecDepth 100000 in
theorem clone_chunk (ao : Option Addr) (n c : Nat) (vss : List (List Value)) (w : World) (hr : Raw w ao 4 vss) (hn : n = vss.length) (h1 : ∀ vs ∈ vss, ∀ u ∈ vs, u.oneCell' = true) (hlen : n ≤ 16777216) :
    Calls Tryz.prog 90 #[.slice ao n c] w fun e w' => ∃ v, e = .returned v ∧ w'.ownsRow w.heap.size 160 4 v n vss.flatten ∧ Below w.heap.size w w' := by
  have qT := eql_nil_chunk
  rcases ao with _ | ad
  · obtain rfl : vss = [] := by
      cases vss with
      | nil => rfl
      | cons y r =>
        obtain ⟨_, bk, o, e, _⟩ := hr 0 y rfl
        cases e
    obtain rfl : n = 0 := hn
    clear hr h1
    go_enter Tryz.func90, Tryz.ntmps90
    go_wp2_with fail
    go_ret
    exact ⟨_, rfl, World.ownsRow_nil _ _ _ _, Below.refl _ _⟩
  · have hbA := (Below.refl w.heap.size w).alloc (Nat.le_refl _) (.cells #[] 160)
    have HR := Lib.hid (hr.below hbA)
    have HM := Lib.hid (World.ownsRow_made (base := w.heap.size) (e := 160) (size := 4) w #[] 0 (Nat.le_refl _) (by simp [maxLen]) rfl)
    have HN := Lib.hid hn
    have HBA := Lib.hid hbA
    have hsz : w.heap.size ≤ (w.alloc (.cells #[] 160)).heap.size := by simp
    clear hr hbA hn
    go_enter Tryz.func90, Tryz.ntmps90
    go_wp2_with (at_builtin; refine wpList_appRaw 160 64 4 40 _ info_chunk Tryz.underlying64 rfl (by decide) (by decide) rfl (.tmp 5) (.tmp 6) rfl w.heap.size _ 0 [] rfl HM.out _ _ _ vss rfl HR.out HN.out h1 (by omega) hsz ?_; intro v' w' ho hb _)
    go_ret
    rw [Nat.zero_add, List.nil_append] at ho
    exact ⟨_, rfl, ho, HBA.out.trans hb⟩

def chunkC (c : Chunk) : List Value := [.string ⟨c.digest.toArray⟩, .int .i64 c.ext.ses, .int .i64 c.ext.off, .int .i64 c.ext.len]
theorem chunkC_len (c : Chunk) : (chunkC c).length = 4 := rfl
theorem chunkC_one (c : Chunk) : ∀ u ∈ chunkC c, u.oneCell' = true := by
  intro u hu
  simp only [chunkC, List.mem_cons, List.not_mem_nil, or_false] at hu
  rcases hu with rfl | rfl | rfl | rfl <;> rfl
abbrev OwnK := OwnF 160 chunkC 4
/-- slices.Clone of chunks. -/
theorem cloneChunks_any (v : Value) (l : List Chunk) (w : World) (hl : Flat chunkC 4 w v l) (hn : l.length ≤ 16777216) :
    Calls Tryz.prog 90 #[v] w fun e w' => ∃ v', e = .returned v' ∧ OwnK w' w.heap.size v' l ∧ Below w.heap.size w w' := by
  obtain ⟨ao, cap, rfl, h2, h3, h4⟩ := hl
  refine (clone_chunk ao l.length cap (l.map chunkC) w h4 (by simp) (fun vs hvs => ?_) hn).mono ?_
  · obtain ⟨c, _, rfl⟩ := List.mem_map.1 hvs
    exact chunkC_one c
  · rintro e w' ⟨v', rfl, ho, hb⟩
    refine ⟨v', rfl, ?_, hb⟩
    show w'.ownsRow _ _ _ _ _ (l.flatMap chunkC)
    rw [List.flatMap_def]
    exact ho
/-- A store as a value. -/
def StoV (w : World) (v : Value) (s : Store) : Prop := ∃ ca cc, v = .agg #[.slice ca s.chunks.length cc, .int .i64 s.ses, .string ⟨s.stream.toArray⟩] ∧ Flat chunkC 4 w (.slice ca s.chunks.length cc) s.chunks
theorem StoV.below {w w' : World} {v : Value} {s : Store} (h : StoV w v s) (hb : Below w.heap.size w w') : StoV w' v s := by
  obtain ⟨ca, cc, h1, h2⟩ := h
  exact ⟨ca, cc, h1, h2.below hb⟩
/-- A box of three cells. -/
theorem box3 (w : World) (a b c : Value) (E : TypeId) : ∃ W, w.alloc (.cells #[a, b, c] E) = W ∧ Below w.heap.size w W ∧ w.heap.size < W.heap.size ∧ W.heap[w.heap.size]? = some (.cells #[a, b, c] E (0, 0)) ∧
    W.cell? ⟨w.heap.size, 0, none⟩ = some a ∧ W.cell? ⟨w.heap.size, 1, none⟩ = some b ∧ W.cell? ⟨w.heap.size, 2, none⟩ = some c := by
  have e := heap_alloc_new w (.cells #[a, b, c] E)
  exact ⟨_, rfl, (Below.refl _ w).alloc (Nat.le_refl _) _, by simp, e, tcell e 0 _ rfl, tcell e 1 _ rfl, tcell e 2 _ rfl⟩

theorem far3 {w : World} {b c : Nat} (h : c ≠ b) (i0 i1 i2 : Nat) (v0 v1 v2 : Value) (j : Nat) : (((w.setCell ⟨b, i0, none⟩ v0).setCell ⟨b, i1, none⟩ v1).setCell ⟨b, i2, none⟩ v2).cell? ⟨c, j, none⟩ = w.cell? ⟨c, j, none⟩ := by
  refine World.cell?_of_block ?_
  exact (heap_setCell_other _ ⟨b, i2, none⟩ c v2 h).trans ((heap_setCell_other _ ⟨b, i1, none⟩ c v1 h).trans (heap_setCell_other _ ⟨b, i0, none⟩ c v0 h))

theorem set3 {w : World} {b : Nat} {E : TypeId} {u0 u1 u2 : Value} (h : w.heap[b]? = some (.cells #[u0, u1, u2] E (0, 0))) (v0 v1 v2 : Value) :
    (((w.setCell ⟨b, 0, none⟩ v0).setCell ⟨b, 1, none⟩ v1).setCell ⟨b, 2, none⟩ v2).heap[b]? = some (.cells #[v0, v1, v2] E (0, 0)) ∧ w.grownBy (((w.setCell ⟨b, 0, none⟩ v0).setCell ⟨b, 1, none⟩ v1).setCell ⟨b, 2, none⟩ v2) (some b) := by
  constructor
  · rw [tset (tset (tset h v0) v1) v2]
    simp
  · exact ⟨rfl, rfl, rfl, by simp, fun k _ hk => by
      have hk : k ≠ b := fun e => hk (by rw [e])
      exact (heap_setCell_other _ ⟨b, 2, none⟩ k v2 hk).trans ((heap_setCell_other _ ⟨b, 1, none⟩ k v1 hk).trans (heap_setCell_other _ ⟨b, 0, none⟩ k v0 hk))⟩
theorem OwnF.far {α : Type} {E : TypeId} {c : α → List Value} {k : Nat} {w w' : World} {B b : Nat} {v : Value} {l : List α} (h : OwnF E c k w B v l) (hg : w.grownBy w' (some b)) (hb : b < B) : OwnF E c k w' B v l := by
  refine World.ownsRow.kept h hg ?_
  cases hv : v.ownBlock with
  | none => exact .inl rfl
  | some g => exact .inr (fun e => by injection e with e; have := (h.lt g hv).1; omega)
theorem OwnF.ne_block {α : Type} {E T : TypeId} {c : α → List Value} {k : Nat} {w : World} {B b : Nat} {v : Value} {l : List α} {cs : Array Value} {fr : Nat × Nat} (h : OwnF E c k w B v l) (hb : w.heap[b]? = some (.cells cs T fr)) (hT : T ≠ E) : v.ownBlock = none ∨ v.ownBlock ≠ some b := by
  rcases h.2 with ⟨rfl, _⟩ | ⟨g, cap, cur, rfl, _, hg, _⟩
  · exact .inl rfl
  · refine .inr fun e => ?_
    have : g = b := by simpa [Value.ownBlock] using e
    subst this
    rw [hg] at hb
    injection hb with hb
    injection hb with _ hb _
    exact hT hb.symm
/-- A store that the call has made: the box's three cells, and the chunks in a row of its own. -/
def StoB (W0 : World) (b : Nat) (W : World) (s : Store) : Prop := ∃ na nc, W.heap[b]? = some (.cells #[.slice na s.chunks.length nc, .int .i64 s.ses, .string ⟨s.stream.toArray⟩] 66 (0, 0)) ∧ OwnK W W0.heap.size (.slice na s.chunks.length nc) s.chunks ∧ Below W0.heap.size W0 W ∧ W0.heap.size ≤ b

set_option maxHeartbeats 2000000 in
set_option maxRecDepth 100000 in
theorem begin_any (v : Value) (s : Store) (n : Int) (w : World) (hs : StoV w v s) (hn : s.chunks.length ≤ 16777216) :
    Calls Tryz.prog 57 #[v, .int .i64 n] w fun e w' => ∃ v', e = .returned (.tuple #[v', .int .i64 (Top.begin s n).2]) ∧ StoV w' v' (Top.begin s n).1 ∧ Below w.heap.size w w' := by
  obtain ⟨ca, cc, rfl, hfl⟩ := hs
  have HCL := Lib.hid (fun X (hX : Below w.heap.size w X) => cloneChunks_any _ s.chunks X (hfl.below hX) hn)
  obtain ⟨W, hW, hbW, hzW, hblk, d0, d1, d2⟩ := box3 w (.slice ca s.chunks.length cc) (.int .i64 s.ses) (.string ⟨s.stream.toArray⟩) 66
  have hfz := hbW.alloc hbW.size (.cells #[.slice none 0 0, .int .i64 0, .string ⟨#[]⟩] 66)
  have hz := heap_alloc_new W (.cells #[.slice none 0 0, .int .i64 0, .string ⟨#[]⟩] 66)
  have hbz := (Below.refl W.heap.size W).alloc (Nat.le_refl _) (.cells #[.slice none 0 0, .int .i64 0, .string ⟨#[]⟩] 66)
  have d0 := (hbz.cell (p := ⟨w.heap.size, 0, none⟩) hzW).trans d0
  have d1 := (hbz.cell (p := ⟨w.heap.size, 1, none⟩) hzW).trans d1
  have d2 := (hbz.cell (p := ⟨w.heap.size, 2, none⟩) hzW).trans d2
  go_enter Tryz.func57, Tryz.ntmps57
  go_upto_region 1 with (fail)
  try rw [hW]
  clear hW
  generalize W.alloc (.cells #[.slice none 0 0, .int .i64 0, .string ⟨#[]⟩] 66) = W2 at *
  have hlw2 : w.heap.size < W2.heap.size := Nat.lt_of_lt_of_le hzW hbz.size
  have hA := hfz.drew
  have hB : Below w.heap.size w (W2.alloc (.cells #[.slice none 0 0, .int .i64 0, .string ⟨#[]⟩] 66)).drew := (hfz.alloc hfz.size _).drew
  have hzB : (W2.alloc (.cells #[.slice none 0 0, .int .i64 0, .string ⟨#[]⟩] 66)).drew.heap[W2.heap.size]? = some (.cells #[.slice none 0 0, .int .i64 0, .string ⟨#[]⟩] 66 (0, 0)) := heap_alloc_new W2 _
  have hb1 := (Below.refl W2.heap.size W2).alloc (Nat.le_refl _) (.cells #[.slice none 0 0, .int .i64 0, .string ⟨#[]⟩] 66)
  have e0 : (W2.alloc (.cells #[.slice none 0 0, .int .i64 0, .string ⟨#[]⟩] 66)).drew.cell? ⟨w.heap.size, 0, none⟩ = some (.slice ca s.chunks.length cc) := (hb1.cell (p := ⟨w.heap.size, 0, none⟩) hlw2).trans d0
  have e1 : (W2.alloc (.cells #[.slice none 0 0, .int .i64 0, .string ⟨#[]⟩] 66)).drew.cell? ⟨w.heap.size, 1, none⟩ = some (.int .i64 s.ses) := (hb1.cell (p := ⟨w.heap.size, 1, none⟩) hlw2).trans d1
  have e2 : (W2.alloc (.cells #[.slice none 0 0, .int .i64 0, .string ⟨#[]⟩] 66)).drew.cell? ⟨w.heap.size, 2, none⟩ = some (.string ⟨s.stream.toArray⟩) := (hb1.cell (p := ⟨w.heap.size, 2, none⟩) hlw2).trans d2
  have hlw3 : w.heap.size < (W2.alloc (.cells #[.slice none 0 0, .int .i64 0, .string ⟨#[]⟩] 66)).drew.heap.size := Nat.lt_of_lt_of_le hlw2 hb1.size
  have hlz : W2.heap.size < (W2.alloc (.cells #[.slice none 0 0, .int .i64 0, .string ⟨#[]⟩] 66)).drew.heap.size := (Array.getElem?_eq_some_iff.1 hzB).1
  have hne : w.heap.size ≠ W2.heap.size := by omega
  clear hb1
  go_cut [6] (fun s6 wx => ∃ b, s6 = .pointer (some ⟨b, 0, none⟩) ∧ Hid (StoB W2 b wx s))
  case first =>
    go_region_held3 (fun w' => w'.cell? ⟨w.heap.size, 0, none⟩ = some (.slice ca s.chunks.length cc) ∧ w'.cell? ⟨w.heap.size, 1, none⟩ = some (.int .i64 s.ses) ∧ w'.cell? ⟨w.heap.size, 2, none⟩ = some (.string ⟨s.stream.toArray⟩))
      (first | exact ⟨d0, d1, d2⟩ | exact ⟨p0, p1, p2⟩ | exact ⟨e0, e1, e2⟩ | exact ⟨q0, q1, q2⟩ | go_keep)
      ((first | (go_at_call 90; refine (HCL.out _ hA).mono ?_; rintro e v1 ⟨cv, rfl, hcv, hv1⟩; obtain ⟨na, nc, rfl, _, _⟩ := hcv.form; have p0 := (hv1.cell (p := ⟨w.heap.size, 0, none⟩) hlw2).trans d0; have p1 := (hv1.cell (p := ⟨w.heap.size, 1, none⟩) hlw2).trans d1; have p2 := (hv1.cell (p := ⟨w.heap.size, 2, none⟩) hlw2).trans d2; have hlv : w.heap.size < v1.heap.size := Nat.lt_of_lt_of_le hlw2 hv1.size) | (go_at_call 90; refine (HCL.out _ hB).mono ?_; rintro e v1 ⟨cv, rfl, hcv, hv1⟩; obtain ⟨na, nc, rfl, _, _⟩ := hcv.form; have p0 := (hv1.cell (p := ⟨w.heap.size, 0, none⟩) hlw3).trans e0; have p1 := (hv1.cell (p := ⟨w.heap.size, 1, none⟩) hlw3).trans e1; have p2 := (hv1.cell (p := ⟨w.heap.size, 2, none⟩) hlw3).trans e2; have hzv := (hv1.block W2.heap.size hlz).trans hzB; have y0 := tcell hzv 0 _ rfl; have y1 := tcell hzv 1 _ rfl; have y2 := tcell hzv 2 _ rfl; have z0 := tfree hzv 0; have z1 := tfree hzv 1; have z2 := tfree hzv 2; have q0 := (far3 (w := v1) hne 0 1 2 (.slice na s.chunks.length nc) (.int .i64 s.ses) (.string ⟨s.stream.toArray⟩) 0).trans p0; have q1 := (far3 (w := v1) hne 0 1 2 (.slice na s.chunks.length nc) (.int .i64 s.ses) (.string ⟨s.stream.toArray⟩) 1).trans p1; have q2 := (far3 (w := v1) hne 0 1 2 (.slice na s.chunks.length nc) (.int .i64 s.ses) (.string ⟨s.stream.toArray⟩) 2).trans p2)))
    focus
      go_wp2_with fail
      go_meet
      have hv1 : Below W2.heap.size W2 v1 := ((Below.refl _ W2).drew).trans hv1
      exact ⟨v1.heap.size, rfl, na, nc, heap_alloc_new v1 _, World.ownsRow.alloc hcv _, hv1.alloc hv1.size _, hv1.size⟩
    go_wp2_with fail
    go_meet
    obtain ⟨t1, t2⟩ := set3 hzv (.slice na s.chunks.length nc) (.int .i64 s.ses) (.string ⟨s.stream.toArray⟩)
    have hs1 : W2.heap.size ≤ (W2.alloc (.cells #[.slice none 0 0, .int .i64 0, .string ⟨#[]⟩] 66)).drew.heap.size := Nat.le_of_lt hlz
    have hv2 : Below W2.heap.size W2 v1 := (((Below.refl _ W2).alloc (Nat.le_refl _) _).drew).trans (hv1.mono hs1)
    exact ⟨W2.heap.size, rfl, na, nc, t1, (hcv.far t2 hlz).mono' hs1, hv2.grown t2 hv2.size (fun k hk => by injection hk with hk; omega), Nat.le_refl _⟩
  case rest =>
    obtain ⟨b, rfl, hsb⟩ := hcut
    clear hA hB hzB e0 e1 e2 hlw3 hlz hne HCL hfl d0 d2
    obtain ⟨na, nc, hblkb, hown, hb2, hle⟩ := hsb.out
    have hlW : W.heap.size < W2.heap.size := (Array.getElem?_eq_some_iff.1 hz).1
    have hzc := (hb2.block W.heap.size hlW).trans hz
    have d1 := (hb2.cell (p := ⟨w.heap.size, 1, none⟩) hlw2).trans d1
    have hbc := hfz.trans (hb2.mono hfz.size)
    have hwW := hbW.size
    have k0 := tcell hblkb 0 _ rfl
    have k1 := tcell hblkb 1 _ rfl
    have k2 := tcell hblkb 2 _ rfl
    have g1 := tfree hblkb 1
    have g2 := tfree hblkb 2
    have y0 := tcell hzc 0 _ rfl
    have y1 := tcell hzc 1 _ rfl
    have y2 := tcell hzc 2 _ rfl
    have z0 := tfree hzc 0
    have z1 := tfree hzc 1
    have z2 := tfree hzc 2
    have hnb : b ≠ W.heap.size := by omega
    clear hsb hz hb2 hfz hbz hblk
    by_cases n1 : n < 1
    · have HR : Hid (Top.begin s n = (s, 2)) := by
        show _ = _
        exact if_pos (.inl n1)
      go_wp2_with fail
      try simp only [Exit.inBlock, Exit.then]
      obtain ⟨t1, t2⟩ := set3 hzc (.slice na s.chunks.length nc) (.int .i64 s.ses) (.string ⟨s.stream.toArray⟩)
      have hwb := hbc.grown t2 hbc.size (fun k hk => by injection hk; omega)
      have hfl := (hown.far t2 hlW).flat chunkC_len
      refine bodyPost_ret (v := .tuple #[.agg #[.slice na s.chunks.length nc, .int .i64 s.ses, .string ⟨s.stream.toArray⟩], .int .i64 2]) ?_ ?_ ?_
      · refine results_row_tmp (p := 4) (u := 5) (ty := 66) (by kernel_rfl) _ _ W.heap.size 66 _ (0, 0) _ ?_ t1 Tryz.underlying66 (by kernel_rfl) (by kernel_rfl)
        kernel_rfl
      · kernel_rfl
      · rw [HR.out]
        exact ⟨_, rfl, ⟨na, nc, rfl, hfl⟩, hwb⟩
    by_cases n2 : 255 < n
    · have HR : Hid (Top.begin s n = (s, 2)) := by
        show _ = _
        exact if_pos (.inr n2)
      go_wp2_with fail
      try simp only [Exit.inBlock, Exit.then]
      obtain ⟨t1, t2⟩ := set3 hzc (.slice na s.chunks.length nc) (.int .i64 s.ses) (.string ⟨s.stream.toArray⟩)
      have hwb := hbc.grown t2 hbc.size (fun k hk => by injection hk; omega)
      have hfl := (hown.far t2 hlW).flat chunkC_len
      refine bodyPost_ret (v := .tuple #[.agg #[.slice na s.chunks.length nc, .int .i64 s.ses, .string ⟨s.stream.toArray⟩], .int .i64 2]) ?_ ?_ ?_
      · refine results_row_tmp (p := 4) (u := 5) (ty := 66) (by kernel_rfl) _ _ W.heap.size 66 _ (0, 0) _ ?_ t1 Tryz.underlying66 (by kernel_rfl) (by kernel_rfl)
        kernel_rfl
      · kernel_rfl
      · rw [HR.out]
        exact ⟨_, rfl, ⟨na, nc, rfl, hfl⟩, hwb⟩
    by_cases n3 : n ≤ s.ses
    · have HR : Hid (Top.begin s n = (s, 14)) := by
        show _ = _
        unfold Top.begin; rw [if_neg (by omega), if_pos n3]
      go_wp2_with fail
      try simp only [Exit.inBlock, Exit.then]
      obtain ⟨t1, t2⟩ := set3 hzc (.slice na s.chunks.length nc) (.int .i64 s.ses) (.string ⟨s.stream.toArray⟩)
      have hwb := hbc.grown t2 hbc.size (fun k hk => by injection hk; omega)
      have hfl := (hown.far t2 hlW).flat chunkC_len
      refine bodyPost_ret (v := .tuple #[.agg #[.slice na s.chunks.length nc, .int .i64 s.ses, .string ⟨s.stream.toArray⟩], .int .i64 14]) ?_ ?_ ?_
      · refine results_row_tmp (p := 4) (u := 5) (ty := 66) (by kernel_rfl) _ _ W.heap.size 66 _ (0, 0) _ ?_ t1 Tryz.underlying66 (by kernel_rfl) (by kernel_rfl)
        kernel_rfl
      · kernel_rfl
      · rw [HR.out]
        exact ⟨_, rfl, ⟨na, nc, rfl, hfl⟩, hwb⟩
    · have HR : Hid (Top.begin s n = (⟨s.chunks, n, []⟩, 0)) := by
        show _ = _
        unfold Top.begin
        rw [if_neg (by omega), if_neg n3]
      go_wp2_with fail
      try simp only [Exit.inBlock, Exit.then]
      have g0 : wc.grownBy ((wc.setCell ⟨b, 1, none⟩ (.int .i64 n)).setCell ⟨b, 2, none⟩ (.string ⟨#[]⟩)) (some b) := ⟨rfl, rfl, rfl, by simp, fun k _ hk => by
        have hk : k ≠ b := fun e => hk (by rw [e])
        exact (heap_setCell_other _ ⟨b, 2, none⟩ k _ hk).trans (heap_setCell_other _ ⟨b, 1, none⟩ k _ hk)⟩
      have hzd : ((wc.setCell ⟨b, 1, none⟩ (.int .i64 n)).setCell ⟨b, 2, none⟩ (.string ⟨#[]⟩)).heap[W.heap.size]? = _ := (g0.block W.heap.size (Array.getElem?_eq_some_iff.1 hzc).1 (fun e => by injection e with e; omega)).trans hzc
      have hown2 : OwnK _ W2.heap.size _ _ := World.ownsRow.kept hown g0 (hown.ne_block hblkb (by decide))
      have hbd := hbc.grown g0 hbc.size (fun k hk => by injection hk; omega)
      obtain ⟨t1, t2⟩ := set3 hzd (.slice na s.chunks.length nc) (.int .i64 n) (.string ⟨#[]⟩)
      have hwb := hbd.grown t2 hbd.size (fun k hk => by injection hk; omega)
      have hfl := (hown2.far t2 hlW).flat chunkC_len
      refine bodyPost_ret (v := .tuple #[.agg #[.slice na s.chunks.length nc, .int .i64 n, .string ⟨#[]⟩], .int .i64 0]) ?_ ?_ ?_
      · refine results_row_tmp (p := 4) (u := 5) (ty := 66) (by kernel_rfl) _ _ W.heap.size 66 _ (0, 0) _ ?_ t1 Tryz.underlying66 (by kernel_rfl) (by kernel_rfl)
        kernel_rfl
      · kernel_rfl
      · rw [HR.out]
        exact ⟨_, rfl, ⟨na, nc, rfl, hfl⟩, hwb⟩
end Go.Proofs.YtbhmdcdhklgomaaGreatDoor

/-
  history.creates, (state).has, (state).apply.
-/
namespace Go.Proofs.YtbhmdcdhklgomaaGreatDoor
open Go.RowKit Top

theorem hcreates_any (v : Value) (e : Ent) (w : World) (hev : EntV w v e) :
    Calls Tryz.prog 52 #[v] w fun en w' => en = .returned (.bool (Top.creates e)) ∧ Below w.heap.size w w' := by
  obtain ⟨aa, ac, ea, ec, rfl, _, _⟩ := hev
  obtain ⟨W, hW, hbW, hzW, d0, d1, d2, d3, d4, d5, d6⟩ := ebox w e (.slice aa e.attrs.length ac) (.slice ea e.exts.length ec)
  have HR : Hid (Top.creates e = (e.kind == 1 || e.kind == 2 || e.kind == 3)) := Lib.hid rfl
  generalize Top.creates e = res at *
  clear hzW
  generalize hkd : e.kind = k at *
  clear hkd
  by_cases k1 : k = 1
  · subst k1
    go_enter Tryz.func52, Tryz.ntmps52
    go_upto_region 1 with (fail)
    try rw [hW]
    clear hW
    go_wp2_with fail
    go_ret
    exact ⟨by rw [HR.out]; rfl, hbW⟩
  by_cases k2 : k = 2
  · subst k2
    go_enter Tryz.func52, Tryz.ntmps52
    go_upto_region 1 with (fail)
    try rw [hW]
    clear hW
    go_wp2_with fail
    go_ret
    exact ⟨by rw [HR.out]; rfl, hbW⟩
  by_cases k3 : k = 3
  · subst k3
    go_enter Tryz.func52, Tryz.ntmps52
    go_upto_region 1 with (fail)
    try rw [hW]
    clear hW
    go_wp2_with fail
    go_ret
    exact ⟨by rw [HR.out]; rfl, hbW⟩
  · have e1 : (k == 1) = false := beq_eq_false_iff_ne.2 k1
    have e2 : (k == 2) = false := beq_eq_false_iff_ne.2 k2
    have e3 : (k == 3) = false := beq_eq_false_iff_ne.2 k3
    rw [e1, e2, e3] at HR
    go_enter Tryz.func52, Tryz.ntmps52
    go_upto_region 1 with (fail)
    try rw [hW]
    clear hW
    go_wp2_with fail
    go_ret
    exact ⟨by rw [HR.out]; rfl, hbW⟩
/-- A state as a value. -/
def StV (w : World) (v : Value) (s : St) : Prop := ∃ ta tc ha hc, v = .agg #[.slice ta s.tree.length tc, .slice ha s.holds.length hc] ∧ Ents w (.slice ta s.tree.length tc) s.tree ∧ Holds w (.slice ha s.holds.length hc) s.holds
theorem StV.below {w w' : World} {v : Value} {s : St} (h : StV w v s) (hb : Below w.heap.size w w') : StV w' v s := by
  obtain ⟨ta, tc, ha, hc, h1, h2, h3⟩ := h
  exact ⟨ta, tc, ha, hc, h1, h2.below hb, h3.below hb⟩
theorem box2 (w : World) (a b : Value) (E : TypeId) : ∃ W, w.alloc (.cells #[a, b] E) = W ∧ Below w.heap.size w W ∧ w.heap.size < W.heap.size ∧ W.heap[w.heap.size]? = some (.cells #[a, b] E (0, 0)) ∧
    W.cell? ⟨w.heap.size, 0, none⟩ = some a ∧ W.cell? ⟨w.heap.size, 1, none⟩ = some b := by
  have e := heap_alloc_new w (.cells #[a, b] E)
  exact ⟨_, rfl, (Below.refl _ w).alloc (Nat.le_refl _) _, by simp, e, tcell e 0 _ rfl, tcell e 1 _ rfl⟩

set_option maxHeartbeats 1000000 in
theorem has_any (v : Value) (s : St) (P : Bs) (w : World) (hs : StV w v s) :
    Calls Tryz.prog 51 #[v, .string ⟨P.toArray⟩] w fun e w' => e = .returned (.bool (has s P)) ∧ Below w.heap.size w w' := by
  obtain ⟨ta, tc, ha, hc, rfl, h2, h3⟩ := hs
  obtain ⟨W, hW, hbW, hzW, _, d0, d1⟩ := box2 w (.slice ta s.tree.length tc) (.slice ha s.holds.length hc) 83
  have HG := Lib.hid (get_any _ s.tree P W (h2.below hbW))
  have HR : Hid (has s P = (Top.get s.tree P).isSome) := Lib.hid rfl
  generalize has s P = res at *
  generalize (Top.get s.tree P).isSome = b at *
  clear hzW
  go_enter Tryz.func51, Tryz.ntmps51
  go_upto_region 1 with (fail)
  try rw [hW]
  clear hW
  go_wp2_with fail
  refine HG.out.mono ?_
  rintro e w1 ⟨ev, rfl, hev, hb1⟩
  obtain ⟨aa, ac, ea, ec, rfl, _, _⟩ := hev
  go_wp2_with fail
  go_ret
  exact ⟨by rw [HR.out]; rfl, (hbW.trans (hb1.mono hbW.size)).alloc (by have := hbW.size; have := hb1.size; omega) _⟩
end Go.Proofs.YtbhmdcdhklgomaaGreatDoor

/-
  Rows that are read lie apart from a block whose cells are of other kinds.
-/
namespace Go.Proofs.YtbhmdcdhklgomaaGreatDoor
open Go.RowKit Top

def tag : Value → Nat
  | .int _ _ => 0
  | .string _ => 1
  | .slice _ _ _ => 2
  | _ => 3
theorem infix_of {α : Type} {l m : List α} {n : Nat} (h : ∀ i v, m[i]? = some v → l[n + i]? = some v) : m <:+: l := by
  have e : (l.drop n).take m.length = m := by
    apply List.ext_getElem?
    intro i
    rw [List.getElem?_take]
    by_cases hi : i < m.length
    · rw [if_pos hi, List.getElem?_drop, h i m[i] (List.getElem?_eq_getElem hi), List.getElem?_eq_getElem hi]
    · rw [if_neg hi, List.getElem?_eq_none (by omega)]
  refine ⟨l.take n, (l.drop n).drop m.length, ?_⟩
  conv => lhs; rw [show l.take n ++ m = l.take n ++ (l.drop n).take m.length by rw [e]]
  rw [List.append_assoc, List.take_append_drop, List.take_append_drop]
section
variable {w w' : World} {b : Nat} {cs : Array Value} {T : TypeId} {fr : Nat × Nat}
theorem Raw.apart {ao : Option Addr} {k : Nat} {vss : List (List Value)} (h : Raw w ao k vss) (hb : w.heap[b]? = some (.cells cs T fr)) (sh : List Nat) (hsh : ∀ vs ∈ vss, vs.map tag = sh) (hno : ¬ sh <:+: cs.toList.map tag) (hg : w.grownBy w' (some b)) : Raw w' ao k vss := fun j vs hj => by
  obtain ⟨h1, bk, o, e, hc⟩ := h j vs hj
  refine ⟨h1, bk, o, e, fun i v hi => ?_⟩
  have hne : bk ≠ b := by
    rintro rfl
    refine hno ?_
    rw [← hsh vs (List.mem_of_getElem? hj)]
    refine infix_of (n := o + j * k) (fun i' v' hi' => ?_)
    rw [List.getElem?_map] at hi' ⊢
    obtain ⟨u, hu, rfl⟩ := Option.map_eq_some_iff.1 hi'
    have := hc i' u hu
    rw [cell_of_row w bk (o + j * k + i') cs T fr hb] at this
    rw [Array.getElem?_toList, this]
    rfl
  have hlt := World.block_lt_of_cell? _ _ (hc i v hi)
  exact (World.cell?_of_block (hg.block bk hlt (fun e => hne (by injection e)))).trans (hc i v hi)
theorem Flat.apart {α : Type} {c : α → List Value} {k : Nat} {v : Value} {l : List α} (h : Flat c k w v l) (hb : w.heap[b]? = some (.cells cs T fr)) (sh : List Nat) (hsh : ∀ a, (c a).map tag = sh) (hno : ¬ sh <:+: cs.toList.map tag) (hg : w.grownBy w' (some b)) : Flat c k w' v l := by
  obtain ⟨ao, cap, h1, h2, h3, h4⟩ := h
  refine ⟨ao, cap, h1, h2, h3, h4.apart hb sh (fun vs hvs => ?_) hno hg⟩
  obtain ⟨a, _, rfl⟩ := List.mem_map.1 hvs
  exact hsh a
theorem attrs_apart {v : Value} {l : List Top.Attr} (h : Flat attrC 2 w v l) (hb : w.heap[b]? = some (.cells cs T fr)) (hno : ¬ [1, 1] <:+: cs.toList.map tag) (hg : w.grownBy w' (some b)) : Flat attrC 2 w' v l := h.apart hb [1, 1] (fun _ => rfl) hno hg
theorem exts_apart {v : Value} {l : List Ext} (h : Flat extC 3 w v l) (hb : w.heap[b]? = some (.cells cs T fr)) (hno : ¬ [0, 0, 0] <:+: cs.toList.map tag) (hg : w.grownBy w' (some b)) : Flat extC 3 w' v l := h.apart hb [0, 0, 0] (fun _ => rfl) hno hg
theorem holds_apart {v : Value} {l : List Hold} (h : Holds w v l) (hb : w.heap[b]? = some (.cells cs T fr)) (hno : ¬ [1, 0] <:+: cs.toList.map tag) (hg : w.grownBy w' (some b)) : Holds w' v l := h.apart hb [1, 0] (fun _ => rfl) hno hg
theorem chunks_apart {v : Value} {l : List Chunk} (h : Flat chunkC 4 w v l) (hb : w.heap[b]? = some (.cells cs T fr)) (hno : ¬ [1, 0, 0, 0] <:+: cs.toList.map tag) (hg : w.grownBy w' (some b)) : Flat chunkC 4 w' v l := h.apart hb [1, 0, 0, 0] (fun _ => rfl) hno hg
theorem EntC.apart {vs : List Value} {e : Ent} (h : EntC w vs e) (hb : w.heap[b]? = some (.cells cs T fr)) (h1 : ¬ [1, 1] <:+: cs.toList.map tag) (h2 : ¬ [0, 0, 0] <:+: cs.toList.map tag) (hg : w.grownBy w' (some b)) : EntC w' vs e := by
  obtain ⟨aa, ac, ea, ec, h3, h4, h5⟩ := h
  exact ⟨aa, ac, ea, ec, h3, attrs_apart h4 hb h1 hg, exts_apart h5 hb h2 hg⟩
theorem EntV.apart {v : Value} {e : Ent} (h : EntV w v e) (hb : w.heap[b]? = some (.cells cs T fr)) (h1 : ¬ [1, 1] <:+: cs.toList.map tag) (h2 : ¬ [0, 0, 0] <:+: cs.toList.map tag) (hg : w.grownBy w' (some b)) : EntV w' v e := by
  obtain ⟨aa, ac, ea, ec, h3, h4, h5⟩ := h
  exact ⟨aa, ac, ea, ec, h3, attrs_apart h4 hb h1 hg, exts_apart h5 hb h2 hg⟩
theorem Ents.apart {v : Value} {l : List Ent} (h : Ents w v l) (hb : w.heap[b]? = some (.cells cs T fr)) (h1 : ¬ [1, 1] <:+: cs.toList.map tag) (h2 : ¬ [0, 0, 0] <:+: cs.toList.map tag) (h3 : ¬ [0, 1, 2, 1, 0, 1, 2] <:+: cs.toList.map tag) (hg : w.grownBy w' (some b)) : Ents w' v l := by
  obtain ⟨ao, cap, vss, g1, g2, g3, g4, g5, g6⟩ := h
  refine ⟨ao, cap, vss, g1, g2, g3, g4.apart hb [0, 1, 2, 1, 0, 1, 2] (fun vs hvs => ?_) h3 hg, g5, fun j x y hx hy => (g6 j x y hx hy).apart hb h1 h2 hg⟩
  obtain ⟨j, hj⟩ := List.mem_iff_getElem?.1 hvs
  have hjl := (List.getElem?_eq_some_iff.1 hj).1
  obtain ⟨y, hy⟩ : ∃ y, l[j]? = some y := ⟨_, List.getElem?_eq_getElem (by omega)⟩
  obtain ⟨aa, ac, ea, ec, rfl, _, _⟩ := g6 j vs y hj hy
  rfl
end
theorem set2 {w : World} {b : Nat} {E : TypeId} {u0 u1 : Value} (h : w.heap[b]? = some (.cells #[u0, u1] E (0, 0))) (v0 v1 : Value) :
    ((w.setCell ⟨b, 0, none⟩ v0).setCell ⟨b, 1, none⟩ v1).heap[b]? = some (.cells #[v0, v1] E (0, 0)) ∧ w.grownBy ((w.setCell ⟨b, 0, none⟩ v0).setCell ⟨b, 1, none⟩ v1) (some b) := by
  constructor
  · rw [tset (tset h v0) v1]
    simp
  · exact ⟨rfl, rfl, rfl, by simp, fun k _ hk => by
      have hk : k ≠ b := fun e => hk (by rw [e])
      exact (heap_setCell_other _ ⟨b, 1, none⟩ k v1 hk).trans (heap_setCell_other _ ⟨b, 0, none⟩ k v0 hk)⟩
end Go.Proofs.YtbhmdcdhklgomaaGreatDoor
