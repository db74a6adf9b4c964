/-
  The law of legal holds, over sessions. No program.
-/
import Derived.Test.YtbhmdcdhklgomaaGreatDoorM34
import Derived.Test.YtbhmdcdhklgomaaGreatDoorM39
import Derived.Test.YtbhmdcdhklgomaaGreatDoorM43
namespace Go.Proofs.YtbhmdcdhklgomaaGreatDoor
open Go.RowKit Top

theorem applyT_valid {t : List Ent} {e : Ent} (ht : ∀ x ∈ t, entErr x = 0) : ∀ x ∈ (applyT t e).2, entErr x = 0 := by
  unfold applyT
  split
  · exact fun x hx => (List.not_mem_nil hx).elim
  · rename_i h1
    have he : entErr e = 0 := Decidable.of_not_not h1
    split
    · split
      · exact fun x hx => (List.not_mem_nil hx).elim
      · exact fun x hx => ht x (List.mem_filter.1 hx).1
    · split
      · exact fun x hx => (List.not_mem_nil hx).elim
      · split
        · split
          · exact fun x hx => (List.not_mem_nil hx).elim
          · intro x hx
            rcases List.mem_or_eq_of_mem_set hx with h1 | rfl
            · exact ht x h1
            · exact he
        · split
          · exact fun x hx => (List.not_mem_nil hx).elim
          · intro x hx
            rcases insAt_mem.1 hx with rfl | h1
            · exact he
            · exact ht x h1
theorem foldS_valid : ∀ (l : List (Int × Ent)) {s : St}, (∀ x ∈ s.tree, entErr x = 0) → ∀ x ∈ (foldS s l).tree, entErr x = 0
  | [], s, h => h
  | y :: l, s, h => by
    refine foldS_valid l (s := (applyS s y.2 y.1).2) ?_
    unfold applyS
    split
    · exact h
    · split
      · exact h
      · split
        · exact h
        · exact applyT_valid h
theorem afterS_valid (l : List Ses) : ∀ x ∈ (afterS l).tree, entErr x = 0 := foldS_valid _ (fun _ hx => (List.not_mem_nil hx).elim)
theorem entriesOf_mem {l : List Ses} {x : Int × Ent} (h : x ∈ entriesOf l) : ∃ s ∈ l, x.2 ∈ s.entries := by
  unfold entriesOf at h
  obtain ⟨s, hs, hx⟩ := List.mem_flatMap.1 h
  obtain ⟨e, he, rfl⟩ := List.mem_map.1 hx
  exact ⟨s, hs, he⟩
theorem entriesOf_len : ∀ l : List Ses, (entriesOf l).length = count l
  | [] => rfl
  | s :: l => by
    have := entriesOf_len l
    unfold entriesOf count at this ⊢
    rw [List.flatMap_cons, List.length_append, List.length_map, List.map_cons, List.sum_cons, this]
theorem afterS_ok {l : List Ses} (h : HistOk l) : StOk (count l) (afterS l) := by
  have := foldS_ok (entriesOf l) stOk_empty (fun x hx => by
    obtain ⟨s, hs, he⟩ := entriesOf_mem hx
    exact h.each s hs _ he)
  rwa [Nat.zero_add, entriesOf_len] at this
theorem entriesOf_snoc (l : List Ses) (s : Ses) : entriesOf (l ++ [s]) = entriesOf l ++ s.entries.map fun e => (s.date, e) := by
  unfold entriesOf
  rw [List.flatMap_append]
  simp
/-- What a hold holds when a session without a release begins is found behind it. -/
theorem holds_at {l : List Ses} {n : Nat} {s : Ses} (hn : l[n]? = some s) (hr : s.entries.any (fun e => e.kind == 6) = false) {x : Ent} (hx : x ∈ (afterS (l.take n)).tree) (hh : held (afterS (l.take n)).holds x.path s.date = true) :
    get (afterS (l.take (n + 1))).tree x.path = some x := by
  unfold afterS at hx hh ⊢
  rw [List.take_add_one, hn, Option.toList_some, entriesOf_snoc]
  refine holds_law _ _ s.date (fun y hy => ?_) x hx hh
  obtain ⟨e, he, rfl⟩ := List.mem_map.1 hy
  refine ⟨rfl, fun hk => ?_⟩
  rw [List.any_eq_false] at hr
  exact hr e he (by simpa using hk)
/-! What is written has as many entries as there are changes at most. -/
def total (ll : List (List Change)) : Nat := (ll.map (·.length)).sum
theorem step_ok {n : Nat} {l : List Ses} (i : Nat) (c : List Change) (h : ArcOk n l) (hn : n + c.length ≤ 80) :
    ArcOk (n + c.length) (if (beginS l (10 * i + 10)).2 ≠ 0 then l else (appendS l (closeS (addAll (beginS l (10 * i + 10)).1 c))).1) := by
  have h' := h.mono (Nat.le_add_right n c.length)
  split
  · exact h'
  · rename_i g
    have g : (beginS l (10 * i + 10)).2 = 0 := Decidable.of_not_not g
    obtain ⟨k1, k2, _⟩ := beginS_ok h.each g
    obtain ⟨m1, m2⟩ := addAll_ok c k1
    rw [k2, List.length_nil, Nat.zero_add] at m2
    have hc := h.count
    refine appendS_ok h' (closeS_ok m1 (by omega)) ?_
    show count l + (addAll _ c).entries.length ≤ _
    omega
theorem written_ok : ∀ (r : List (List Change)) (i : Nat) {l : List Ses} {n : Nat}, ArcOk n l → n + total r ≤ 80 → ArcOk (n + total r) (writtenGo i l r)
  | [], i, l, n, h, _ => h
  | c :: r, i, l, n, h, hn => by
    unfold total at hn
    rw [List.map_cons, List.sum_cons] at hn
    have := written_ok r (i + 1) (step_ok i c h (by omega)) (by unfold total; omega)
    unfold total at this ⊢
    rw [List.map_cons, List.sum_cons, ← Nat.add_assoc]
    exact this
theorem arc0 : ArcOk 0 [] := ⟨fun _ hs => (List.not_mem_nil hs).elim, Nat.le_refl _, Nat.zero_le _⟩
/-- The sessions behind k lists of changes. -/
def writtenK (ll : List (List Change)) (k : Nat) : List Ses := writtenGo 0 [] (ll.take k)
theorem writtenGo_app : ∀ (a : List (List Change)) (i : Nat) (l : List Ses) (b : List (List Change)), writtenGo i l (a ++ b) = writtenGo (i + a.length) (writtenGo i l a) b
  | [], i, l, b => rfl
  | c :: a, i, l, b => by
    show writtenGo (i + 1) _ (a ++ b) = _
    rw [writtenGo_app a (i + 1)]
    show _ = writtenGo (i + (a.length + 1)) (writtenGo (i + 1) _ a) b
    rw [show i + 1 + a.length = i + (a.length + 1) by omega]
theorem writtenK_succ {ll : List (List Change)} {k : Nat} {c : List Change} (h : ll[k]? = some c) :
    writtenK ll (k + 1) = if (beginS (writtenK ll k) (10 * k + 10)).2 ≠ 0 then writtenK ll k else (appendS (writtenK ll k) (closeS (addAll (beginS (writtenK ll k) (10 * k + 10)).1 c))).1 := by
  have hl : (ll.take k).length = k := by
    rw [List.length_take]
    have := (List.getElem?_eq_some_iff.1 h).1
    omega
  unfold writtenK
  rw [List.take_add_one, h, Option.toList_some, writtenGo_app, hl, Nat.zero_add]
  rfl
theorem total_take (ll : List (List Change)) (k : Nat) : total (ll.take k) ≤ total ll := by
  unfold total
  rw [List.map_take]
  exact take_le _ _
theorem total_succ {ll : List (List Change)} {k : Nat} {c : List Change} (h : ll[k]? = some c) : total (ll.take (k + 1)) = total (ll.take k) + c.length := by
  unfold total
  rw [List.take_add_one, h, Option.toList_some, List.map_append, List.sum_append]
  simp
theorem writtenK_ok (ll : List (List Change)) (k : Nat) (h : total ll ≤ 80) : ArcOk (total (ll.take k)) (writtenK ll k) := by
  have := written_ok (ll.take k) 0 arc0 (by have := total_take ll k; omega)
  rwa [Nat.zero_add] at this
/-- The draft behind m changes. -/
def addK (d : Draft) (c : List Change) (m : Nat) : Draft := addAll d (c.take m)
theorem addK_succ {d : Draft} {l : List Change} {m : Nat} {c : Change} (h : l[m]? = some c) : addK d l (m + 1) = if (addS (addK d l m) c).2 = 0 then (addS (addK d l m) c).1 else addK d l m := by
  unfold addK addAll
  rw [List.take_add_one, h, Option.toList_some, List.foldl_append]
  rfl
end Go.Proofs.YtbhmdcdhklgomaaGreatDoor

/-
  steletop.written. (Written by gen_wr.py.)
-/
namespace Go.Proofs.YtbhmdcdhklgomaaGreatDoor
open Go.RowKit Top

theorem appendS_same {l : List Ses} {s : Ses} (h : (appendS l s).2 ≠ 0) : (appendS l s).1 = l := by
  unfold appendS at h ⊢
  split
  · rfl
  · rename_i g1
    split
    · rfl
    · rename_i g2
      split
      · rfl
      · rename_i g3
        rw [if_neg g1, if_neg g2, if_neg g3] at h
        exact absurd rfl h
theorem base_wr (w : World) (a b : Value) : ∃ W, (w.alloc (.cells #[a, b] 27)).alloc (.cells #[.int .u32 0, .int .i64 0, .int .i64 0, .slice none 0 0] 30) = W ∧
    W.heap[w.heap.size]? = some (.cells #[a, b] 27 (0, 0)) ∧ W.heap[w.heap.size + 1]? = some (.cells #[.int .u32 0, .int .i64 0, .int .i64 0, .slice none 0 0] 30 (0, 0)) ∧ Below w.heap.size w W ∧ w.heap.size + 1 < W.heap.size := by
  generalize (Obj.cells #[a, b] 27) = A
  generalize hB : (Obj.cells #[.int .u32 0, .int .i64 0, .int .i64 0, .slice none 0 0] 30) = B
  have e0 := heap_alloc_new w A
  have hb1 := (Below.refl _ w).alloc (Nat.le_refl _) A
  generalize hw1 : w.alloc A = w1 at *
  have hs1 : w1.heap.size = w.heap.size + 1 := by rw [← hw1]; simp
  have e1 := heap_alloc_new w1 B
  have hb2 := (Below.refl _ w1).alloc (Nat.le_refl _) B
  rw [hs1] at e1
  refine ⟨_, rfl, (hb2.block _ (by omega)).trans e0, ?_, hb1.trans (hb2.mono hb1.size), by simp [hs1]⟩
  rw [e1, ← hB]
/-- An archive's and a draft's cells, in an elder world. -/
theorem keep13 {w0 X : World} {b c : Nat} {x0 x1 x2 x3 y0 y1 y2 y3 y4 y5 y6 y7 y8 : Value} (hb : Below w0.heap.size w0 X) (h1 : b < w0.heap.size) (h2 : c < w0.heap.size)
    (h : (w0.cell? ⟨b, 0, none⟩ = some x0 ∧ w0.cell? ⟨b, 1, none⟩ = some x1 ∧ w0.cell? ⟨b, 2, none⟩ = some x2 ∧ w0.cell? ⟨b, 3, none⟩ = some x3) ∧ (w0.cell? ⟨c, 0, none⟩ = some y0 ∧ w0.cell? ⟨c, 1, none⟩ = some y1 ∧ w0.cell? ⟨c, 2, none⟩ = some y2 ∧ w0.cell? ⟨c, 3, none⟩ = some y3 ∧ w0.cell? ⟨c, 4, none⟩ = some y4 ∧ w0.cell? ⟨c, 5, none⟩ = some y5 ∧ w0.cell? ⟨c, 6, none⟩ = some y6 ∧ w0.cell? ⟨c, 7, none⟩ = some y7 ∧ w0.cell? ⟨c, 8, none⟩ = some y8)) :
    (X.cell? ⟨b, 0, none⟩ = some x0 ∧ X.cell? ⟨b, 1, none⟩ = some x1 ∧ X.cell? ⟨b, 2, none⟩ = some x2 ∧ X.cell? ⟨b, 3, none⟩ = some x3) ∧ (X.cell? ⟨c, 0, none⟩ = some y0 ∧ X.cell? ⟨c, 1, none⟩ = some y1 ∧ X.cell? ⟨c, 2, none⟩ = some y2 ∧ X.cell? ⟨c, 3, none⟩ = some y3 ∧ X.cell? ⟨c, 4, none⟩ = some y4 ∧ X.cell? ⟨c, 5, none⟩ = some y5 ∧ X.cell? ⟨c, 6, none⟩ = some y6 ∧ X.cell? ⟨c, 7, none⟩ = some y7 ∧ X.cell? ⟨c, 8, none⟩ = some y8) := by
  obtain ⟨⟨a0, a1, a2, a3⟩, d0, d1, d2, d3, d4, d5, d6, d7, d8⟩ := h
  exact ⟨⟨cell_on hb h1 a0, cell_on hb h1 a1, cell_on hb h1 a2, cell_on hb h1 a3⟩, cell_on hb h2 d0, cell_on hb h2 d1, cell_on hb h2 d2, cell_on hb h2 d3, cell_on hb h2 d4, cell_on hb h2 d5, cell_on hb h2 d6, cell_on hb h2 d7, cell_on hb h2 d8⟩

set_option maxHeartbeats 8000000 in
set_option maxRecDepth 100000 in
theorem written_any (id da sp : Int) (v : Value) (ll : List (List Change)) (w : World) (hv : Lists w v ll) (hg : Ground w) (hc : costA ll ≤ 1500) (hl5 : ll.length ≤ 5) (hat : ∀ l ∈ ll, ∀ c ∈ l, c.attrs.length ≤ 16777216) :
    Calls Tryz.prog 8 #[.int .u32 id, .agg #[.int .i64 da, .int .i64 sp], v] w fun en w' => ∃ v', en = .returned v' ∧ ArcV w' v' (writtenL ll) ∧ Below w.heap.size w w' := by
  obtain ⟨ao, cap, rfl, hlc, hcm⟩ := hv.form
  obtain ⟨W, hW, q0, q6, hbW, hsz⟩ := base_wr w (.int .i64 da) (.int .i64 sp)
  have l0 := tcell q0 0 (.int .i64 da) rfl
  have l1 := tcell q0 1 (.int .i64 sp) rfl
  obtain ⟨V, hV, hbV, hzV, hblk, _⟩ := box4 W (.int .u32 id) (.int .i64 da) (.int .i64 sp) (.slice none 0 0) 30
  replace hzV : W.heap.size < V.heap.size := by omega
  have KV := Lib.hid hV
  clear hV
  have hbVw := hbW.trans (hbV.mono hbW.size)
  have htot : total ll ≤ 75 := by
    have := costA_len ll
    unfold total
    omega
  have HV := Lib.hid hv
  have HG := Lib.hid hg
  have HC := Lib.hid hc
  have HAT := Lib.hid hat
  have HB6 := Lib.hid ((hbV.block _ hsz).trans q6)
  have HA0 : Hid (ArcB V W.heap.size (writtenK ll 0)) := Lib.hid ⟨id, da, sp, none, 0, hblk, Sess.nil _⟩
  clear hv hg hc hat q0 q6 hblk
  go_enter Tryz.func8, Tryz.ntmps8
  go_upto_region 1 with (fail)
  try rw [hW]
  clear hW
  go_upto_region 2 with (fail)
  try rw [KV.out]
  clear KV l0 l1
  go_wp2_with fail
  go_loopw [23] (fun i wr => ∃ k : Nat, k ≤ ll.length ∧ i = .int .i64 k ∧ Hid (ArcB wr W.heap.size (writtenK ll k)) ∧ Hid (wr.heap[w.heap.size + 1]? = some (.cells #[.int .u32 0, .int .i64 0, .int .i64 0, .slice none 0 0] 30 (0, 0))) ∧ Hid (Below w.heap.size w wr) ∧ V.heap.size ≤ wr.heap.size) (fun i _ => ll.length - (intOf i).toNat)
  case atStart => exact ⟨0, Nat.zero_le _, rfl, HA0, HB6, Lib.hid hbVw, Nat.le_refl _⟩
  case round =>
    obtain ⟨k, hk, rfl, hA, hB, hb, hszr⟩ := hrel
    by_cases hlt : k < ll.length
    · obtain ⟨l, hl⟩ : ∃ l, ll[k]? = some l := ⟨_, List.getElem?_eq_getElem hlt⟩
      obtain ⟨bk, o, va, ca0, hoo, c0, hch⟩ := (HV.out.below hb.out).get hl
      subst hoo
      have HKS := Lib.hid (writtenK_succ hl)
      have htk := total_succ hl
      have htt := total_take ll (k + 1)
      have hok := writtenK_ok ll k (by omega)
      have hcnt := hok.count
      have hcl : costL l ≤ 1500 := Nat.le_trans (costA_mem (List.mem_of_getElem? hl)) HC.out
      have HALL := Lib.hid (HAT.out l (List.mem_of_getElem? hl))
      have HOK := Lib.hid hok
      have HCH := Lib.hid hch
      obtain ⟨_, _, e1, hlc1, hcm1⟩ := hch.form
      injection e1 with e1 _ e3
      subst e1 e3
      generalize writtenK ll k = L at *
      have htc : count L + l.length ≤ 75 := by omega
      obtain ⟨aid, ada, asp, sa, sc, hablk, hsess⟩ := hA.out
      have HABLK := Lib.hid hablk
      obtain ⟨⟨a0, a1, a2, a3⟩, _⟩ := row4 hablk
      have q1 : IntKind.i64.wrap (10 * (k : Int)) = 10 * (k : Int) := by rw [IntKind.wrap_i64]; omega
      have q2 : IntKind.i64.wrap (10 * (k : Int) + 10) = 10 * (k : Int) + 10 := by rw [IntKind.wrap_i64]; omega
      have HBG := Lib.hid (sbegin_any (.agg #[.int .u32 aid, .int .i64 ada, .int .i64 asp, .slice sa L.length sc]) L (10 * (k : Int) + 10) wr ⟨aid, ada, asp, sa, sc, rfl, hsess⟩ (HG.out.below hb.out) hok.each (by omega) hok.len)
      have HBO := Lib.hid (fun h => beginS_ok (l := L) (date := 10 * (k : Int) + 10) hok.each h)
      generalize beginS L (10 * (k : Int) + 10) = BG at *
      obtain ⟨d0, bco⟩ := BG
      obtain ⟨wB, hwB⟩ : ∃ wB, wB = wr := ⟨_, rfl⟩
      subst hwB
      clear hok htk htt hch hl hsess hablk
      go_wp2_with fail
      refine HBG.out.mono ?_
      rintro en w1 ⟨dv, rfl, ⟨ea, ec, ca, cc, ta, tc, ha, hc, rfl, e1, e2, e3, e4⟩, hb1⟩
      obtain ⟨V1, hV1, hbV1, hzV1, hdblk⟩ := box9 w1 (.int .i64 d0.num) (.int .i64 d0.date) (.string ⟨d0.prev.toArray⟩) (.slice ea d0.entries.length ec) (.slice ca d0.store.chunks.length cc) (.int .i64 d0.store.ses) (.string ⟨d0.store.stream.toArray⟩) (.slice ta d0.tree.length tc) (.slice ha d0.holds.length hc) 68
      have KV1 := Lib.hid hV1
      clear hV1
      have hb1V := hb1.trans (hbV1.mono hb1.size)
      have hWB : W.heap.size < wB.heap.size := by omega
      have HA1 := Lib.hid (hA.out.below hb1V)
      have HB1 := Lib.hid ((hb1V.block _ (Array.getElem?_eq_some_iff.1 hB.out).1).trans hB.out)
      have hV1w := hb.out.trans (hb1V.mono hb.out.size)
      have HD1 : Hid (DraB V1 w1.heap.size d0) := Lib.hid ⟨ea, ec, ca, cc, ta, tc, ha, hc, hdblk, ea, ec, ca, cc, ta, tc, ha, hc, rfl, e1.below hbV1, Flat.below (c := chunkC) e2 hbV1, e3.below hbV1, Flat.below (c := holdC) e4 hbV1⟩
      clear hdblk e1 e2 e3 e4 HBG a0 a1 a2 a3 q1 q2 c0
      go_upto_region 6 with (fail)
      try rw [KV1.out]
      clear KV1
      by_cases hco : bco = 0
      case neg =>
        have hcob : (bco != 0) = true := bne_iff_ne.2 hco
        have hKS := HKS.out
        go_wp2_with fail
        go_roundw
        case rel => exact ⟨k + 1, hlt, by go_num, by rw [hKS, if_pos hco]; exact HA1, HB1, Lib.hid hV1w, Nat.le_trans hszr hb1V.size⟩
        case measure => simp [intOf]; omega
      case pos =>
        subst hco
        have hKS := Lib.hid (HKS.out.trans (if_neg (by simp)))
        obtain ⟨hdok, hde, _⟩ := HBO.out rfl
        have hde0 : d0.entries.length = 0 := by
          have h : d0.entries = [] := hde
          rw [h]
          rfl
        have HDOK : Hid (DraOk (count L) d0) := Lib.hid hdok
        have HDE := Lib.hid hde0
        clear hdok hde HBO HKS hde0
        have hw1s := hb1.size
        go_wp2_with fail
        go_loopw [40] (fun i wx => ∃ m : Nat, m ≤ l.length ∧ i = .int .i64 m ∧ Hid (DraB wx w1.heap.size (addK d0 l m)) ∧ Hid (Below w1.heap.size w1 wx) ∧ V1.heap.size ≤ wx.heap.size) (fun i _ => l.length - (intOf i).toNat)
        case atStart => exact ⟨0, Nat.zero_le _, rfl, HD1, Lib.hid hbV1, Nat.le_refl _⟩
        case round =>
          obtain ⟨m, hm, rfl, hD, hb2, hsz2⟩ := hrel
          have hbB2 := hb1.trans (hb2.out.mono hb1.size)
          by_cases hmt : m < l.length
          · obtain ⟨c, hcj⟩ : ∃ c, l[m]? = some c := ⟨_, List.getElem?_eq_getElem hmt⟩
            obtain ⟨bk2, o2, aa, ac, hoo, hat, c0, c1, c2, c3, c4⟩ := (HCH.out.below hbB2).get hcj
            subst hoo
            have HADD := Lib.hid (addK_succ (d := d0) hcj)
            obtain ⟨hok2, hlen2⟩ := addAll_ok (l.take m) HDOK.out
            have hlen2 : (addK d0 l m).entries.length ≤ d0.entries.length + (l.take m).length := hlen2
            have hok2 : DraOk (count L) (addK d0 l m) := hok2
            have hlt3 : (l.take m).length ≤ m := by rw [List.length_take]; omega
            have hcc := costL_mem (List.mem_of_getElem? hcj)
            have hcd : costC c = 20 + c.path.length + c.target.length + c.content.length + (c.attrs.map attrCost).sum := rfl
            have hca := HALL.out c (List.mem_of_getElem? hcj)
            generalize addK d0 l m = D at *
            obtain ⟨ea2, ec2, ca2, cc2, ta2, tc2, ha2, hc2, hdb, hdv⟩ := hD.out
            obtain ⟨V2, hV2, hbV2, hzV2, hcb⟩ := boxC5 wr (.int .i64 c.kind) (.string ⟨c.path.toArray⟩) (.slice aa c.attrs.length ac) (.string ⟨c.target.toArray⟩) (.string ⟨c.content.toArray⟩) 62
            have KV2 := Lib.hid hV2
            clear hV2
            have hb2w := hb.out.trans (hbB2.mono hb.out.size)
            have HDV := Lib.hid (hdv.below hbV2)
            have HAD := Lib.hid (add_any (.agg #[.int .i64 D.num, .int .i64 D.date, .string ⟨D.prev.toArray⟩, .slice ea2 D.entries.length ec2, .slice ca2 D.store.chunks.length cc2, .int .i64 D.store.ses, .string ⟨D.store.stream.toArray⟩, .slice ta2 D.tree.length tc2, .slice ha2 D.holds.length hc2]) (.agg #[.int .i64 c.kind, .string ⟨c.path.toArray⟩, .slice aa c.attrs.length ac, .string ⟨c.target.toArray⟩, .string ⟨c.content.toArray⟩]) D c (count L) V2 HDV.out ⟨aa, ac, rfl, Flat.below (c := attrC) hat hbV2⟩ hok2 (by have := HDE.out; omega) (HG.out.below (hb2w.trans (hbV2.mono hb2w.size))) hca (by omega) (by omega) (by omega))
            have HDB := Lib.hid ((hbV2.block _ (Array.getElem?_eq_some_iff.1 hdb).1).trans hdb)
            have HCB := Lib.hid hcb
            generalize addS D c = AD at *
            obtain ⟨d1, aco⟩ := AD
            obtain ⟨wC, hwC⟩ : ∃ wC, wC = wr := ⟨_, rfl⟩
            subst hwC
            clear hcb hdb hdv hat hok2 hlen2 hcd hcc hca hcj HDV
            go_upto_region 10 with (fail)
            try rw [KV2.out]
            clear KV2 c0 c1 c2 c3 c4
            obtain ⟨⟨x0, x1, x2, x3, x4, x5, x6, x7, x8⟩, _⟩ := row9 HDB.out
            obtain ⟨c0, c1, c2, c3, c4⟩ := row5 HCB.out
            go_wp2_with fail
            refine HAD.out.mono ?_
            rintro en w3 ⟨nv, rfl, ⟨ea3, ec3, ca3, cc3, ta3, tc3, ha3, hc3, rfl, n1, n2, n3, n4⟩, hb3⟩
            obtain ⟨V3, hV3, hbV3, hzV3, hnb⟩ := box9 w3 (.int .i64 d1.num) (.int .i64 d1.date) (.string ⟨d1.prev.toArray⟩) (.slice ea3 d1.entries.length ec3) (.slice ca3 d1.store.chunks.length cc3) (.int .i64 d1.store.ses) (.string ⟨d1.store.stream.toArray⟩) (.slice ta3 d1.tree.length tc3) (.slice ha3 d1.holds.length hc3) 68
            have KV3 := Lib.hid hV3
            clear hV3
            have hb23 : Below wC.heap.size wC V3 := hbV2.trans ((hb3.trans (hbV3.mono hb3.size)).mono hbV2.size)
            have hb13 : Below w1.heap.size w1 V3 := hb2.out.trans (hb23.mono hb2.out.size)
            have hV23 := hb3.trans (hbV3.mono hb3.size)
            have HD3 := Lib.hid ((hV23.block _ (Array.getElem?_eq_some_iff.1 HDB.out).1).trans HDB.out)
            have HNV := Lib.hid (⟨ea3, ec3, ca3, cc3, ta3, tc3, ha3, hc3, rfl, n1.below hbV3, Flat.below (c := chunkC) n2 hbV3, n3.below hbV3, Flat.below (c := holdC) n4 hbV3⟩ : DraV V3 (.agg #[.int .i64 d1.num, .int .i64 d1.date, .string ⟨d1.prev.toArray⟩, .slice ea3 d1.entries.length ec3, .slice ca3 d1.store.chunks.length cc3, .int .i64 d1.store.ses, .string ⟨d1.store.stream.toArray⟩, .slice ta3 d1.tree.length tc3, .slice ha3 d1.holds.length hc3]) d1)
            have HNB := Lib.hid hnb
            have hsz3 := Nat.le_trans hsz2 hb23.size
            clear hnb n1 n2 n3 n4 HAD x0 x1 x2 x3 x4 x5 x6 x7 x8 c0 c1 c2 c3 c4
            go_upto_region 11 with (fail)
            try rw [KV3.out]
            clear KV3
            by_cases hao : aco = 0
            case neg =>
              have haob : (aco == 0) = false := by simp [hao]
              have hDN : Hid (DraB V3 w1.heap.size (addK d0 l (m + 1))) := Lib.hid (by rw [HADD.out, if_neg hao]; exact hD.out.below hb23)
              go_wp2_with fail
              go_roundw
              case rel => exact ⟨m + 1, hmt, by go_num, hDN, Lib.hid hb13, hsz3⟩
              case measure => simp [intOf]; omega
            case pos =>
              subst hao
              obtain ⟨⟨x0, x1, x2, x3, x4, x5, x6, x7, x8⟩, _⟩ := row9 HNB.out
              obtain ⟨⟨y0, y1, y2, y3, y4, y5, y6, y7, y8⟩, z0, z1, z2, z3, z4, z5, z6, z7, z8⟩ := row9 HD3.out
              obtain ⟨t1, sg⟩ := set9 HD3.out (.int .i64 d1.num) (.int .i64 d1.date) (.string ⟨d1.prev.toArray⟩) (.slice ea3 d1.entries.length ec3) (.slice ca3 d1.store.chunks.length cc3) (.int .i64 d1.store.ses) (.string ⟨d1.store.stream.toArray⟩) (.slice ta3 d1.tree.length tc3) (.slice ha3 d1.holds.length hc3)
              have hDN : Hid (DraB _ w1.heap.size (addK d0 l (m + 1))) := Lib.hid (by rw [HADD.out, if_pos rfl]; exact ⟨ea3, ec3, ca3, cc3, ta3, tc3, ha3, hc3, t1, DraV.oth free_dra rfl HD3.out (Oth.of_grown sg) HNV.out⟩)
              have hb14 := Lib.hid (hb13.grown sg hb13.size (fun k hk => by injection hk; omega))
              have hsz4 := Nat.le_trans hsz3 sg.size
              clear t1 sg
              go_wp2_with fail
              go_roundw
              case rel => exact ⟨m + 1, hmt, by go_num, hDN, hb14, hsz4⟩
              case measure => simp [intOf]; omega
          · obtain rfl : m = l.length := by omega
            have hAK : addK d0 l l.length = addAll d0 l := by
              unfold addK
              rw [List.take_length]
            rw [hAK] at hD
            clear hAK
            obtain ⟨hok2, hlen2⟩ := addAll_ok l HDOK.out
            generalize addAll d0 l = D at *
            obtain ⟨ea2, ec2, ca2, cc2, ta2, tc2, ha2, hc2, hdb, hdv⟩ := hD.out
            have hb2w := hb.out.trans (hbB2.mono hb.out.size)
            obtain ⟨aid2, ada2, asp2, sa2, sc2, hab, has⟩ := hA.out.below hbB2
            have HAB := Lib.hid hab
            have HDB := Lib.hid hdb
            have HBZ := Lib.hid ((hbB2.block _ (Array.getElem?_eq_some_iff.1 hB.out).1).trans hB.out)
            obtain ⟨wC, hwC⟩ : ∃ wC, wC = wr := ⟨_, rfl⟩
            subst hwC
            have H13 := And.intro (row4 hab).1 (row9 hdb).1
            have HLA := (Array.getElem?_eq_some_iff.1 hab).1
            have HLD := (Array.getElem?_eq_some_iff.1 hdb).1
            have HCLO := Lib.hid (fun X (hX : Below wC.heap.size wC X) => close_any _ D X (hdv.below hX) (by have := HDE.out; omega))
            have HAPP := Lib.hid (fun X sv (hX : Below wC.heap.size wC X) (hsv : SesV X sv (closeS D)) => append_any (.agg #[.int .u32 aid2, .int .i64 ada2, .int .i64 asp2, .slice sa2 L.length sc2]) sv L (closeS D) X ⟨aid2, ada2, asp2, sa2, sc2, rfl, has.below hX⟩ hsv (HG.out.below (hb2w.trans (hX.mono hb2w.size))) HOK.out.each (by have := HOK.out.len; omega))
            have HSAME := Lib.hid (fun h => appendS_same (l := L) (s := closeS D) h)
            generalize closeS D = CS at *
            generalize appendS L CS = AP at *
            obtain ⟨lN, cN⟩ := AP
            clear hab hdb hdv has hok2 hlen2
            go_upto_region 14 with (fail)
            go_cut [16, 17, 23] from 23 to 64 (fun s16 s17 s23 wx => ∃ b : Nat, s16 = .pointer (some ⟨b, 0, none⟩) ∧ s17 = .int .i64 cN ∧ s23 = .int .i64 k ∧ wC.heap.size ≤ b ∧ Hid (ArcB wx b lN) ∧ Hid (Below wC.heap.size wC wx))
            case first =>
              go_region_held3 (fun w' => (w'.cell? ⟨W.heap.size, 0, none⟩ = some (.int .u32 aid2) ∧ w'.cell? ⟨W.heap.size, 1, none⟩ = some (.int .i64 ada2) ∧ w'.cell? ⟨W.heap.size, 2, none⟩ = some (.int .i64 asp2) ∧ w'.cell? ⟨W.heap.size, 3, none⟩ = some (.slice sa2 L.length sc2)) ∧ (w'.cell? ⟨w1.heap.size, 0, none⟩ = some (.int .i64 D.num) ∧ w'.cell? ⟨w1.heap.size, 1, none⟩ = some (.int .i64 D.date) ∧ w'.cell? ⟨w1.heap.size, 2, none⟩ = some (.string ⟨D.prev.toArray⟩) ∧ w'.cell? ⟨w1.heap.size, 3, none⟩ = some (.slice ea2 D.entries.length ec2) ∧ w'.cell? ⟨w1.heap.size, 4, none⟩ = some (.slice ca2 D.store.chunks.length cc2) ∧ w'.cell? ⟨w1.heap.size, 5, none⟩ = some (.int .i64 D.store.ses) ∧ w'.cell? ⟨w1.heap.size, 6, none⟩ = some (.string ⟨D.store.stream.toArray⟩) ∧ w'.cell? ⟨w1.heap.size, 7, none⟩ = some (.slice ta2 D.tree.length tc2) ∧ w'.cell? ⟨w1.heap.size, 8, none⟩ = some (.slice ha2 D.holds.length hc2)))
                ((refine keep13 (w0 := wC) ?_ HLA HLD H13; (repeat (first | assumption | exact Below.refl _ _ | refine Below.drew ?_ | refine Below.alloc ?_ (by first | omega | (simp; done) | (simp; omega)) _ | refine Below.setCell ?_ (by first | omega | (simp; done) | (simp; omega)) _))))
                (first | (go_at_call 23; refine (HCLO.out wC.drew (by (repeat (first | assumption | exact Below.refl _ _ | refine Below.drew ?_ | refine Below.alloc ?_ (by first | omega | (simp; done) | (simp; omega)) _ | refine Below.setCell ?_ (by first | omega | (simp; done) | (simp; omega)) _)))).mono ?_; rintro en v1 ⟨sv, rfl, ⟨se, sec, rfl, hse⟩, hv1⟩; have hq1 := hv1.size; have hy1 : Below wC.heap.size wC v1 := by { refine Below.trans ?_ (hv1.mono (by first | omega | (simp; done) | (simp; omega))); (repeat (first | assumption | exact Below.refl _ _ | refine Below.drew ?_ | refine Below.alloc ?_ (by first | omega | (simp; done) | (simp; omega)) _ | refine Below.setCell ?_ (by first | omega | (simp; done) | (simp; omega)) _)) }; have hs1 := hy1.size) | (go_at_call 23; refine (HCLO.out (wC.drew.alloc (.cells #[.int .u32 0, .int .i64 0, .int .i64 0, .slice none 0 0] 30)) (by (repeat (first | assumption | exact Below.refl _ _ | refine Below.drew ?_ | refine Below.alloc ?_ (by first | omega | (simp; done) | (simp; omega)) _ | refine Below.setCell ?_ (by first | omega | (simp; done) | (simp; omega)) _)))).mono ?_; rintro en v1 ⟨sv, rfl, ⟨se, sec, rfl, hse⟩, hv1⟩; have hq1 := hv1.size; have hy1 : Below wC.heap.size wC v1 := by { refine Below.trans ?_ (hv1.mono (by first | omega | (simp; done) | (simp; omega))); (repeat (first | assumption | exact Below.refl _ _ | refine Below.drew ?_ | refine Below.alloc ?_ (by first | omega | (simp; done) | (simp; omega)) _ | refine Below.setCell ?_ (by first | omega | (simp; done) | (simp; omega)) _)) }; have hs1 := hy1.size; have hza := (hv1.block wC.heap.size (by simp)).trans (heap_alloc_new wC.drew (.cells #[.int .u32 0, .int .i64 0, .int .i64 0, .slice none 0 0] 30))) | (go_at_call 24; refine (HAPP.out v1 _ (by (repeat (first | assumption | exact Below.refl _ _ | refine Below.drew ?_ | refine Below.alloc ?_ (by first | omega | (simp; done) | (simp; omega)) _ | refine Below.setCell ?_ (by first | omega | (simp; done) | (simp; omega)) _))) ⟨se, sec, rfl, hse⟩).mono ?_; rintro en v2 ⟨av, rfl, ⟨nid, nda, nsp, nsa, nsc, rfl, hns⟩, hv2⟩; have hq2 := hv2.size; have hy2 : Below wC.heap.size wC v2 := by { refine Below.trans ?_ (hv2.mono (by first | omega | (simp; done) | (simp; omega))); (repeat (first | assumption | exact Below.refl _ _ | refine Below.drew ?_ | refine Below.alloc ?_ (by first | omega | (simp; done) | (simp; omega)) _ | refine Below.setCell ?_ (by first | omega | (simp; done) | (simp; omega)) _)) }; have hs2 := hy2.size; have hzb := (hv2.block wC.heap.size (Array.getElem?_eq_some_iff.1 hza).1).trans hza; obtain ⟨⟨y0, y1, y2, y3⟩, z0, z1, z2, z3⟩ := row4 hzb) | (go_at_call 24; refine (HAPP.out (v1.alloc (.cells #[.int .u32 0, .int .i64 0, .int .i64 0, .slice none 0 0] 30)) _ (by (repeat (first | assumption | exact Below.refl _ _ | refine Below.drew ?_ | refine Below.alloc ?_ (by first | omega | (simp; done) | (simp; omega)) _ | refine Below.setCell ?_ (by first | omega | (simp; done) | (simp; omega)) _))) ⟨se, sec, rfl, hse.below ((Below.refl _ v1).alloc (Nat.le_refl _) _)⟩).mono ?_; rintro en v2 ⟨av, rfl, ⟨nid, nda, nsp, nsa, nsc, rfl, hns⟩, hv2⟩; have hq2 := hv2.size; have hy2 : Below wC.heap.size wC v2 := by { refine Below.trans ?_ (hv2.mono (by first | omega | (simp; done) | (simp; omega))); (repeat (first | assumption | exact Below.refl _ _ | refine Below.drew ?_ | refine Below.alloc ?_ (by first | omega | (simp; done) | (simp; omega)) _ | refine Below.setCell ?_ (by first | omega | (simp; done) | (simp; omega)) _)) }; have hs2 := hy2.size; have hzb := (hv2.block v1.heap.size (by simp)).trans (heap_alloc_new v1 (.cells #[.int .u32 0, .int .i64 0, .int .i64 0, .slice none 0 0] 30)); obtain ⟨⟨y0, y1, y2, y3⟩, z0, z1, z2, z3⟩ := row4 hzb) | (go_at_call 24; refine (HAPP.out v1 _ (by (repeat (first | assumption | exact Below.refl _ _ | refine Below.drew ?_ | refine Below.alloc ?_ (by first | omega | (simp; done) | (simp; omega)) _ | refine Below.setCell ?_ (by first | omega | (simp; done) | (simp; omega)) _))) ⟨se, sec, rfl, hse⟩).mono ?_; rintro en v2 ⟨av, rfl, ⟨nid, nda, nsp, nsa, nsc, rfl, hns⟩, hv2⟩; have hq2 := hv2.size; have hy2 : Below wC.heap.size wC v2 := by { refine Below.trans ?_ (hv2.mono (by first | omega | (simp; done) | (simp; omega))); (repeat (first | assumption | exact Below.refl _ _ | refine Below.drew ?_ | refine Below.alloc ?_ (by first | omega | (simp; done) | (simp; omega)) _ | refine Below.setCell ?_ (by first | omega | (simp; done) | (simp; omega)) _)) }; have hs2 := hy2.size))
              all_goals
                go_wp2_with fail
                go_meet
              · exact ⟨v2.heap.size, rfl, rfl, rfl, hs2, Lib.hid ⟨nid, nda, nsp, nsa, nsc, heap_alloc_new v2 _, hns.below ((Below.refl _ v2).alloc (Nat.le_refl _) _)⟩, Lib.hid (hy2.alloc hs2 _)⟩
              · obtain ⟨t1, sg⟩ := set4 hzb (.int .u32 nid) (.int .i64 nda) (.int .i64 nsp) (.slice nsa lN.length nsc)
                exact ⟨v1.heap.size, rfl, rfl, rfl, hs1, Lib.hid ⟨nid, nda, nsp, nsa, nsc, t1, hns.oth free_arc rfl hzb (Oth.of_grown sg)⟩, Lib.hid (hy2.grown sg hy2.size (fun k hk => by injection hk; omega))⟩
              · obtain ⟨t1, sg⟩ := set4 hzb (.int .u32 nid) (.int .i64 nda) (.int .i64 nsp) (.slice nsa lN.length nsc)
                exact ⟨wC.heap.size, rfl, rfl, rfl, Nat.le_refl _, Lib.hid ⟨nid, nda, nsp, nsa, nsc, t1, hns.oth free_arc rfl hzb (Oth.of_grown sg)⟩, Lib.hid (hy2.grown sg hy2.size (fun k hk => by injection hk; omega))⟩
            case rest =>
              obtain ⟨b, rfl, rfl, rfl, hle, hAN, hbN⟩ := hcut
              obtain ⟨wN, hwN⟩ : ∃ wN, wN = wc := ⟨_, rfl⟩
              subst hwN
              have hbwN := hb2w.trans (hbN.out.mono hb2w.size)
              have HABN := Lib.hid ((hbN.out.block _ HLA).trans HAB.out)
              have HBZN := Lib.hid ((hbN.out.block _ (Array.getElem?_eq_some_iff.1 HBZ.out).1).trans HBZ.out)
              have hAL := (hA.out.below hbB2).below hbN.out
              have HAL := Lib.hid hAL
              have hszN : V.heap.size ≤ wN.heap.size := Nat.le_trans hszr (Nat.le_trans hbB2.size hbN.out.size)
              obtain ⟨nid, nda, nsp, nsa, nsc, hnb, hns⟩ := hAN.out
              have HNB := Lib.hid hnb
              have HNS := Lib.hid hns
              clear hnb hns hAL H13
              by_cases hcn : cN = 0
              case neg =>
                have hcnb : (cN == 0) = false := by simp [hcn]
                have hlN : lN = L := HSAME.out hcn
                have hKN : Hid (ArcB wN W.heap.size (writtenK ll (k + 1))) := Lib.hid (by
                  have h : writtenK ll (k + 1) = lN := hKS.out
                  rw [h, hlN]
                  exact HAL.out)
                clear hlN
                go_wp2_with fail
                go_roundw
                case rel => exact ⟨k + 1, hlt, by go_num, hKN, HBZN, Lib.hid hbwN, hszN⟩
                case measure => simp [intOf]; omega
              case pos =>
                subst hcn
                obtain ⟨⟨x0, x1, x2, x3⟩, _⟩ := row4 HNB.out
                obtain ⟨⟨y0, y1, y2, y3⟩, z0, z1, z2, z3⟩ := row4 HABN.out
                obtain ⟨t1, sg⟩ := set4 HABN.out (.int .u32 nid) (.int .i64 nda) (.int .i64 nsp) (.slice nsa lN.length nsc)
                have hKN : Hid (ArcB _ W.heap.size (writtenK ll (k + 1))) := Lib.hid (by
                  have h : writtenK ll (k + 1) = lN := hKS.out
                  rw [h]
                  exact ⟨nid, nda, nsp, nsa, nsc, t1, HNS.out.oth free_arc rfl HABN.out (Oth.of_grown sg)⟩)
                have HBZ2 := Lib.hid ((Oth.of_grown sg).get HBZN.out (by omega))
                have hbw2 := Lib.hid (hbwN.grown sg hbwN.size (fun k hk => by injection hk; omega))
                have hsz9 := Nat.le_trans hszN sg.size
                clear t1 sg
                go_wp2_with fail
                go_roundw
                case rel => exact ⟨k + 1, hlt, by go_num, hKN, HBZ2, hbw2, hsz9⟩
                case measure => simp [intOf]; omega
    · obtain rfl : k = ll.length := by omega
      rw [show writtenK ll ll.length = writtenL ll by unfold writtenK writtenL; rw [List.take_length]] at hA
      obtain ⟨aid, ada, asp, sa, sc, hab, has⟩ := hA.out
      have hZ := hB.out
      obtain ⟨⟨x0, x1, x2, x3⟩, _⟩ := row4 hab
      obtain ⟨⟨y0, y1, y2, y3⟩, z0, z1, z2, z3⟩ := row4 hZ
      obtain ⟨t1, sg⟩ := set4 hZ (.int .u32 aid) (.int .i64 ada) (.int .i64 asp) (.slice sa (writtenL ll).length sc)
      have hfin := hb.out.grown sg hb.out.size (fun k hk => by injection hk; omega)
      have HS2 := Lib.hid (has.oth free_arc rfl hZ (Oth.of_grown sg))
      have HF := Lib.hid hfin
      have T1 := Lib.hid t1
      clear t1 sg hfin has hab hZ
      go_wp2_with fail
      try simp only [Exit.inBlock, Exit.then]
      refine bodyPost_ret (v := .agg #[.int .u32 aid, .int .i64 ada, .int .i64 asp, .slice sa (writtenL ll).length sc]) ?_ ?_ ?_
      · refine results_cell_row (p := 6) (ty := 30) (by kernel_rfl) _ _ (w.heap.size + 1) 30 _ (0, 0) _ ?_ T1.out Tryz.underlying30 (by kernel_rfl) (by kernel_rfl)
        kernel_rfl
      · kernel_rfl
      · exact ⟨_, rfl, ⟨aid, ada, asp, sa, sc, rfl, HS2.out⟩, HF.out⟩
end Go.Proofs.YtbhmdcdhklgomaaGreatDoor
