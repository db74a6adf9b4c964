/-
  The map of known chunks: an own map of extents. chunkstore.index.
-/
import Derived.Test.YtbhmdcdhklgomaaGreatDoorM24
import Derived.Maps.OwnSet
import Derived.StringKeys
import Derived.BigQuiet
import Derived.Test.YtbhmdcdhklgomaaGreatDoorM23
namespace Go.Proofs.YtbhmdcdhklgomaaGreatDoor
open Go.RowKit Go.Shelf Top

def extV (x : Ext) : Value := .agg #[.int .i64 x.ses, .int .i64 x.off, .int .i64 x.len]
def extD (x : Ext) : DataW Unit := .agg [.lit (.int .i64 x.ses), .lit (.int .i64 x.off), .lit (.int .i64 x.len)]
def extR : Value → Option (DataW Unit × List MemPlace)
  | .agg a => match a.toList with
    | [.int .i64 s, .int .i64 o, .int .i64 l] => some (extD ⟨s, o, l⟩, [])
    | _ => none
  | _ => none
theorem extR_of (x : Ext) : extR (extV x) = some (extD x, []) := rfl
theorem extR_inv {v : Value} {z : DataW Unit × List MemPlace} (h : extR v = some z) : ∃ x, v = extV x ∧ z = (extD x, []) := by
  unfold extR at h
  split at h
  · rename_i a
    split at h
    · rename_i s o l heq
      refine ⟨⟨s, o, l⟩, ?_, ?_⟩
      · show Value.agg a = .agg #[.int .i64 s, .int .i64 o, .int .i64 l]
        congr 1
        apply Array.ext'
        exact heq
      · exact (Option.some.inj h).symm
    · cases h
  · cases h
theorem extD_inj {x y : Ext} (h : extD x = extD y) : x = y := by
  obtain ⟨a, b, c⟩ := x
  obtain ⟨a', b', c'⟩ := y
  simp only [extD, DataW.agg.injEq, List.cons.injEq, DataW.lit.injEq, Lit.int.injEq, true_and, and_true] at h
  obtain ⟨rfl, rfl, rfl⟩ := h
  rfl
theorem look_snoc (k : Known) (d d' : Bs) (x : Ext) (h : Top.look k d = none) : Top.look (k ++ [(d, x)]) d' = if d' = d then some x else Top.look k d' := by
  unfold Top.look at *
  rw [List.find?_append]
  by_cases hd : d' = d
  · subst hd
    rw [if_pos rfl]
    rw [Option.map_eq_none_iff] at h
    rw [h]
    simp
  · rw [if_neg hd]
    have : ([(d, x)] : Known).find? (fun x => x.1 == d') = none := by
      simp
      exact fun e => hd e.symm
    rw [this]
    simp
/-- Block b is a map that reads as the known extents. -/
def MapK (w : World) (b n : Nat) (k : Known) : Prop :=
  ∃ D : DataW Unit, w.ownsMap Tryz.prog 9 extR b n D ∧ ∀ d : Bs, Maps.has D (.string d) = (Top.look k d).isSome ∧ D.atKey (.string d) (extD ⟨0, 0, 0⟩) = extD ((Top.look k d).getD ⟨0, 0, 0⟩)
theorem MapK.made (w : World) : MapK (w.alloc (.map #[] 0)) w.heap.size 0 [] :=
  ⟨.map [], World.ownsMap_made w _ _ _, fun _ => ⟨rfl, rfl⟩⟩
theorem MapK.kept {w w' : World} {b n : Nat} {k : Known} {row : Option Nat} (h : MapK w b n k) (hg : w.grownBy w' row) (hne : some b ≠ row) : MapK w' b n k := by
  obtain ⟨D, h1, h2⟩ := h
  exact ⟨D, h1.kept hg hne, h2⟩
theorem MapK.lt {w : World} {b n : Nat} {k : Known} (h : MapK w b n k) : b < w.heap.size := by
  obtain ⟨D, h1, _⟩ := h
  exact h1.lt
theorem MapK.same {w w' : World} {b n : Nat} {k : Known} (h : MapK w b n k) (hb : w'.heap[b]? = w.heap[b]?) : MapK w' b n k := by
  obtain ⟨D, ⟨es, cl, h1, h2⟩, h3⟩ := h
  exact ⟨D, ⟨es, cl, hb.trans h1, h2⟩, h3⟩
theorem key_str (d : Bs) (h : d.length ≤ 1000000000) : keyOf Tryz.prog 9 (.string ⟨d.toArray⟩) = some (.string d) := WideMaps.keyOf_string_mk Tryz.underlying9 (by show d.length ≤ _; unfold maxLen; omega)
theorem zero_ext (w : World) : (zeroValue 93).run Tryz.prog w = .ok (extV ⟨0, 0, 0⟩) w := by kernel_rfl
/-- 'x, ok := m[d]'. -/
theorem MapK.look {w : World} {b n : Nat} {k : Known} (h : MapK w b n k) (d : Bs) (hd : d.length ≤ 1000000000) :
    (Instr.lookup 190 (.map (some b)) (.string ⟨d.toArray⟩) true).run Tryz.prog w = .ok (.tuple #[extV ((Top.look k d).getD ⟨0, 0, 0⟩), .bool (Top.look k d).isSome]) w := by
  obtain ⟨D, h1, h2⟩ := h
  obtain ⟨v, ps, hr, hv⟩ := h1.look_ok (Maps.string_keyed Tryz.underlying9) Tryz.underlying190 (zero_ext w) (extR_of ⟨0, 0, 0⟩) (key_str d hd)
  obtain ⟨x, rfl, hx⟩ := extR_inv hv
  have h3 := (Prod.mk.inj hx).1
  rw [(h2 d).2] at h3
  rw [hr, (h2 d).1, extD_inj h3]
/-- 'm[d] = x', d not known. -/
theorem MapK.put {w : World} {b n : Nat} {k : Known} (h : MapK w b n k) (d : Bs) (x : Ext) (hd : d.length ≤ 1000000000) (hn : n ≤ 1000000000) (hk : Top.look k d = none) :
    ∃ w', (Instr.mapUpdate 190 (.map (some b)) (.string ⟨d.toArray⟩) (extV x)).run Tryz.prog w = .ok () w' ∧ MapK w' b (n + 1) (k ++ [(d, x)]) ∧ w.grownBy w' (some b) := by
  obtain ⟨D, h1, h2⟩ := h
  obtain ⟨w', hr, ho, hg⟩ := h1.update (Maps.string_keyed Tryz.underlying9) Tryz.underlying190 (by unfold maxLen; omega) (key_str d hd) (extR_of x)
  refine ⟨w', hr, ⟨_, ho, fun d' => ?_⟩, hg⟩
  rw [look_snoc k d d' x hk]
  by_cases hdd : d' = d
  · subst hdd
    rw [if_pos rfl, Maps.has_put_same (k := Lit.string d') h1.isMap (show WideAt.IsKeyLit (Lit.string d') from trivial), Maps.atKey_put_same (k := Lit.string d') h1.isMap (show WideAt.IsKeyLit (Lit.string d') from trivial)]
    exact ⟨rfl, rfl⟩
  · rw [if_neg hdd, Maps.has_put_other (fun e => hdd (Lit.string.inj e)), Maps.atKey_put_other (fun e => hdd (Lit.string.inj e))]
    exact h2 d'

def idxStep (k : Known) (c : Chunk) : Known := if (Top.look k c.digest).isSome then k else k ++ [(c.digest, c.ext)]
theorem index_fold (l : List Chunk) : Top.index l = l.foldl idxStep [] := rfl
theorem index_succ {l : List Chunk} {j : Nat} {c : Chunk} (h : l[j]? = some c) : Top.index (l.take (j + 1)) = idxStep (Top.index (l.take j)) c := by
  rw [index_fold, index_fold, List.take_add_one, h, Option.toList_some, List.foldl_append]
  rfl
theorem kbox (w : World) (c : Chunk) : ∃ W, w.alloc (.cells #[.string ⟨c.digest.toArray⟩, .int .i64 c.ext.ses, .int .i64 c.ext.off, .int .i64 c.ext.len] 160) = W ∧ Below w.heap.size w W ∧ W.heap.size = w.heap.size + 1 ∧
    W.cell? ⟨w.heap.size, 0, none⟩ = some (.string ⟨c.digest.toArray⟩) ∧ W.cell? ⟨w.heap.size, 1, none⟩ = some (.int .i64 c.ext.ses) ∧ W.cell? ⟨w.heap.size, 2, none⟩ = some (.int .i64 c.ext.off) ∧ W.cell? ⟨w.heap.size, 3, none⟩ = some (.int .i64 c.ext.len) := by
  have e := heap_alloc_new w (.cells #[.string ⟨c.digest.toArray⟩, .int .i64 c.ext.ses, .int .i64 c.ext.off, .int .i64 c.ext.len] 160)
  exact ⟨_, rfl, (Below.refl _ w).alloc (Nat.le_refl _) _, by simp, tcell e 0 _ rfl, tcell e 1 _ rfl, tcell e 2 _ rfl, tcell e 3 _ rfl⟩

set_option maxHeartbeats 2000000 in
set_option maxRecDepth 100000 in
theorem index_any (v : Value) (s : Store) (w : World) (hs : StoV w v s) (hn : s.chunks.length ≤ 16777216) (hd : ∀ c ∈ s.chunks, c.digest.length ≤ 1000000000) :
    Calls Tryz.prog 122 #[v] w fun e w' => ∃ b, e = .returned (.map (some b)) ∧ w.heap.size ≤ b ∧ MapK w' b s.chunks.length (Top.index s.chunks) ∧ Below w.heap.size w w' := by
  obtain ⟨ca, cc, rfl, hfl⟩ := hs
  obtain ⟨W, hW, hbW, hzW, hblk, d0, d1, d2⟩ := box3 w (.slice ca s.chunks.length cc) (.int .i64 s.ses) (.string ⟨s.stream.toArray⟩) 66
  have HF := Lib.hid hfl
  have HD := Lib.hid hd
  have hM := MapK.made W
  have hbM := hbW.alloc hbW.size (.map #[] 0)
  have d0 := (((Below.refl W.heap.size W).alloc (Nat.le_refl _) (.map #[] 0)).cell (p := ⟨w.heap.size, 0, none⟩) hzW).trans d0
  have hle := hbW.size
  have hmk : (Instr.makeMap 190 none).run Tryz.prog W = .ok (.map (some W.heap.size)) (W.alloc (.map #[] 0)) := by kernel_rfl
  clear hfl hd hblk d1 d2
  go_enter Tryz.func122, Tryz.ntmps122
  go_upto_region 1 with (fail)
  try rw [hW]
  clear hW
  go_wp2_with fail
  go_loopw [12] (fun i wr => ∃ k : Nat, k ≤ s.chunks.length ∧ i = .int .i64 k ∧ Hid (MapK wr W.heap.size k (Top.index (s.chunks.take k))) ∧ Below w.heap.size w wr) (fun i _ => s.chunks.length - (intOf i).toNat)
  case atStart => exact ⟨0, Nat.zero_le _, rfl, hM, hbM⟩
  case round =>
    obtain ⟨k, hk, rfl, hm, hb⟩ := hrel
    by_cases hlt : k < s.chunks.length
    · obtain ⟨c, hc⟩ : ∃ c, s.chunks[k]? = some c := ⟨_, List.getElem?_eq_getElem hlt⟩
      obtain ⟨bk, o, rfl, hcell⟩ := (HF.out.below hb).get hc
      have c0 := hcell 0 _ rfl
      have c1 := hcell 1 _ rfl
      have c2 := hcell 2 _ rfl
      have c3 := hcell 3 _ rfl
      rw [Nat.add_zero] at c0
      have hdl := HD.out c (List.mem_of_getElem? hc)
      have hix := index_succ hc
      obtain ⟨V, hV, hbV, hzV, b0, b1, b2, b3⟩ := kbox wr c
      have hmV : MapK V W.heap.size k (Top.index (s.chunks.take k)) := hm.out.same (hbV.block _ hm.out.lt)
      have hlk := hmV.look c.digest hdl
      have hbV1 := hb.trans (hbV.mono hb.size)
      clear hcell hc
      rcases hlo : Top.look (Top.index (s.chunks.take k)) c.digest with _ | x
      · rw [hlo] at hlk
        have hixn : Top.index (s.chunks.take (k + 1)) = Top.index (s.chunks.take k) ++ [(c.digest, c.ext)] := by
          rw [hix]
          unfold idxStep
          rw [hlo]
          rfl
        have hbX := hbV1.alloc hbV1.size (.cells #[.int .i64 0, .int .i64 0, .int .i64 0] 93)
        have hmX : MapK (V.alloc (.cells #[.int .i64 0, .int .i64 0, .int .i64 0] 93)) W.heap.size k (Top.index (s.chunks.take k)) := hmV.kept (World.grownBy_alloc V _ none) (by simp)
        obtain ⟨w2, hup, hm2, hg2⟩ := hmX.put c.digest c.ext hdl (by omega) hlo
        have hb2 := hbX.grown hg2 hbX.size (fun j e => by injection e with e; omega)
        rw [← hixn] at hm2
        have HM2 := Lib.hid hm2
        replace hlk : (Instr.lookup 190 (.map (some W.heap.size)) (.string ⟨c.digest.toArray⟩) true).run Tryz.prog V = .ok (.tuple #[.agg #[.int .i64 0, .int .i64 0, .int .i64 0], .bool false]) V := hlk
        replace hup : (Instr.mapUpdate 190 (.map (some W.heap.size)) (.string ⟨c.digest.toArray⟩) (.agg #[.int .i64 c.ext.ses, .int .i64 c.ext.off, .int .i64 c.ext.len])).run Tryz.prog (V.alloc (.cells #[.int .i64 0, .int .i64 0, .int .i64 0] 93)) = .ok () w2 := hup
        clear hm2 hixn hix hlo hmX
        go_upto_region 5 with (fail)
        try rw [hV]
        clear hV
        go_wp2_with fail
        go_roundw
        case rel => exact ⟨k + 1, by omega, by go_num, HM2, hb2⟩
        case measure => simp [intOf]; omega
      · rw [hlo] at hlk
        have hixn : Top.index (s.chunks.take (k + 1)) = Top.index (s.chunks.take k) := by
          rw [hix]
          unfold idxStep
          rw [hlo]
          rfl
        have hbX := hbV1.alloc hbV1.size (.cells #[.int .i64 x.ses, .int .i64 x.off, .int .i64 x.len] 93)
        have hmX : MapK (V.alloc (.cells #[.int .i64 x.ses, .int .i64 x.off, .int .i64 x.len] 93)) W.heap.size (k + 1) (Top.index (s.chunks.take k)) := by
          obtain ⟨D, h1, h2⟩ := hmV.kept (World.grownBy_alloc V (.cells #[.int .i64 x.ses, .int .i64 x.off, .int .i64 x.len] 93) none) (by simp)
          exact ⟨D, h1.mono (by omega), h2⟩
        rw [← hixn] at hmX
        have HM2 := Lib.hid hmX
        replace hlk : (Instr.lookup 190 (.map (some W.heap.size)) (.string ⟨c.digest.toArray⟩) true).run Tryz.prog V = .ok (.tuple #[.agg #[.int .i64 x.ses, .int .i64 x.off, .int .i64 x.len], .bool true]) V := hlk
        clear hixn hix hlo hmX
        go_upto_region 5 with (fail)
        try rw [hV]
        clear hV
        go_wp2_with fail
        go_roundw
        case rel => exact ⟨k + 1, by omega, by go_num, HM2, hbX⟩
        case measure => simp [intOf]; omega
    · obtain rfl : k = s.chunks.length := by omega
      have hfin := hm.out
      rw [List.take_length] at hfin
      have HFN := Lib.hid hfin
      clear hfin
      go_wp2_with fail
      go_ret
      exact ⟨_, rfl, hle, HFN.out, hb⟩
end Go.Proofs.YtbhmdcdhklgomaaGreatDoor

/-
  chunkstore.collector: the two functions over one box.
-/
namespace Go.Proofs.YtbhmdcdhklgomaaGreatDoor
open Go.RowKit Go.Shelf Top

theorem info_ext : (Tryz.prog.info? 93).map (fun i => (i.zero, i.size, i.bytes)) = some (some (.agg #[.int .i64 0, .int .i64 0, .int .i64 0]), 3, 24) := by kernel_rfl
theorem extC_len (x : Ext) : (extC x).length = 3 := rfl
theorem extC_one (x : Ext) : ∀ u ∈ extC x, u.oneCell' = true := by
  intro u hu
  simp only [extC, List.mem_cons, List.not_mem_nil, or_false] at hu
  rcases hu with rfl | rfl | rfl <;> rfl
abbrev OwnX := OwnF 93 extC 3

theorem collector_any (w : World) :
    Calls Tryz.prog 123 #[] w fun e w' => e = .returned (.tuple #[.func (.func 149) #[] #[.pointer (some ⟨w.heap.size, 0, none⟩)], .func (.func 150) #[] #[.pointer (some ⟨w.heap.size, 0, none⟩)]]) ∧ w' = w.alloc (.cells #[.slice none 0 0] 41) := by
  go_enter Tryz.func123, Tryz.ntmps123
  go_wp2_with fail
  go_ret2
  exact ⟨rfl, rfl⟩
theorem collected_any (w : World) (b : Nat) (v : Value) (hb : Boxed w b 41 v) (hv : ∃ ao n c, v = .slice ao n c) :
    Calls Tryz.prog 150 #[.pointer (some ⟨b, 0, none⟩)] w fun e w' => e = .returned v ∧ w' = w := by
  obtain ⟨ao, n, c, rfl⟩ := hv
  have hc := hb.cell
  go_enter Tryz.func150, Tryz.ntmps150
  go_wp2_with fail
  go_ret
  exact ⟨rfl, rfl⟩

theorem add_nil (x : Ext) : add [] x = [x] := rfl
theorem add_snoc (l : List Ext) (y x : Ext) : add (l ++ [y]) x = if x.ses ≠ 0 ∧ y.ses = x.ses ∧ y.off + y.len = x.off then l ++ [⟨y.ses, y.off, y.len + x.len⟩] else l ++ [y] ++ [x] := by
  unfold add
  simp only [List.getLast?_append, List.getLast?_singleton, Option.some_or, List.dropLast_concat]
theorem ext_flat_len : ∀ l : List Ext, (l.flatMap extC).length = l.length * 3
  | [] => rfl
  | z :: l => by rw [List.flatMap_cons, List.length_append, ext_flat_len l, extC_len, List.length_cons]; omega
/-- The third cell of the last element of an own row of extents is written. -/
theorem last_set {w : World} {B g n cap : Nat} {l : List Ext} {y : Ext} {m : Int} (h : OwnX w B (.slice (some ⟨g, 0, none⟩) n cap) (l ++ [y])) :
    OwnX (w.setCell ⟨g, l.length * 3 + 2, none⟩ (.int .i64 m)) B (.slice (some ⟨g, 0, none⟩) n cap) (l ++ [⟨y.ses, y.off, m⟩]) := by
  obtain ⟨ao, c2, he, _, _⟩ := h.form
  injection he with h1 h2 h3
  subst h2
  have h : w.ownsRow B 93 3 (.slice (some ⟨g, 0, none⟩) (l ++ [y]).length cap) (l ++ [y]).length ((l ++ [y]).flatMap extC) := h
  obtain ⟨s1, _⟩ := World.ownsRow.stored h (l.length * 3 + 2) (.int .i64 m)
  have e : ((l ++ [y]).flatMap extC).set (l.length * 3 + 2) (.int .i64 m) = (l ++ [(⟨y.ses, y.off, m⟩ : Ext)]).flatMap extC := by
    have hl := ext_flat_len l
    rw [List.flatMap_append, List.flatMap_append, List.set_append_right _ _ (by omega), hl, Nat.add_sub_cancel_left]
    rfl
  rw [e] at s1
  show World.ownsRow _ _ _ _ _ _ _
  simp only [List.length_append, List.length_singleton] at s1 ⊢
  exact s1

theorem list_end {α : Type} (l : List α) : l = [] ∨ ∃ r y, l = r ++ [y] := by
  rcases List.eq_nil_or_concat l with h | ⟨r, y, h⟩
  · exact .inl h
  · exact .inr ⟨r, y, by rw [h, List.concat_eq_append]⟩
/-- What a call of the collector turns: the box, the row that it holds, and new blocks. -/
def CollP (w w' : World) (b : Nat) (v : Value) : Prop := w.heap.size ≤ w'.heap.size ∧ ∀ j, j < w.heap.size → j ≠ b → v.ownBlock ≠ some j → w'.heap[j]? = w.heap[j]?

theorem coll_app {w W w1 : World} {b B : Nat} {v v1 : Value} {out out1 : List Ext} (hbW : Below w.heap.size w W) (hbx : Boxed W b 41 v) (ho : OwnX W B v out) (hB : B ≤ w.heap.size) (hBb : B ≤ b) (h1 : OwnX w1 B v1 out1) (h2 : W.grownBy w1 v.ownBlock) :
    Boxed w1 b 41 v ∧ Boxed (w1.setCell ⟨b, 0, none⟩ v1) b 41 v1 ∧ OwnX (w1.setCell ⟨b, 0, none⟩ v1) B v1 out1 ∧ CollP w (w1.setCell ⟨b, 0, none⟩ v1) b v ∧ Below B w (w1.setCell ⟨b, 0, none⟩ v1) := by
  have hs := hbW.size
  have r1 := hbx.kept h2 (hbx.not_row (by decide) ho)
  have r5 := ((Below.refl B W).grown h2 (by omega) (fun j e => (ho.lt j e).1)).setCell (p := ⟨b, 0, none⟩) hBb v1
  refine ⟨r1, r1.set v1, World.ownsRow.kept h1 (grownBy_setCell' w1 b v1) (.inr (r1.not_row (by decide) h1).symm), ⟨Nat.le_trans hs r5.size, fun j hj hjb hjv => ?_⟩, (hbW.mono hB).trans r5⟩
  have e1 := (grownBy_setCell' w1 b v1).block j (Nat.lt_of_lt_of_le (by omega : j < W.heap.size) h2.size) (fun e => hjb (by injection e))
  have e2 := h2.block j (by omega) (fun e => hjv e.symm)
  exact e1.trans (e2.trans (hbW.block j hj))
theorem coll_set {w W : World} {b B g n cap : Nat} {l : List Ext} {y : Ext} {m : Int} (hbW : Below w.heap.size w W) (hbx : Boxed W b 41 (.slice (some ⟨g, 0, none⟩) n cap)) (ho : OwnX W B (.slice (some ⟨g, 0, none⟩) n cap) (l ++ [y])) (hB : B ≤ w.heap.size) :
    Boxed (W.setCell ⟨g, l.length * 3 + 2, none⟩ (.int .i64 m)) b 41 (.slice (some ⟨g, 0, none⟩) n cap) ∧ OwnX (W.setCell ⟨g, l.length * 3 + 2, none⟩ (.int .i64 m)) B (.slice (some ⟨g, 0, none⟩) n cap) (l ++ [⟨y.ses, y.off, m⟩]) ∧
      CollP w (W.setCell ⟨g, l.length * 3 + 2, none⟩ (.int .i64 m)) b (.slice (some ⟨g, 0, none⟩) n cap) ∧ Below B w (W.setCell ⟨g, l.length * 3 + 2, none⟩ (.int .i64 m)) := by
  have hlt := ho.lt g rfl
  have hne : b ≠ g := fun e => hbx.not_row (by decide) ho (by rw [e]; rfl)
  have r5 := (Below.refl B W).setCell (p := ⟨g, l.length * 3 + 2, none⟩) hlt.1 (.int .i64 m)
  refine ⟨(Below.heap_setCell W ⟨g, l.length * 3 + 2, none⟩ _ b hne).trans hbx, last_set ho, ⟨Nat.le_trans hbW.size r5.size, fun j hj _ hjv => ?_⟩, (hbW.mono hB).trans r5⟩
  have e1 := Below.heap_setCell W ⟨g, l.length * 3 + 2, none⟩ (.int .i64 m) j (fun e => hjv (by rw [e]; rfl))
  exact e1.trans (hbW.block j hj)

theorem OwnF.block {w : World} {α : Type} {E : TypeId} {c : α → List Value} {k B : Nat} {v : Value} {l : List α} (h : OwnF E c k w B v l) {g : Nat} (hv : v.ownBlock = some g) : ∃ cs, w.heap[g]? = some (.cells cs E (0, 0)) := by
  rcases h.2 with ⟨rfl, _⟩ | ⟨g', cap, cur, rfl, _, hg, _⟩
  · cases hv
  · have : g' = g := by simpa [Value.ownBlock] using hv
    subst this
    exact ⟨_, hg⟩
theorem OwnF.succ2 {α : Type} {E : TypeId} {c : α → List Value} {k : Nat} {w : World} {B n : Nat} {v : Value} {l : List α} {x : α} (h : OwnF E c k w B v (l ++ [x])) (hn : l.length = n) : ∃ g cap, v = .slice (some ⟨g, 0, none⟩) (n + 1) cap := by
  subst hn
  exact h.succ
set_option maxHeartbeats 4000000 in
set_option maxRecDepth 100000 in
theorem collect1_any (b B : Nat) (v : Value) (out : List Ext) (x : Ext) (w : World) (hb : Boxed w b 41 v) (ho : OwnX w B v out) (hn : out.length ≤ 16777216) (hB : B ≤ w.heap.size) (hBb : B ≤ b)
    (hy : ∀ y ∈ out, 0 ≤ y.off ∧ y.off ≤ 1152921504606846976 ∧ 0 ≤ y.len ∧ y.len ≤ 1152921504606846976) (hx : 0 ≤ x.len ∧ x.len ≤ 1152921504606846976) :
    Calls Tryz.prog 149 #[extV x, .pointer (some ⟨b, 0, none⟩)] w fun e w' => ∃ v', e = .returned (.tuple #[]) ∧ Boxed w' b 41 v' ∧ OwnX w' B v' (add out x) ∧ CollP w w' b v ∧ Below B w w' := by
  obtain ⟨xs, xo, xl⟩ := x
  simp only at hx
  show Calls _ _ #[.agg #[.int .i64 xs, .int .i64 xo, .int .i64 xl], .pointer (some ⟨b, 0, none⟩)] _ _
  obtain ⟨W, hW, hbW, hzW, hblk, d0, d1, d2⟩ := box3 w (.int .i64 xs) (.int .i64 xo) (.int .i64 xl) 93
  have hbW' : Boxed W b 41 v := (hbW.block b hb.lt).trans hb
  have hoW : OwnX W B v out := ho.kept hbW
  have hc := hbW'.cell
  have HBX := Lib.hid hbW'
  have HO := Lib.hid hoW
  have HBW := Lib.hid hbW
  have HN := Lib.hid hn
  have HB2 := Lib.hid (Nat.le_trans hB hbW.size)
  obtain ⟨ao, cap, rfl, hlc, hcm⟩ := ho.form
  clear hb ho hbW' hoW hbW hblk
  rcases list_end out with rfl | ⟨l, y, rfl⟩
  · go_enter Tryz.func149, Tryz.ntmps149
    go_upto_region 1 with (fail)
    try rw [hW]
    clear hW
    go_wp2_with fail
    go_quiet (fail)
    have HBX : Hid (Boxed (W.drewN nq) b 41 _) := HBX
    have HO : Hid (OwnX (W.drewN nq) B _ _) := HO
    have HBW : Hid (Below w.heap.size w (W.drewN nq)) := Lib.hid (below_drewN HBW.out nq)
    have HB2 : Hid (B ≤ (W.drewN nq).heap.size) := HB2
    have hc : (W.drewN nq).cell? ⟨b, 0, none⟩ = _ := hc
    have d0 : (W.drewN nq).cell? ⟨w.heap.size, 0, none⟩ = _ := d0
    have d1 : (W.drewN nq).cell? ⟨w.heap.size, 1, none⟩ = _ := d1
    have d2 : (W.drewN nq).cell? ⟨w.heap.size, 2, none⟩ = _ := d2
    generalize W.drewN nq = W2 at *
    go_wp2_with (at_builtin; refine wpList_appF 93 41 extC 3 24 _ info_ext Tryz.underlying41 rfl (by decide) (by decide) extC_len extC_one rfl _ _ rfl B _ _ rfl (HO.out) ⟨xs, xo, xl⟩ rfl HN.out HB2.out ?_; intro v1 w1 ho1 _ hg1; obtain ⟨g1, cap1, rfl⟩ := ho1.succ; obtain ⟨r1, r2, r3, r4, r5⟩ := coll_app HBW.out HBX.out HO.out hB hBb ho1 hg1; have e1 := r1.cell; have e2 := r1.frozen)
    try simp only [Exit.inBlock, Exit.then]
    first
      | (go_end0; exact ⟨_, rfl, r2, (by rw [add_nil]; exact r3), r4, r5⟩)
      | (refine bodyPost_ret (results_none rfl _ _ _) rfl ?_; exact ⟨_, rfl, r2, (by rw [add_nil]; exact r3), r4, r5⟩)

  · have hyl := hy y (by simp)
    have hln : (l ++ [y]).length = l.length + 1 := by simp
    rw [hln] at HBX HO hc hlc HN ⊢
    have HNn : Hid ((l ++ [y]).length ≤ 16777216) := by show _ ≤ _; rw [hln]; exact HN.out
    obtain ⟨g, c2, hgg⟩ := (HO.out).succ
    injection hgg with h1 _ h3
    subst h1
    subst h3
    obtain ⟨bk, o, hoo, hcell⟩ := ((HO.out).flat extC_len).get (j := l.length) (x := y) (by simp)
    injection hoo with hoo
    injection hoo with h1 h2
    subst h1 h2
    have y0 := hcell 0 _ rfl
    have y1 := hcell 1 _ rfl
    have y2 := hcell 2 _ rfl
    rw [Nat.add_zero] at y0
    rw [Nat.zero_add] at y0 y1 y2
    have HN := HNn
    have HLN := Lib.hid hln
    clear hy hcell HNn hln
    go_enter Tryz.func149, Tryz.ntmps149
    go_upto_region 1 with (fail)
    try rw [hW]
    clear hW
    by_cases hs : xs = 0
    · subst hs
      have hadd : add (l ++ [y]) ⟨0, xo, xl⟩ = l ++ [y] ++ [⟨0, xo, xl⟩] := by rw [add_snoc, if_neg (fun h => h.1 rfl)]
      have HA := Lib.hid hadd
      clear hadd
      go_wp2_with fail
      go_quiet (fail)
      have HBX : Hid (Boxed (W.drewN nq) b 41 _) := HBX
      have HO : Hid (OwnX (W.drewN nq) B _ _) := HO
      have HBW : Hid (Below w.heap.size w (W.drewN nq)) := Lib.hid (below_drewN HBW.out nq)
      have HB2 : Hid (B ≤ (W.drewN nq).heap.size) := HB2
      have hc : (W.drewN nq).cell? ⟨b, 0, none⟩ = _ := hc
      have d0 : (W.drewN nq).cell? ⟨w.heap.size, 0, none⟩ = _ := d0
      have d1 : (W.drewN nq).cell? ⟨w.heap.size, 1, none⟩ = _ := d1
      have d2 : (W.drewN nq).cell? ⟨w.heap.size, 2, none⟩ = _ := d2
      generalize W.drewN nq = W2 at *
      go_wp2_with (at_builtin; refine wpList_appF 93 41 extC 3 24 _ info_ext Tryz.underlying41 rfl (by decide) (by decide) extC_len extC_one rfl _ _ rfl B _ _ rfl (HO.out) ⟨0, xo, xl⟩ rfl HN.out HB2.out ?_; intro v1 w1 ho1 _ hg1; obtain ⟨g1, cap1, rfl⟩ := ho1.succ2 HLN.out; obtain ⟨r1, r2, r3, r4, r5⟩ := coll_app HBW.out HBX.out HO.out hB hBb ho1 hg1; have e1 := r1.cell; have e2 := r1.frozen)
      try simp only [Exit.inBlock, Exit.then]
      first
        | (go_end0; exact ⟨_, rfl, r2, (by rw [HA.out]; exact r3), r4, r5⟩)
        | (refine bodyPost_ret (results_none rfl _ _ _) rfl ?_; exact ⟨_, rfl, r2, (by rw [HA.out]; exact r3), r4, r5⟩)

    by_cases hs2 : y.ses = xs
    · by_cases hs3 : y.off + y.len = xo
      · have hadd : add (l ++ [y]) ⟨xs, xo, xl⟩ = l ++ [⟨y.ses, y.off, y.len + xl⟩] := by rw [add_snoc, if_pos ⟨hs, hs2, hs3⟩]
        have HA := Lib.hid hadd
        have q1 : (xs != 0) = true := bne_iff_ne.2 hs
        have q2 : (y.ses == xs) = true := beq_iff_eq.2 hs2
        have q3 : (y.off + y.len == xo) = true := beq_iff_eq.2 hs3
        have q4 : IntKind.i64.wrap (y.off + y.len) = y.off + y.len := by rw [IntKind.wrap_i64]; omega
        have q5 : (0 : Int) ≤ (l.length : Int) := by omega
        have q6 : (l.length : Int) < (l.length : Int) + 1 := by omega
        have q7 : IntKind.i64.wrap (y.len + xl) = y.len + xl := by rw [IntKind.wrap_i64]; omega
        clear hadd hs hs2 hs3
        go_wp2_with fail
        go_quiet (fail)
        have HBX : Hid (Boxed (W.drewN nq) b 41 _) := HBX
        have HO : Hid (OwnX (W.drewN nq) B _ _) := HO
        have HBW : Hid (Below w.heap.size w (W.drewN nq)) := Lib.hid (below_drewN HBW.out nq)
        have hc : (W.drewN nq).cell? ⟨b, 0, none⟩ = _ := hc
        have d2 : (W.drewN nq).cell? ⟨w.heap.size, 2, none⟩ = _ := d2
        have y2 : (W.drewN nq).cell? ⟨g, l.length * 3 + 2, none⟩ = _ := y2
        generalize W.drewN nq = W2 at *
        obtain ⟨cs2, hcs2⟩ := (HO.out).block rfl
        have fr := tfree hcs2 (l.length * 3 + 2)
        have HM := Lib.hid (coll_set (m := y.len + xl) HBW.out HBX.out HO.out hB)
        clear hcs2
        go_wp2_with fail
        go_region
        all_goals
          go_wp2_with fail
          obtain ⟨m1, m2, m3, m4⟩ := HM.out
          refine bodyPost_ret (results_none rfl _ _ _) rfl ?_
          rw [HA.out]
          exact ⟨_, rfl, m1, m2, m3, m4.drew⟩
      · have hadd : add (l ++ [y]) ⟨xs, xo, xl⟩ = l ++ [y] ++ [⟨xs, xo, xl⟩] := by rw [add_snoc, if_neg (fun h => hs3 h.2.2)]
        have HA := Lib.hid hadd
        have q1 : (xs != 0) = true := bne_iff_ne.2 hs
        have q2 : (y.ses == xs) = true := beq_iff_eq.2 hs2
        have q3 : (y.off + y.len == xo) = false := beq_eq_false_iff_ne.2 hs3
        have q4 : IntKind.i64.wrap (y.off + y.len) = y.off + y.len := by rw [IntKind.wrap_i64]; omega
        have q5 : (0 : Int) ≤ (l.length : Int) := by omega
        have q6 : (l.length : Int) < (l.length : Int) + 1 := by omega
        clear hadd hs hs2 hs3
        go_wp2_with fail
        go_quiet (fail)
        have HBX : Hid (Boxed (W.drewN nq) b 41 _) := HBX
        have HO : Hid (OwnX (W.drewN nq) B _ _) := HO
        have HBW : Hid (Below w.heap.size w (W.drewN nq)) := Lib.hid (below_drewN HBW.out nq)
        have HB2 : Hid (B ≤ (W.drewN nq).heap.size) := HB2
        have hc : (W.drewN nq).cell? ⟨b, 0, none⟩ = _ := hc
        have d0 : (W.drewN nq).cell? ⟨w.heap.size, 0, none⟩ = _ := d0
        have d1 : (W.drewN nq).cell? ⟨w.heap.size, 1, none⟩ = _ := d1
        have d2 : (W.drewN nq).cell? ⟨w.heap.size, 2, none⟩ = _ := d2
        generalize W.drewN nq = W2 at *
        go_wp2_with (at_builtin; refine wpList_appF 93 41 extC 3 24 _ info_ext Tryz.underlying41 rfl (by decide) (by decide) extC_len extC_one rfl _ _ rfl B _ _ rfl (HO.out) ⟨xs, xo, xl⟩ rfl HN.out HB2.out ?_; intro v1 w1 ho1 _ hg1; obtain ⟨g1, cap1, rfl⟩ := ho1.succ2 HLN.out; obtain ⟨r1, r2, r3, r4, r5⟩ := coll_app HBW.out HBX.out HO.out hB hBb ho1 hg1; have e1 := r1.cell; have e2 := r1.frozen)
        try simp only [Exit.inBlock, Exit.then]
        first
          | (go_end0; exact ⟨_, rfl, r2, (by rw [HA.out]; exact r3), r4, r5⟩)
          | (refine bodyPost_ret (results_none rfl _ _ _) rfl ?_; exact ⟨_, rfl, r2, (by rw [HA.out]; exact r3), r4, r5⟩)

    · have hadd : add (l ++ [y]) ⟨xs, xo, xl⟩ = l ++ [y] ++ [⟨xs, xo, xl⟩] := by rw [add_snoc, if_neg (fun h => hs2 h.2.1)]
      have HA := Lib.hid hadd
      have q1 : (xs != 0) = true := bne_iff_ne.2 hs
      have q2 : (y.ses == xs) = false := beq_eq_false_iff_ne.2 hs2
      have q5 : (0 : Int) ≤ (l.length : Int) := by omega
      have q6 : (l.length : Int) < (l.length : Int) + 1 := by omega
      clear hadd hs hs2
      go_wp2_with fail
      go_quiet (fail)
      have HBX : Hid (Boxed (W.drewN nq) b 41 _) := HBX
      have HO : Hid (OwnX (W.drewN nq) B _ _) := HO
      have HBW : Hid (Below w.heap.size w (W.drewN nq)) := Lib.hid (below_drewN HBW.out nq)
      have HB2 : Hid (B ≤ (W.drewN nq).heap.size) := HB2
      have hc : (W.drewN nq).cell? ⟨b, 0, none⟩ = _ := hc
      have d0 : (W.drewN nq).cell? ⟨w.heap.size, 0, none⟩ = _ := d0
      have d1 : (W.drewN nq).cell? ⟨w.heap.size, 1, none⟩ = _ := d1
      have d2 : (W.drewN nq).cell? ⟨w.heap.size, 2, none⟩ = _ := d2
      generalize W.drewN nq = W2 at *
      go_wp2_with (at_builtin; refine wpList_appF 93 41 extC 3 24 _ info_ext Tryz.underlying41 rfl (by decide) (by decide) extC_len extC_one rfl _ _ rfl B _ _ rfl (HO.out) ⟨xs, xo, xl⟩ rfl HN.out HB2.out ?_; intro v1 w1 ho1 _ hg1; obtain ⟨g1, cap1, rfl⟩ := ho1.succ2 HLN.out; obtain ⟨r1, r2, r3, r4, r5⟩ := coll_app HBW.out HBX.out HO.out hB hBb ho1 hg1; have e1 := r1.cell; have e2 := r1.frozen)
      try simp only [Exit.inBlock, Exit.then]
      first
        | (go_end0; exact ⟨_, rfl, r2, (by rw [HA.out]; exact r3), r4, r5⟩)
        | (refine bodyPost_ret (results_none rfl _ _ _) rfl ?_; exact ⟨_, rfl, r2, (by rw [HA.out]; exact r3), r4, r5⟩)

end Go.Proofs.YtbhmdcdhklgomaaGreatDoor

/-
  session.lastDate.
-/
namespace Go.Proofs.YtbhmdcdhklgomaaGreatDoor
open Go.RowKit Top

theorem arcbox (w : World) (id da sp : Int) (sv : Value) : ∃ W, w.alloc (.cells #[.int .u32 id, .int .i64 da, .int .i64 sp, sv] 30) = W ∧ Below w.heap.size w W ∧ W.heap.size = w.heap.size + 1 ∧ W.heap[w.heap.size]? = some (.cells #[.int .u32 id, .int .i64 da, .int .i64 sp, sv] 30 (0, 0)) ∧
    W.cell? ⟨w.heap.size, 0, none⟩ = some (.int .u32 id) ∧ W.cell? ⟨w.heap.size, 1, none⟩ = some (.int .i64 da) ∧ W.cell? ⟨w.heap.size, 2, none⟩ = some (.int .i64 sp) ∧ W.cell? ⟨w.heap.size, 3, none⟩ = some sv := box4 w _ _ _ _ _
theorem lastD_snoc (r : List Ses) (y : Ses) : lastD (r ++ [y]) = y.date := by simp [lastD]
theorem prevB_snoc (r : List Ses) (y : Ses) : prevB (r ++ [y]) = digestB y := by simp [prevB]

set_option maxHeartbeats 2000000 in
set_option maxRecDepth 100000 in
theorem lastDate_any (v : Value) (l : List Ses) (w : World) (hv : ArcV w v l) :
    Calls Tryz.prog 54 #[v] w fun e w' => e = .returned (.int .i64 (lastD l)) ∧ Below w.heap.size w w' := by
  obtain ⟨id, da, sp, sa, sc, rfl, hs⟩ := hv
  obtain ⟨W, hW, hbW, hzW, hblk, d0, d1, d2, d3⟩ := arcbox w id da sp (.slice sa l.length sc)
  have HS := Lib.hid (hs.below hbW)
  have hl2 : l.length ≤ 9223372036854775807 := by
    obtain ⟨_, _, e, h1, h2⟩ := hs.form
    omega
  clear hs hblk
  go_enter Tryz.func54, Tryz.ntmps54
  go_upto_region 1 with (fail)
  try rw [hW]
  clear hW
  rcases list_end l with rfl | ⟨r, y, rfl⟩
  · go_wp2_with fail
    go_ret
    exact ⟨rfl, hbW⟩
  · have hln : (r ++ [y]).length = r.length + 1 := by simp
    have HLD := Lib.hid (lastD_snoc r y)
    rw [hln] at HS d3 hl2 ⊢
    obtain ⟨bk, o, ea, ec, hoo, _, _, c1, _⟩ := (HS.out).get (j := r.length) (x := y) (by simp)
    subst hoo
    clear hln
    go_wp2_with fail
    go_ret
    rw [HLD.out]
    exact ⟨rfl, hbW⟩
end Go.Proofs.YtbhmdcdhklgomaaGreatDoor
