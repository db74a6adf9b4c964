/-
  The walk of Wrap.
-/
import Derived.Test.YtbfgjngljggbpaaDoorParIter
import Derived.Test.YtbfgjngljggbpaaDoorQuietRound
namespace Go.Proofs.YtbfgjngljggbpaaDoor
open Go.RowKit Go.Shelf
attribute [local go_sem] Oper.semAt_some

theorem info_strS : (Tryd.prog.info? 9).map (fun i => (i.zero, i.size, i.bytes)) = some (some (.string ByteArray.empty), 1, 16) := info_str

/-- 'out = append(out, p)' where out lies in box B: behind the append and the store. -/
theorem boxed_app {W w1 : World} {n0 N0 B : Nat} {v v' : Value} {xs ys : List Value} {tmp : Obj} (hv : Boxed W B 22 v) (hrow : Own W N0 9 v xs) (hn : n0 ≤ N0) (hN : N0 ≤ W.heap.size) (hB : n0 ≤ B)
    (hown' : Own w1 N0 9 v' ys) (hgrow : (W.alloc tmp).grownBy w1 v.ownBlock) :
    Boxed w1 B 22 v ∧ Boxed (w1.setCell ⟨B, 0, none⟩ v') B 22 v' ∧ Own (w1.setCell ⟨B, 0, none⟩ v') N0 9 v' ys ∧ KeepsOthers W (w1.setCell ⟨B, 0, none⟩ v') ∧ Below n0 W (w1.setCell ⟨B, 0, none⟩ v') ∧ KeptBut N0 B W (w1.setCell ⟨B, 0, none⟩ v') := by
  obtain ⟨h1, h2, _, h4, h5⟩ := Boxed.appended (tmp := tmp) hv (by decide) (hrow.more hn) (Nat.le_trans hn hN) hB (hown'.more hn) hgrow
  have hs1 : W.heap.size ≤ w1.heap.size := Nat.le_trans (by simp) hgrow.size
  refine ⟨h1, h2, ?_, h4, h5, ?_, ?_⟩
  · have := World.ownsRow.kept hown' (grownBy_setCell' w1 B v') (.inr (h1.not_row (by decide) hown').symm)
    exact this
  · exact Nat.le_trans hs1 (grownBy_setCell' w1 B v').size
  · intro j hj hb
    have e1 := (grownBy_setCell' w1 B v').block j (by omega) (fun e => hb (by injection e))
    have e2 := hgrow.block j (by simp; omega) (fun e => by
      rcases hrow.2 with ⟨rfl, _⟩ | ⟨g, cap, cur, rfl, hg, _⟩
      · simp [Value.ownBlock] at e
      · have : j = g := by simpa [Value.ownBlock] using e
        omega)
    exact e1.trans (e2.trans (Below.heap_alloc W tmp j (by omega)))
/-- 'out[i] = s' where out lies in box B. -/
theorem boxed_put {W : World} {n0 N0 B g n cap i : Nat} {u : Value} {xs : List Value} (hv : Boxed W B 22 (.slice (some ⟨g, 0, none⟩) n cap)) (hrow : Own W N0 9 (.slice (some ⟨g, 0, none⟩) n cap) xs) (hn : n0 ≤ N0) :
    Boxed (W.setCell ⟨g, i, none⟩ u) B 22 (.slice (some ⟨g, 0, none⟩) n cap) ∧ Own (W.setCell ⟨g, i, none⟩ u) N0 9 (.slice (some ⟨g, 0, none⟩) n cap) (xs.set i u) ∧ KeepsOthers W (W.setCell ⟨g, i, none⟩ u) ∧ Below n0 W (W.setCell ⟨g, i, none⟩ u) ∧ KeptBut N0 B W (W.setCell ⟨g, i, none⟩ u) := by
  have hg := hrow.lt
  have hne : g ≠ B := fun e => by
    have := hv.not_row (by decide) hrow
    exact this (by simp [Value.ownBlock, e])
  refine ⟨?_, hrow.store i u, KeepsOthers.setCell _ _ _, (Below.refl _ _).setCell (p := ⟨g, i, none⟩) (by show n0 ≤ g; omega) _, (by simp), fun j hj _ => ?_⟩
  · exact (Below.heap_setCell W ⟨g, i, none⟩ u B (fun e => hne e.symm)).trans hv
  · exact Below.heap_setCell W ⟨g, i, none⟩ u j (by show j ≠ g; omega)

theorem own_of {W : World} {B n : Nat} {E : TypeId} {v : Value} {xs : List Value} (h : W.ownsRow B E 1 v n xs) (hn : n = xs.length) : Own W B E v xs := by
  subst hn
  exact h
/-- Behind some draws. -/
theorem drew_facts {W : World} {n0 N0 B : Nat} (nq : Nat) : KeepsOthers W (W.drewN nq) ∧ Below n0 W (W.drewN nq) ∧ KeptBut N0 B W (W.drewN nq) := ⟨⟨Nat.le_refl _, fun _ _ h _ => h⟩, below_drewN (Below.refl _ _) nq, Nat.le_refl _, fun _ _ _ => rfl⟩

def parV (ws : List (List UInt8)) (width : Int) : List (List UInt8) := if Par.perr ws width = 0 then Par.wrap width.toNat ws else []

set_option maxHeartbeats 1000000 in
theorem wrap_bad (ao : Option Addr) (n cap : Nat) (ws : List (List UInt8)) (width : Int) (w : World) (hr : Strs w ao n ws) (hn : n ≤ 1048576) (hall : ∀ x ∈ ws, x.length ≤ 1048576) (hE : Par.perr ws width ≠ 0) :
    Calls Tryd.prog 7 #[.slice ao n cap, .int .i64 width] w fun e w' => ∃ v, e = .returned (.tuple #[v, .int .i64 (Par.perr ws width)]) ∧ Own w' w.heap.size 9 v (strsL (parV ws width)) ∧ Below w.heap.size w w' := by
  rw [parV, if_neg hE]
  have hck := fun w (hr : Strs w ao n ws) => parCheck_any ao n cap ws width w hr (by omega) (fun x hx => by have := hall x hx; omega)
  have hr1 := hr.below ((Below.refl _ w).alloc (Nat.le_refl _) (.cells #[.int .i64 width] 3))
  have hne : (Par.perr ws width != 0) = true := bne_iff_ne.2 hE
  generalize Par.perr ws width = E at *
  go_enter Tryd.func7, Tryd.ntmps7
  go_wp2_with fail
  refine (hck _ hr1).mono ?_
  rintro e w1 ⟨rfl, rfl⟩
  go_wp2_with fail
  go_ret2
  exact ⟨_, rfl, Own.nil _ _ _, (Below.refl _ _).alloc (Nat.le_refl _) _⟩

set_option maxHeartbeats 4000000 in
set_option maxRecDepth 100000 in
theorem wrap_ok (ao : Option Addr) (n cap : Nat) (ws : List (List UInt8)) (wd : Nat) (w : World) (hr : Strs w ao n ws) (hn : n ≤ 1048576) (hall : ∀ x ∈ ws, x.length ≤ 1048576) (hE : Par.perr ws wd = 0) (hN : (Par.pieces wd ws).length ≤ 1073741824) :
    Calls Tryd.prog 7 #[.slice ao n cap, .int .i64 wd] w fun e w' => ∃ v, e = .returned (.tuple #[v, .int .i64 0]) ∧ Own w' w.heap.size 9 v (strsL (Par.wrap wd ws)) ∧ Below w.heap.size w w' := by
  have hck := fun w (hr : Strs w ao n ws) => parCheck_any ao n cap ws wd w hr (by omega) (fun x hx => by have := hall x hx; omega)
  have hr1 := hr.below ((Below.refl _ w).alloc (Nat.le_refl _) (.cells #[.int .i64 wd] 3))
  have hwd : 1 ≤ wd ∧ wd ≤ 200 := by
    unfold Par.perr at hE
    split at hE
    · omega
    · omega
  rw [hE] at hck
  clear hE
  have HR := Lib.hid hr
  have HA := Lib.hid hall
  have HN := Lib.hid hN
  clear hr hall hN
  refine (callsIn_wide (n := 5)).1 ?_
  refine callsIn_of_wp_marks Tryd.func7 rfl trivial ?_ rfl
  simp only [Tryd.ntmps7, List.size_toArray, List.length_cons, List.length_nil, Nat.reduceAdd, Nat.reduceSub, Array.replicate_succ, Array.replicate_zero, List.push_toArray, List.append_toArray, List.nil_append, List.cons_append]
  gi_wp2
  refine ⟨trivial, ?_⟩
  refine (callsIn_wide.2 (hck _ hr1)).mono ?_
  rintro e w1 ⟨rfl, rfl⟩
  gi_wp2
  refine ⟨trivial, ?_⟩
  refine (callsIn_wide.2 (pieces_any ao n cap wd _)).mono ?_
  rintro e w2 ⟨rfl, rfl⟩
  gi_wp2
  have hb4 : Below w.heap.size w ((((w.alloc (Obj.cells #[Value.int IntKind.i64 wd] 3)).alloc (Obj.cells #[Value.slice none 0 0] 22)).alloc (Obj.cells #[Value.slice ao n cap] 22)).alloc (Obj.cells #[Value.int IntKind.i64 wd] 3)) := ((((Below.refl _ w).alloc (Nat.le_refl _) _).alloc (by simp) _).alloc (by simp; omega) _).alloc (by simp; omega) _
  have B0 : Boxed ((((w.alloc (Obj.cells #[Value.int IntKind.i64 wd] 3)).alloc (Obj.cells #[Value.slice none 0 0] 22)).alloc (Obj.cells #[Value.slice ao n cap] 22)).alloc (Obj.cells #[Value.int IntKind.i64 wd] 3)) w.heap.size 3 (.int .i64 wd) := (((Boxed.new w _ _).alloc _).alloc _).alloc _
  have B1 : Boxed ((((w.alloc (Obj.cells #[Value.int IntKind.i64 wd] 3)).alloc (Obj.cells #[Value.slice none 0 0] 22)).alloc (Obj.cells #[Value.slice ao n cap] 22)).alloc (Obj.cells #[Value.int IntKind.i64 wd] 3)) (w.heap.size + 1) 22 (.slice none 0 0) := by
    have h := ((Boxed.new (w.alloc (Obj.cells #[Value.int IntKind.i64 wd] 3)) 22 (.slice none 0 0)).alloc (Obj.cells #[Value.slice ao n cap] 22)).alloc (Obj.cells #[Value.int IntKind.i64 wd] 3)
    rwa [World.size_alloc] at h
  have B2 : Boxed ((((w.alloc (Obj.cells #[Value.int IntKind.i64 wd] 3)).alloc (Obj.cells #[Value.slice none 0 0] 22)).alloc (Obj.cells #[Value.slice ao n cap] 22)).alloc (Obj.cells #[Value.int IntKind.i64 wd] 3)) (w.heap.size + 1 + 1) 22 (.slice ao n cap) := by
    have h := (Boxed.new ((w.alloc (Obj.cells #[Value.int IntKind.i64 wd] 3)).alloc (Obj.cells #[Value.slice none 0 0] 22)) 22 (.slice ao n cap)).alloc (Obj.cells #[Value.int IntKind.i64 wd] 3)
    rwa [World.size_alloc, World.size_alloc] at h
  have B3 : Boxed ((((w.alloc (Obj.cells #[Value.int IntKind.i64 wd] 3)).alloc (Obj.cells #[Value.slice none 0 0] 22)).alloc (Obj.cells #[Value.slice ao n cap] 22)).alloc (Obj.cells #[Value.int IntKind.i64 wd] 3)) (w.heap.size + 1 + 1 + 1) 3 (.int .i64 wd) := by
    have h := Boxed.new (((w.alloc (Obj.cells #[Value.int IntKind.i64 wd] 3)).alloc (Obj.cells #[Value.slice none 0 0] 22)).alloc (Obj.cells #[Value.slice ao n cap] 22)) 3 (.int .i64 wd)
    rwa [World.size_alloc, World.size_alloc, World.size_alloc] at h
  have hsz : ((((w.alloc (Obj.cells #[Value.int IntKind.i64 wd] 3)).alloc (Obj.cells #[Value.slice none 0 0] 22)).alloc (Obj.cells #[Value.slice ao n cap] 22)).alloc (Obj.cells #[Value.int IntKind.i64 wd] 3)).heap.size = w.heap.size + 4 := by simp
  generalize (((w.alloc (Obj.cells #[Value.int IntKind.i64 wd] 3)).alloc (Obj.cells #[Value.slice none 0 0] 22)).alloc (Obj.cells #[Value.slice ao n cap] 22)).alloc (Obj.cells #[Value.int IntKind.i64 wd] 3) = w4 at *
  obtain ⟨rfl, hrd⟩ := HR.out
  have hwords : ∀ (j : Nat) (x : List UInt8), ws[j]? = some x → ∃ bk o, ao = some ⟨bk, o, none⟩ ∧ bk < w4.heap.size ∧ bk ≠ w.heap.size + 1 ∧ w4.cell? ⟨bk, o + j, none⟩ = some (.string ⟨x.toArray⟩) := fun j x hj => by
    obtain ⟨bk, o, e, hc⟩ := hrd j x hj
    have hlt : bk < w.heap.size := World.block_lt_of_cell? _ _ hc
    exact ⟨bk, o, e, by omega, by omega, (hb4.cell (p := ⟨bk, o + j, none⟩) hlt).trans hc⟩
  have hstops := pieces_stops 4 (by omega) w4.heap.size (w.heap.size + 1) (w.heap.size + 1 + 1) (w.heap.size + 1 + 1 + 1) ao cap ws wd w4 (Nat.le_refl _) ⟨by omega, by omega⟩ ⟨by omega, by omega⟩ B2.cell B3.cell hwords hwd.1 hwd.2 hn HA.out
  clear hrd hwords B2 B3 hck hr1
  refine wpIn_rangeFunc_ownF rfl (by omega) (gf := 31) (lb := #[.pointer (some ⟨w.heap.size + 1 + 1, 0, none⟩), .pointer (some ⟨w.heap.size + 1 + 1 + 1, 0, none⟩)]) rfl trivial (enters_of Tryd.func31 (by kernel_rfl) rfl)
    hstops (fun h k => h.trans k) (keptBut_b (Nat.le_refl _)) (Below.refl _ _) (fun _ => rfl)
    (fun pre W => (∃ v, Boxed W (w.heap.size + 1) 22 v ∧ Own W w4.heap.size 9 v (strsL (Par.lines wd (pre.map Piece.l))) ∧ True) ∧ (Boxed W w.heap.size 3 (.int .i64 wd) ∧ (Below w.heap.size w W ∧ w4.heap.size ≤ W.heap.size)))
    (fun _ _ _ => False)
    (OwnFrom.and (Go.Own.from (holdsRow_own w4.heap.size (w.heap.size + 1) 22 9 1 (fun pre : List Piece => (strsL (Par.lines wd (pre.map Piece.l))).length) (fun pre => strsL (Par.lines wd (pre.map Piece.l))) (fun _ _ => True)) _) (OwnFrom.and (Go.Own.from (boxed_own w.heap.size 3 (fun _ => .int .i64 wd)) _) (OwnFrom.and (ownFrom_below (Nat.le_refl _) (by omega)) (fun _ _ _ _ h hg _ => Nat.le_trans h hg.size))))
    (fun _ _ _ _ _ hs _ _ => hs)
    ⟨⟨_, B1, Own.nil _ _ _, trivial⟩, B0, hb4, Nat.le_refl _⟩
    (fun x => { tmps := #[.slice ao ws.length cap, .int .i64 wd, undef, .pointer (some ⟨w.heap.size, 0, none⟩), .slice none 0 0, .int .i64 0, .int .i64 0, .pointer (some ⟨w.heap.size + 1, 0, none⟩), .string x.1, undef, .slice ao ws.length cap, .int .i64 wd, .int .i64 0, .int .i64 0, .bool false, undef, .slice ao ws.length cap, .int .i64 wd, .func (.func 31) #[] #[.pointer (some ⟨w.heap.size + 1 + 1, 0, none⟩), .pointer (some ⟨w.heap.size + 1 + 1 + 1, 0, none⟩)], .string x.1, undef, undef, undef, undef, undef, undef, undef, undef, undef, undef, undef, undef, undef, undef, undef, undef, undef, undef, undef, undef, undef, undef, undef, undef, undef, undef, undef, undef, undef, undef, undef], defers := [] }) ?assign ?body ?done ?stop
  case assign =>
    intro l x W K hK
    gi_wp2
    exact hK
  case body =>
    rintro l pre x W ⟨⟨v, hv, hrow, _⟩, hw0, hB, hB4⟩ hlen
    obtain ⟨i0, hi, hz0, hz1, hz2⟩ := info_parts info_str
    have hnext := Par.lines_snoc wd (pre.map Piece.l) x.l
    have hmap : (pre ++ [x]).map Piece.l = pre.map Piece.l ++ [x.l] := by simp
    rw [← hmap] at hnext
    have hxl : x.l.length = x.1.size := toList_length _
    have hx2 := x.2
    have hle := Par.lines_le (w := wd) (K := 200) hwd.2 (ps := pre.map Piece.l) (fun p hp => by
      obtain ⟨y, _, rfl⟩ := List.mem_map.1 hp
      have h1 : y.l.length = y.1.size := toList_length _
      have := y.2
      omega)
    have hcnt := Par.lines_count wd (pre.map Piece.l)
    rw [List.length_map] at hcnt
    have hN := HN.out
    have HNX := Lib.hid hnext
    clear hnext hmap
    generalize Par.lines wd (pre.map Piece.l) = xs at *
    have hl0 : (strsL xs).length ≤ 1073741824 := by rw [strsL_length]; omega
    have hcw := hw0.cell
    rcases Par.snoc_cases xs with rfl | ⟨ys, y, rfl⟩
    · obtain ⟨ao2, cap2, e2, _⟩ := hrow.form
      have e3 : v = .slice ao2 0 cap2 := e2
      subst e3
      clear e2
      have hstep : Hid (Par.lines wd ((pre ++ [x]).map Piece.l) = [] ++ [x.l]) := by show _ = _; rw [HNX.out, Par.step_nil]; rfl
      have hcv := hv.cell
      gi_wp2
      refine wpIn_region_quietR (by kernel_rfl) (by kernel_rfl) (by kernel_rfl) ?_
      repeat (gi_big_quiet_step (fail))
      refine wpQuietIn_nil ?_
      rintro _ ⟨nq, rfl⟩
      obtain ⟨dk, db, dp⟩ := drew_facts (W := W) (n0 := w.heap.size) (N0 := w4.heap.size) (B := w.heap.size + 1) nq
      have v2 : Boxed (W.drewN nq) (w.heap.size + 1) 22 _ := hv
      have r2 : Own (W.drewN nq) w4.heap.size 9 _ _ := hrow
      have x2 : Boxed (W.drewN nq) w.heap.size 3 (.int .i64 wd) := hw0
      have s2 : w4.heap.size ≤ (W.drewN nq).heap.size := hB4
      have B2 := hB.trans db
      have hcv2 := v2.cell
      generalize W.drewN nq = W2 at *
      gi_wp2_with (gi_at_builtin; refine wpListIn_append_own _ rfl _ _ 22 rfl w4.heap.size 9 i0 (.string ByteArray.empty) 1 16 Tryd.underlying22 hi hz0 hz1 hz2 rfl (by decide) _ _ _ rfl (World.ownsRow.alloc r2 _) ⟨W2.heap.size, 0, none⟩ 1 1 [.string x.1] rfl rfl (cell_one_new _ _ _) (by simp [Value.oneCell']) (by unfold maxLen; omega) (by omega) (by simp; omega) ?_; intro v' w5 hown' hgrow _; obtain ⟨g', cap', rfl⟩ := ownsRow_succ hown'; obtain ⟨hv1, hv3, hr3, hk3, hb3, hp3⟩ := boxed_app (n0 := w.heap.size) v2 r2 (by omega) s2 (by omega) (own_of hown' (by simp)) hgrow; have hc1 := hv1.cell; have hf1 := hv1.frozen)
      have hx3 : Boxed _ w.heap.size 3 (.int .i64 wd) := (hp3.2 w.heap.size (by omega) (by omega)).trans x2
      have hln : strsL [] ++ [Value.string x.1] = strsL (Par.lines wd ((pre ++ [x]).map Piece.l)) := by
        rw [hstep.out, ← strsL_snoc [] x.l]
        show _ = _ ++ [Value.string ⟨x.1.data.toList.toArray⟩]
        rw [mk_toList]
      rw [hln] at hr3
      exact ⟨dk.trans hk3, dp.trans hp3, ⟨_, hv3, hr3, trivial⟩, hx3, B2.trans hb3, Nat.le_trans s2 hp3.1⟩
    · obtain ⟨ao2, cap2, e2, hao⟩ := hrow.form
      have e4 : (strsL (ys ++ [y])).length = ys.length + 1 := by rw [strsL_length]; simp
      rw [e4] at e2 hao hl0
      obtain ⟨g, rfl⟩ := hao (by omega)
      subst e2
      have hyl := hle y (by simp)
      have hcell := hrow.cell ys.length (.string ⟨y.toArray⟩) (strsL_get _ _ _ (by simp))
      have hYs : (⟨y.toArray⟩ : ByteArray).size = y.length := mk_size y
      have hYd : (⟨y.toArray⟩ : ByteArray).data.toList = y := rfl
      have HYd := Lib.hid hYd
      have hstep := Par.step_snoc wd ys y x.l
      rw [← HNX.out] at hstep
      have hcv := hv.cell
      generalize (⟨y.toArray⟩ : ByteArray) = Y at *
      by_cases hfit : Y.size + 1 + x.1.size ≤ wd
      · rw [if_pos (by omega)] at hstep
        have HST := Lib.hid hstep
        clear hstep hYd
        gi_wp2
        refine wpIn_region_quietR (by kernel_rfl) (by kernel_rfl) (by kernel_rfl) ?_
        repeat (gi_big_quiet_step (fail))
        refine wpQuietIn_nil ?_
        rintro _ ⟨nq, rfl⟩
        obtain ⟨dk, db, dp⟩ := drew_facts (W := W) (n0 := w.heap.size) (N0 := w4.heap.size) (B := w.heap.size + 1) nq
        have v2 : Boxed (W.drewN nq) (w.heap.size + 1) 22 _ := hv
        have r2 : Own (W.drewN nq) w4.heap.size 9 _ _ := hrow
        have x2 : Boxed (W.drewN nq) w.heap.size 3 (.int .i64 wd) := hw0
        have s2 : w4.heap.size ≤ (W.drewN nq).heap.size := hB4
        have B2 := hB.trans db
        have hcv2 := v2.cell
        have hcell2 : (W.drewN nq).cell? ⟨g, ys.length, none⟩ = some (.string Y) := hcell
        generalize W.drewN nq = W2 at *
        have hfr := r2.frozen ys.length
        have hz1 : ((⟨#[32]⟩ : ByteArray) ++ x.1).size = 1 + x.1.size := by rw [ByteArray.size_append]; rfl
        gi_wp2
        obtain ⟨hv3, hr3, hk3, hb3, hp3⟩ := boxed_put (n0 := w.heap.size) (i := ys.length) (u := .string (Y ++ ((⟨#[32]⟩ : ByteArray) ++ x.1))) v2 r2 (by omega)
        have hx3 : Boxed _ w.heap.size 3 (.int .i64 wd) := (hp3.2 w.heap.size (by omega) (by omega)).trans x2
        have hln : (strsL (ys ++ [y])).set ys.length (.string (Y ++ ((⟨#[32]⟩ : ByteArray) ++ x.1))) = strsL (Par.lines wd ((pre ++ [x]).map Piece.l)) := by
          rw [HST.out, ← strsL_snoc, ← strsL_snoc, ← strsL_length ys, List.set_append_right _ _ (Nat.le_refl _), Nat.sub_self, List.set_cons_zero]
          refine congrArg (fun z => _ ++ [Value.string z]) (of_toList ?_)
          rw [app_data, app_data, HYd.out]
          rfl
        rw [hln] at hr3
        exact ⟨dk.trans hk3, dp.trans hp3, ⟨_, hv3, hr3, trivial⟩, hx3, B2.trans hb3, Nat.le_trans s2 hp3.1⟩
      · rw [if_neg (by omega)] at hstep
        have hstep := Lib.hid hstep
        clear hYd
        gi_wp2
        refine wpIn_region_quietR (by kernel_rfl) (by kernel_rfl) (by kernel_rfl) ?_
        repeat (gi_big_quiet_step (fail))
        refine wpQuietIn_nil ?_
        rintro _ ⟨nq, rfl⟩
        obtain ⟨dk, db, dp⟩ := drew_facts (W := W) (n0 := w.heap.size) (N0 := w4.heap.size) (B := w.heap.size + 1) nq
        have v2 : Boxed (W.drewN nq) (w.heap.size + 1) 22 _ := hv
        have r2 : Own (W.drewN nq) w4.heap.size 9 _ _ := hrow
        have x2 : Boxed (W.drewN nq) w.heap.size 3 (.int .i64 wd) := hw0
        have s2 : w4.heap.size ≤ (W.drewN nq).heap.size := hB4
        have B2 := hB.trans db
        have hcv2 := v2.cell
        have hcell2 : (W.drewN nq).cell? ⟨g, ys.length, none⟩ = some (.string Y) := hcell
        generalize W.drewN nq = W2 at *
        gi_wp2_with (gi_at_builtin; refine wpListIn_append_own _ rfl _ _ 22 rfl w4.heap.size 9 i0 (.string ByteArray.empty) 1 16 Tryd.underlying22 hi hz0 hz1 hz2 rfl (by decide) _ _ _ rfl (World.ownsRow.alloc r2 _) ⟨W2.heap.size, 0, none⟩ 1 1 [.string x.1] rfl rfl (cell_one_new _ _ _) (by simp [Value.oneCell']) (by unfold maxLen; omega) (by omega) (by simp; omega) ?_; intro v' w5 hown' hgrow _; obtain ⟨g', cap', rfl⟩ := ownsRow_succ hown'; obtain ⟨hv1, hv3, hr3, hk3, hb3, hp3⟩ := boxed_app (n0 := w.heap.size) v2 r2 (by omega) s2 (by omega) (own_of hown' (by simp)) hgrow; have hc1 := hv1.cell; have hf1 := hv1.frozen)
        have hx3 : Boxed _ w.heap.size 3 (.int .i64 wd) := (hp3.2 w.heap.size (by omega) (by omega)).trans x2
        have hln : strsL (ys ++ [y]) ++ [Value.string x.1] = strsL (Par.lines wd ((pre ++ [x]).map Piece.l)) := by
          rw [hstep.out, ← strsL_snoc (ys ++ [y]) x.l]
          show _ = _ ++ [Value.string ⟨x.1.data.toList.toArray⟩]
          rw [mk_toList]
        rw [hln] at hr3
        rw [e4] at hv3 hr3 hk3 hb3 hp3 hx3
        exact ⟨dk.trans hk3, dp.trans hp3, ⟨_, hv3, hr3, trivial⟩, hx3, B2.trans hb3, Nat.le_trans s2 hp3.1⟩
  case done =>
    rintro D xs W hD hxs ⟨⟨v, hv, hrow, _⟩, hw0, hB, hB4⟩ hK
    rw [hxs] at hrow
    clear hxs
    obtain ⟨ao2, cap2, rfl, _⟩ := hrow.form
    have hcv := hv.cell
    gi_wp2
    refine ⟨by simp, .inl ⟨_, _, rfl, run_takeDeferred hK, ?_⟩⟩
    refine ⟨_, results_tmp2 rfl _ _ _, _, rfl, ?_, hB.trans (belowK_b (w := w) (Nat.le_refl _) W D _ _ (by omega) hK rfl rfl)⟩
    exact (Own.more (B := w4.heap.size) (own_of (ownsRow_putObj hrow _ hK rfl) rfl) (by omega))
  case stop =>
    rintro D c pre W _ _ h _
    exact h.elim

theorem wrap_any (ao : Option Addr) (n cap : Nat) (ws : List (List UInt8)) (width : Int) (w : World) (hr : Strs w ao n ws) (hn : n ≤ 1048576) (hall : ∀ x ∈ ws, x.length ≤ 1048576) (hN : Par.perr ws width = 0 → (Par.pieces width.toNat ws).length ≤ 1073741824) :
    Calls Tryd.prog 7 #[.slice ao n cap, .int .i64 width] w fun e w' => ∃ v, e = .returned (.tuple #[v, .int .i64 (Par.perr ws width)]) ∧ Own w' w.heap.size 9 v (strsL (parV ws width)) ∧ Below w.heap.size w w' := by
  by_cases hE : Par.perr ws width = 0
  · obtain ⟨wd, rfl⟩ : ∃ wd : Nat, width = wd := by
      refine ⟨width.toNat, ?_⟩
      unfold Par.perr at hE
      split at hE
      · omega
      · omega
    have h := wrap_ok ao n cap ws wd w hr hn hall hE (by simpa using hN hE)
    rw [hE, parV, if_pos hE]
    exact h
  · exact wrap_bad ao n cap ws width w hr hn hall hE
end Go.Proofs.YtbfgjngljggbpaaDoor
