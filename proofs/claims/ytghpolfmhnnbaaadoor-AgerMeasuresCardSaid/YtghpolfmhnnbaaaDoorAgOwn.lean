/-
  Slices of reels that the call has made; ager.copies.
-/
import Derived.Test.YtghpolfmhnnbaaaDoorAgSlices
import Derived.Deep.RegionHeld3
namespace Go.Proofs.YtghpolfmhnnbaaaDoor
open Go.RowKit

def reelC2 (q : Int × Value) : List Value := [.int .i64 q.1, q.2]
theorem reelC2_len (q : Int × Value) : (reelC2 q).length = 2 := rfl
def reelsC (qs : List (Int × Value)) : List Value := qs.flatMap reelC2
/-- A slice of reels that the call has made, and its pieces, too. -/
def OwnRs (w : World) (B : Nat) (v : Value) (rs : List Reel) : Prop :=
  ∃ qs : List (Int × Value), w.ownsRow B 26 2 v rs.length (reelsC qs) ∧ qs.length = rs.length ∧ ∀ (j : Nat) (r : Reel), rs[j]? = some r → ∃ pv, qs[j]? = some (r.num, pv) ∧ Own w B 9 pv (strsL r.ps)
theorem row_ne {w : World} {B1 B2 : Nat} {e1 e2 : TypeId} {k1 k2 n1 n2 : Nat} {v1 v2 : Value} {xs ys : List Value} (h1 : w.ownsRow B1 e1 k1 v1 n1 xs) (h2 : w.ownsRow B2 e2 k2 v2 n2 ys) (hne : e1 ≠ e2) : v1.ownBlock = none ∨ v1.ownBlock ≠ v2.ownBlock := by
  rcases h1.2 with ⟨rfl, _⟩ | ⟨g, cap, cur, rfl, _, hh, _⟩
  · exact .inl rfl
  · right
    rcases h2.2 with ⟨rfl, _⟩ | ⟨g', cap', cur', rfl, _, hh', _⟩
    · simp [Value.ownBlock]
    · intro e
      have : g = g' := by simpa [Value.ownBlock] using e
      subst this
      rw [hh] at hh'
      injection hh' with hh'
      injection hh' with _ ht
      exact hne ht
theorem type_ne : 9 ≠ 26 := by decide
section
variable {w w' : World} {B : Nat} {v : Value} {rs : List Reel}
theorem OwnRs.nil (w : World) (B : Nat) : OwnRs w B (.slice none 0 0) [] := ⟨[], World.ownsRow_nil _ _ _ _, rfl, fun j r h => by simp at h⟩
theorem OwnRs.kept (h : OwnRs w B v rs) (hb : Below w.heap.size w w') : OwnRs w' B v rs := by
  obtain ⟨qs, h1, h2, h3⟩ := h
  have hg : w.grownBy w' none := ⟨hb.os, hb.tape, hb.output, hb.size, fun k hk _ => hb.block k hk⟩
  refine ⟨qs, World.ownsRow.kept h1 hg ?_, h2, fun j r hj => ?_⟩
  · cases hv : v.ownBlock
    · exact .inl rfl
    · exact .inr (by simp)
  · obtain ⟨pv, h4, h5⟩ := h3 j r hj
    exact ⟨pv, h4, h5.below hb (Nat.le_refl _)⟩
theorem OwnRs.form (h : OwnRs w B v rs) : ∃ ao cap, v = .slice ao rs.length cap ∧ rs.length ≤ cap ∧ cap ≤ maxLen ∧ (0 < rs.length → ∃ g, ao = some ⟨g, 0, none⟩ ∧ B ≤ g ∧ g < w.heap.size) := by
  obtain ⟨qs, h1, h2, h3⟩ := h
  rcases h1.2 with ⟨rfl, hn⟩ | ⟨g, cap, cur, rfl, hb, hh, hc, hm, _⟩
  · exact ⟨none, 0, by rw [hn], by omega, by simp [maxLen], fun h => by omega⟩
  · exact ⟨_, cap, rfl, hc, hm, fun _ => ⟨g, rfl, hb, (Array.getElem?_eq_some_iff.1 hh).1⟩⟩
theorem OwnRs.more {B' : Nat} (h : OwnRs w B v rs) (hB : B' ≤ B) : OwnRs w B' v rs := by
  obtain ⟨qs, h1, h2, h3⟩ := h
  refine ⟨qs, ⟨h1.1, ?_⟩, h2, fun j r hj => ?_⟩
  · rcases h1.2 with hn | ⟨g, cap, cur, rfl, hb, rest⟩
    · exact .inl hn
    · exact .inr ⟨g, cap, cur, rfl, by omega, rest⟩
  · obtain ⟨pv, h4, h5⟩ := h3 j r hj
    exact ⟨pv, h4, h5.more hB⟩
theorem OwnRs.read {ao : Option Addr} {n c : Nat} (h : OwnRs w B (.slice ao n c) rs) : Reels w ao n rs := by
  obtain ⟨ao', cap', e, _⟩ := h.form
  have hn : n = rs.length := by injection e
  refine ⟨hn, fun j r hj => ?_⟩
  have hl : j < rs.length := (List.getElem?_eq_some_iff.1 hj).1
  obtain ⟨qs, h1, h2, h3⟩ := h
  obtain ⟨g, cap, hv, _, _⟩ := World.ownsRow.form h1 (by omega)
  have hao : ao = some ⟨g, 0, none⟩ := by injection hv
  subst hao
  have hc := World.ownsRow.cells h1 (g := g) rfl
  obtain ⟨pv, hq, ho⟩ := h3 j r hj
  have hf := fun i hi => flat_get reelC2 2 reelC2_len qs j i _ hq hi
  obtain ⟨ap, cp, rfl, _⟩ := ho.form
  rw [strsL_length] at ho hq hf
  have hcp : r.ps.length ≤ cp := by
    rcases ho.2 with ⟨e, _⟩ | ⟨g', cap', cur, e, _, _, h5, _⟩
    · injection e with _ e2 e3
      omega
    · injection e with _ e2 e3
      rw [strsL_length] at e2 h5
      omega
  refine ⟨g, 0, rfl, ?_, ap, cp, ?_, hcp, ho.read⟩
  · have := hc (j * 2) _ ((hf 0 (by omega)).trans rfl)
    rwa [Addr.add_lit] at this
  · have := hc (j * 2 + 1) _ ((hf 1 (by omega)).trans rfl)
    rwa [Addr.add_lit] at this
theorem reelC2_one {pv : Value} {l : List Value} {w : World} {B : Nat} {n : Int} (h : Own w B 9 pv l) : ∀ u ∈ reelC2 (n, pv), u.oneCell' = true := by
  obtain ⟨ap, cp, rfl, _⟩ := h.form
  intro u hu
  simp only [reelC2, List.mem_cons, List.not_mem_nil, or_false] at hu
  rcases hu with rfl | rfl <;> rfl
/-- Behind an append of a reel. -/
theorem OwnRs.app {v' : Value} {r : Reel} {pv : Value} {qs : List (Int × Value)} (h1 : w.ownsRow B 26 2 v rs.length (reelsC qs)) (h2 : qs.length = rs.length) (h3 : ∀ (j : Nat) (r : Reel), rs[j]? = some r → ∃ pv, qs[j]? = some (r.num, pv) ∧ Own w B 9 pv (strsL r.ps))
    (hp : Own w B 9 pv (strsL r.ps)) (ho : w'.ownsRow B 26 2 v' (rs.length + 1) (reelsC qs ++ reelC2 (r.num, pv))) (hg : w.grownBy w' v.ownBlock) : OwnRs w' B v' (rs ++ [r]) := by
  refine ⟨qs ++ [(r.num, pv)], ?_, by simp [h2], fun j x hj => ?_⟩
  · have e : reelsC (qs ++ [(r.num, pv)]) = reelsC qs ++ reelC2 (r.num, pv) := by simp [reelsC]
    rw [e, List.length_append]
    exact ho
  · rcases Nat.lt_or_ge j rs.length with hl | hl
    · rw [List.getElem?_append_left hl] at hj
      obtain ⟨pv2, h4, h5⟩ := h3 j x hj
      exact ⟨pv2, by rw [List.getElem?_append_left (by omega)]; exact h4, World.ownsRow.kept h5 hg (row_ne h5 h1 type_ne)⟩
    · rw [List.getElem?_append_right hl] at hj
      have hl2 : j - rs.length < 1 := (List.getElem?_eq_some_iff.1 hj).1
      have hj0 : j = rs.length := by omega
      subst hj0
      rw [Nat.sub_self] at hj
      obtain rfl : r = x := by simpa using hj
      exact ⟨pv, by rw [← h2, List.getElem?_append_right (Nat.le_refl _), Nat.sub_self]; rfl, World.ownsRow.kept hp hg (row_ne hp h1 type_ne)⟩
end
/-- append of one reel, which the walk has laid in a block of its own, at a step of a region that draws. -/
theorem step_appR {ops : Array Oper} {o : Oper} {a : Act} {K : Act → World → Prop} {Q : Exit → Act → World → Prop} {X : Prop} {w W : World} (hgd : o.guard = none) (s x : Operand)
    (ho : o.op = .call { callee := .builtin .append, args := #[s, x], argTypes := #[22, 22] }) (B : Nat) (v : Value) (rs : List Reel) (hs : a.eval s = v) (hown : OwnRs w B v rs) (r : Reel) (pv : Value) (hp : Own w B 9 pv (strsL r.ps))
    (hW : W = w.alloc (.cells #[.int .i64 r.num, pv] 26)) (hx : a.eval x = .slice (some ⟨w.heap.size, 0, none⟩) 1 1) (hn : rs.length ≤ 65536) (hB : B ≤ w.heap.size)
    (h : ∀ v' w', OwnRs w' B v' (rs ++ [r]) → Below B w w' → w.grownBy w' v.ownBlock → K (a.put o.dst v') w') :
    if Region.wanted o (yielded ops a.tmps) = true then Oper.wp Tryd.prog o a W K Q else X := by
  subst hW
  obtain ⟨i, hi, hz0, hz1, hz2⟩ := info_parts info_reel
  have hw : Region.wanted o (yielded ops a.tmps) = true := by simp [Region.wanted, hgd]
  rw [if_pos hw]
  obtain ⟨qs, h1, h2, h3⟩ := hown
  refine wp_append_lies _ s x 22 ho B 26 i _ 2 32 Tryd.underlying22 hi hz0 hz1 hz2 rfl (by omega) v rs.length (reelsC qs) hs (World.ownsRow.alloc h1 _) ⟨w.heap.size, 0, none⟩ 1 1 (reelC2 (r.num, pv)) hx rfl (World.news_of_block (heap_alloc_new w _)) (reelC2_one hp) (by omega) (by unfold maxLen; omega) (by omega) (by simp; omega) _ rfl ?_
  intro g cap w' hown' hg _ _
  have hg' : w.grownBy w' v.ownBlock := ⟨hg.os, hg.tape, hg.output, Nat.le_trans (by simp) hg.size, fun k hk hne => (hg.block k (by simp; omega) hne).trans (Below.heap_alloc w _ k hk)⟩
  exact h _ w' (OwnRs.app h1 h2 h3 hp hown' hg') ((Below.refl B w).grown hg' hB fun k hk => (World.ownsRow.lt h1 k hk).1) hg'

theorem rbox (w : World) (k : Int) (pv : Value) : ∃ W, w.alloc (.cells #[.int .i64 k, pv] 26) = W ∧ Below w.heap.size w W ∧ W.heap.size = w.heap.size + 1 ∧ W.cell? ⟨w.heap.size, 0, none⟩ = some (.int .i64 k) ∧ W.cell? ⟨w.heap.size, 1, none⟩ = some pv := by
  have h := heap_alloc_new w (.cells #[.int .i64 k, pv] 26)
  exact ⟨_, rfl, (Below.refl _ w).alloc (Nat.le_refl _) _, by simp, blk_cell h 0 _ rfl, blk_cell h 1 _ rfl⟩
theorem take_snoc_get {α : Type} {l : List α} {k : Nat} {x : α} (h : l[k]? = some x) : l.take (k + 1) = l.take k ++ [x] := by
  rw [List.take_add_one, h]
  rfl

theorem clone_form (ao : Option Addr) (n c : Nat) (ps : List (List UInt8)) (w : World) (hr : Strs w ao n ps) (hn : n ≤ 1048576) :
    Calls Tryd.prog 25 #[.slice ao n c] w fun e w' => ∃ aq cq, e = .returned (.slice aq n cq) ∧ Own w' w.heap.size 9 (.slice aq n cq) (strsL ps) ∧ Below w.heap.size w w' := by
  refine (clone_any ao n c ps w hr hn).mono ?_
  rintro e w' ⟨v, rfl, ho, hb⟩
  obtain ⟨aq, cq, rfl, _⟩ := ho.form
  rw [strsL_length, ← hr.1] at ho ⊢
  exact ⟨aq, cq, rfl, ho, hb⟩

set_option maxHeartbeats 4000000 in
set_option maxRecDepth 100000 in
theorem copies_any (ao : Option Addr) (n cap : Nat) (rs : List Reel) (w : World) (hr : Reels w ao n rs) (hn : n ≤ 65536) (hp : ∀ r ∈ rs, r.ps.length ≤ 65536) :
    Calls Tryd.prog 12 #[.slice ao n cap] w fun e w' => ∃ v, e = .returned v ∧ OwnRs w' w.heap.size v rs ∧ Below w.heap.size w w' := by
  have HR := Lib.hid hr
  have HP := Lib.hid hp
  obtain ⟨rfl, _⟩ := hr
  clear hp
  go_enter Tryd.func12, Tryd.ntmps12
  go_wp2_with fail
  go_loopw [3, 8] (fun v i wr => ∃ k : Nat, k ≤ rs.length ∧ i = .int .i64 k ∧ OwnRs wr w.heap.size v (rs.take k) ∧ Below w.heap.size w wr) (fun _ i _ => rs.length - (intOf i).toNat)
  case atStart => exact ⟨0, Nat.zero_le _, rfl, OwnRs.nil _ _, Below.refl _ _⟩
  case round =>
    obtain ⟨k, hk, rfl, ho, hb⟩ := hrel
    by_cases hlt : k < rs.length
    · obtain ⟨r, hx⟩ : ∃ x, rs[k]? = some x := ⟨_, List.getElem?_eq_getElem hlt⟩
      obtain ⟨b1, o1, hao, hc1, ap, cp, hc2, hcp, hst⟩ := (HR.out.below hb).2 k r hx
      subst hao
      have hpl := HP.out r (List.mem_of_getElem? hx)
      have HX := Lib.hid (take_snoc_get hx)
      obtain ⟨W, hW, hbW, hzW, d0, d1⟩ := rbox wr r.num (.slice ap r.ps.length cp)
      have hlw : wr.heap.size < W.heap.size := by omega
      have hcl := clone_form ap r.ps.length cp r.ps W.drew ((hst.below hbW).below (Below.refl _ W).drew) (by omega)
      have HC := Lib.hid hcl
      have HO := Lib.hid (ho.kept hbW)
      have hbb := hb.trans (hbW.mono hb.size)
      have hsz := hb.size
      have hsz2 : w.heap.size ≤ W.heap.size := by omega
      have hne : some wr.heap.size ≠ u3.ownBlock := fun e => by
        obtain ⟨qs, h1, _⟩ := ho
        have := (World.ownsRow.lt h1 _ e.symm).2
        omega
      have HNE := Lib.hid hne
      have hl6 : (rs.take k).length ≤ 65536 := by rw [List.length_take]; omega
      clear hst hx ho hcl hzW hne
      go_wp2_with fail
      go_region_held3 (fun w' => w'.cell? ⟨wr.heap.size, 0, none⟩ = some (.int .i64 r.num) ∧ w'.cell? ⟨wr.heap.size, 1, none⟩ = some (.slice ap r.ps.length cp))
        (first | go_keep | exact ⟨hy0, hy1⟩ | exact ⟨hx0, hx1⟩)
        (first | (go_at_call 25; refine HC.out.mono ?_; rintro e w1 ⟨aq, cq, rfl, hpo, hb1⟩; have hbx : Below W.heap.size W w1 := (Below.refl W.heap.size W).drew.trans hb1; have hx0 := (hbx.cell (p := ⟨wr.heap.size, 0, none⟩) hlw).trans d0; have hx1 := (hbx.cell (p := ⟨wr.heap.size, 1, none⟩) hlw).trans d1; have hs1 := hbx.size) | (refine step_appR (w := w1) (by rfl) (.tmp 12) (.tmp 19) (by rfl) w.heap.size u3 (rs.take k) (by rfl) (HO.out.kept hbx) r (.slice aq r.ps.length cq) (Own.more hpo hsz2) (by rfl) (by rfl) hl6 (Nat.le_trans hsz2 hs1) ?_; intro v' w2 ho2 hb2 hg2; have hy0 := hg2.cell hx0 HNE.out; have hy1 := hg2.cell hx1 HNE.out))
      go_wp2_with fail
      go_roundw
      case rel =>
        rw [← HX.out] at ho2
        have hfin := hbb.trans ((hbx.mono hsz2).trans hb2)
        first | exact ⟨k + 1, by omega, by go_num, ho2, hfin⟩ | ((repeat apply Exists.intro); exact ⟨⟨k + 1, by omega, by go_num, ho2, hfin⟩, rfl⟩)
      case measure => simp [intOf]; omega
    · obtain rfl : k = rs.length := by omega
      rw [List.take_length] at ho
      go_wp2_with fail
      go_ret
      exact ⟨_, rfl, ho, hb⟩
end Go.Proofs.YtghpolfmhnnbaaaDoor
