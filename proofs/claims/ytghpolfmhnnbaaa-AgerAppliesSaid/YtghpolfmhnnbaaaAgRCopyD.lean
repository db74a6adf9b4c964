/-
  The reference's Copy: no two reels of the copy share their pieces.
-/
import Derived.Test.YtghpolfmhnnbaaaAgRCopy
import Derived.Test.YtghpolfmhnnbaaaAgApp2
namespace Go.Proofs.Ytghpolfmhnnbaaa
open Go.RowKit

/-- A slice of reels that the call has made; the blocks of the pieces lie below s, and no two are the same. -/
def OwnRsD (w : World) (B s : Nat) (v : Value) (rs : List Reel) : Prop :=
  ∃ qs : List (Int × Value), w.ownsRow B 38 2 v rs.length (reelsC qs) ∧ qs.length = rs.length ∧ (∀ (j : Nat) (r : Reel), rs[j]? = some r → ∃ pv, qs[j]? = some (r.num, pv) ∧ Own w B 9 pv (strsL r.ps)) ∧
    (∀ (i : Nat) (a : Int × Value) (g : Nat), qs[i]? = some a → a.2.ownBlock = some g → g < s) ∧
    ∀ (i j : Nat) (a b : Int × Value) (g : Nat), i < j → qs[i]? = some a → qs[j]? = some b → a.2.ownBlock = some g → b.2.ownBlock ≠ some g
section
variable {w w' : World} {B s : Nat} {v : Value} {rs : List Reel}
theorem OwnRsD.own (h : OwnRsD w B s v rs) : OwnRs w B v rs := by
  obtain ⟨qs, h1, h2, h3, _⟩ := h
  exact ⟨qs, h1, h2, h3⟩
theorem OwnRsD.kept (h : OwnRsD w B s v rs) (hb : Below w.heap.size w w') : OwnRsD w' B s v rs := by
  obtain ⟨qs, h1, h2, h3, h4, h5⟩ := h
  have hg : w.grownBy w' none := ⟨hb.os, hb.tape, hb.output, hb.size, fun k hk _ => hb.block k hk⟩
  refine ⟨qs, World.ownsRow.kept h1 hg ?_, h2, fun j r hj => ?_, h4, h5⟩
  · cases hv : v.ownBlock
    · exact .inl rfl
    · exact .inr (by simp)
  · obtain ⟨pv, h4, h5⟩ := h3 j r hj
    exact ⟨pv, h4, h5.below hb (Nat.le_refl _)⟩
theorem OwnRsD.app {v' : Value} {r : Reel} {pv : Value} {qs : List (Int × Value)} (hBs : B ≤ s) (h1 : w.ownsRow B 38 2 v rs.length (reelsC qs)) (h2 : qs.length = rs.length) (h3 : ∀ (j : Nat) (r : Reel), rs[j]? = some r → ∃ pv, qs[j]? = some (r.num, pv) ∧ Own w B 9 pv (strsL r.ps))
    (h4 : ∀ (i : Nat) (a : Int × Value) (g : Nat), qs[i]? = some a → a.2.ownBlock = some g → g < s)
    (h5 : ∀ (i j : Nat) (a b : Int × Value) (g : Nat), i < j → qs[i]? = some a → qs[j]? = some b → a.2.ownBlock = some g → b.2.ownBlock ≠ some g)
    (hp : Own w s 9 pv (strsL r.ps)) (ho : w'.ownsRow B 38 2 v' (rs.length + 1) (reelsC qs ++ reelC2 (r.num, pv))) (hg : w.grownBy w' v.ownBlock) (hsw : s ≤ w.heap.size) : OwnRsD w' B w'.heap.size v' (rs ++ [r]) := by
  have hpB := hp.more hBs
  have hlt : ∀ g, pv.ownBlock = some g → s ≤ g ∧ g < w.heap.size := fun g hg => World.ownsRow.lt hp g hg
  refine ⟨qs ++ [(r.num, pv)], ?_, by simp [h2], fun j x hj => ?_, fun i a g hi ha => ?_, fun i j a b g hij hi hj ha hb => ?_⟩
  · have e : reelsC (qs ++ [(r.num, pv)]) = reelsC qs ++ reelC2 (r.num, pv) := by simp [reelsC]
    rw [e, List.length_append]
    exact ho
  · rcases Nat.lt_or_ge j rs.length with hl | hl
    · rw [List.getElem?_append_left hl] at hj
      obtain ⟨pv2, h4, h5⟩ := h3 j x hj
      exact ⟨pv2, by rw [List.getElem?_append_left (by omega)]; exact h4, World.ownsRow.kept h5 hg (row_ne h5 h1 type_ne)⟩
    · rw [List.getElem?_append_right hl] at hj
      have hl2 : j - rs.length < 1 := (List.getElem?_eq_some_iff.1 hj).1
      have hj0 : j = rs.length := by omega
      subst hj0
      rw [Nat.sub_self] at hj
      obtain rfl : r = x := by simpa using hj
      exact ⟨pv, by rw [← h2, List.getElem?_append_right (Nat.le_refl _), Nat.sub_self]; rfl, World.ownsRow.kept hpB hg (row_ne hpB h1 type_ne)⟩
  · have hsz := hg.size
    rcases Nat.lt_or_ge i qs.length with hl | hl
    · rw [List.getElem?_append_left hl] at hi
      have := h4 i a g hi ha
      omega
    · rw [List.getElem?_append_right hl] at hi
      have hl2 : i - qs.length < 1 := (List.getElem?_eq_some_iff.1 hi).1
      have hi0 : i - qs.length = 0 := by omega
      rw [hi0] at hi
      obtain rfl : (r.num, pv) = a := by simpa using hi
      have := hlt g ha
      omega
  · have hjl := (List.getElem?_eq_some_iff.1 hj).1
    rw [List.length_append, List.length_singleton] at hjl
    rw [List.getElem?_append_left (by omega)] at hi
    rcases Nat.lt_or_ge j qs.length with hl | hl
    · rw [List.getElem?_append_left hl] at hj
      exact h5 i j a b g hij hi hj ha hb
    · rw [List.getElem?_append_right hl] at hj
      have hj0 : j - qs.length = 0 := by omega
      rw [hj0] at hj
      obtain rfl : (r.num, pv) = b := by simpa using hj
      have := hlt g hb
      have := h4 i a g hi ha
      omega
/-- One piece overwritten where it lies. -/
theorem OwnRsD.setp {g n c j i gp m cp : Nat} {r : Reel} (y : List UInt8) (h : OwnRsD w B s (.slice (some ⟨g, 0, none⟩) n c) rs) (hj : rs[j]? = some r) (hc : w.cell? ⟨g, j * 2 + 1, none⟩ = some (.slice (some ⟨gp, 0, none⟩) m cp)) :
    OwnRsD (w.setCell ⟨gp, i, none⟩ (.string ⟨y.toArray⟩)) B s (.slice (some ⟨g, 0, none⟩) n c) (rs.set j ⟨r.num, r.ps.set i y⟩) ∧
      (w.setCell ⟨gp, i, none⟩ (.string ⟨y.toArray⟩)).cell? ⟨g, j * 2 + 1, none⟩ = some (.slice (some ⟨gp, 0, none⟩) m cp) := by
  have hjl := (List.getElem?_eq_some_iff.1 hj).1
  obtain ⟨qs, h1, h2, h3, h4, h5⟩ := h
  obtain ⟨pv, hq, hp⟩ := h3 j r hj
  have hrow := World.ownsRow.cells h1 (g := g) rfl
  have hf := flat_get reelC2 2 reelC2_len qs j 1 _ hq (by omega)
  have hpv : pv = .slice (some ⟨gp, 0, none⟩) m cp := by
    have := hrow (j * 2 + 1) _ (hf.trans rfl)
    rw [Addr.add_lit, Nat.zero_add, hc] at this
    injection this with this
    exact this.symm
  have hpb : pv.ownBlock = some gp := by rw [hpv]; rfl
  have hne : (Value.slice (some ⟨g, 0, none⟩) n c).ownBlock = none ∨ (Value.slice (some ⟨g, 0, none⟩) n c).ownBlock ≠ some gp := by
    rw [← hpb]
    exact row_ne h1 hp (fun e => type_ne e.symm)
  have hg : w.grownBy (w.setCell ⟨gp, i, none⟩ (.string ⟨y.toArray⟩)) (some gp) := ⟨rfl, rfl, rfl, by simp [World.setCell], fun k hk hne => Below.heap_setCell w ⟨gp, i, none⟩ _ k (fun e => hne (by rw [e]))⟩
  refine ⟨⟨qs, ?_, by rw [List.length_set]; exact h2, fun i' r' hi' => ?_, h4, h5⟩, ?_⟩
  · rw [List.length_set]
    exact World.ownsRow.kept h1 hg hne
  · rw [List.getElem?_set] at hi'
    by_cases hij : j = i'
    · subst hij
      rw [if_pos rfl, if_pos hjl] at hi'
      injection hi' with hi'
      subst hi'
      refine ⟨pv, hq, ?_⟩
      subst hpv
      have := Own.store hp i (.string ⟨y.toArray⟩)
      rwa [strsL_set] at this
    · rw [if_neg hij] at hi'
      obtain ⟨pv2, hq2, hp2⟩ := h3 i' r' hi'
      refine ⟨pv2, hq2, World.ownsRow.kept hp2 hg (.inr fun e => ?_)⟩
      rcases Nat.lt_or_gt_of_ne hij with hlt | hlt
      · exact h5 j i' _ _ gp hlt hq hq2 hpb e
      · exact h5 i' j _ _ gp hlt hq2 hq e hpb
  · rcases hne with e | e
    · cases e
    · have hgn : g ≠ gp := fun h => e (by rw [h]; rfl)
      exact hg.cell hc (fun e => hgn (by injection e))
end
/-- append of one reel, which the walk has laid in a block of its own. -/
theorem step_appRD {ops : Array Oper} {o : Oper} {a : Act} {K : Act → World → Prop} {Q : Exit → Act → World → Prop} {X : Prop} {w W : World} (hgd : o.guard = none) (s x : Operand)
    (ho : o.op = .call { callee := .builtin .append, args := #[s, x], argTypes := #[22, 22] }) (B S : Nat) (v : Value) (rs : List Reel) (hs : a.eval s = v) (hown : OwnRsD w B S v rs) (r : Reel) (pv : Value) (hp : Own w S 9 pv (strsL r.ps))
    (hW : W = w.alloc (.cells #[.int .i64 r.num, pv] 38)) (hx : a.eval x = .slice (some ⟨w.heap.size, 0, none⟩) 1 1) (hn : rs.length ≤ 65536) (hB : B ≤ S) (hS : S ≤ w.heap.size)
    (h : ∀ v' w', OwnRsD w' B w'.heap.size v' (rs ++ [r]) → Below B w w' → w.grownBy w' v.ownBlock → K (a.put o.dst v') w') :
    if Region.wanted o (yielded ops a.tmps) = true then Oper.wp Try.prog o a W K Q else X := by
  subst hW
  obtain ⟨i, hi, hz0, hz1, hz2⟩ := info_parts info_reel
  have hw : Region.wanted o (yielded ops a.tmps) = true := by simp [Region.wanted, hgd]
  rw [if_pos hw]
  obtain ⟨qs, h1, h2, h3, h4, h5⟩ := hown
  refine wp_append_lies _ s x 22 ho B 38 i _ 2 32 Try.underlying22 hi hz0 hz1 hz2 rfl (by omega) v rs.length (reelsC qs) hs (World.ownsRow.alloc h1 _) ⟨w.heap.size, 0, none⟩ 1 1 (reelC2 (r.num, pv)) hx rfl (World.news_of_block (heap_alloc_new w _)) (reelC2_one (hp.more hB)) (by omega) (by unfold maxLen; omega) (by omega) (by simp; omega) _ rfl ?_
  intro g cap w' hown' hg _ _
  have hg' : w.grownBy w' v.ownBlock := ⟨hg.os, hg.tape, hg.output, Nat.le_trans (by simp) hg.size, fun k hk hne => (hg.block k (by simp; omega) hne).trans (Below.heap_alloc w _ k hk)⟩
  exact h _ w' (OwnRsD.app hB h1 h2 h3 h4 h5 hp hown' hg' hS) ((Below.refl B w).grown hg' (Nat.le_trans hB hS) fun k hk => (World.ownsRow.lt h1 k hk).1) hg'

set_option maxHeartbeats 4000000 in
theorem rcopyD_any (ao : Option Addr) (n cap : Nat) (rs : List Reel) (w : World) (hr : Reels w ao n rs) (hn : n ≤ 65536) (hp : ∀ r ∈ rs, r.ps.length ≤ 65536) :
    Calls Try.prog 12 #[.slice ao n cap] w fun e w' => ∃ v, e = .returned v ∧ OwnRsD w' w.heap.size w'.heap.size v rs ∧ Below w.heap.size w w' := by
  have HR := Lib.hid hr
  have HP := Lib.hid hp
  obtain ⟨rfl, _⟩ := hr
  clear hp
  go_enter Try.func12, Try.ntmps12
  go_wp2_with fail
  go_loopw [3, 4] (fun v i wr => ∃ k : Nat, k ≤ rs.length ∧ i = .int .i64 k ∧ OwnRsD wr w.heap.size wr.heap.size v (rs.take k) ∧ Below w.heap.size w wr) (fun _ i _ => rs.length - (intOf i).toNat)
  case atStart => exact ⟨0, Nat.zero_le _, rfl, ⟨[], World.ownsRow_made w #[] 0 (Nat.le_refl _) (by simp [maxLen]) rfl, rfl, fun j r h => by simp at h, fun i a g h => by simp at h, fun i j a b g _ h => by simp at h⟩, (Below.refl _ w).alloc (Nat.le_refl _) _⟩
  case round =>
    obtain ⟨k, hk, rfl, ho, hb⟩ := hrel
    by_cases hlt : k < rs.length
    · obtain ⟨r, hx⟩ : ∃ x, rs[k]? = some x := ⟨_, List.getElem?_eq_getElem hlt⟩
      obtain ⟨b1, o1, hao, hc1, ap, cp, hc2, hcp, hst⟩ := HR.out.2 k r hx
      have hl0 : b1 < w.heap.size := World.block_lt_of_cell? _ _ hc1
      have hc1 := (hb.cell (p := ⟨b1, o1 + k * 2, none⟩) hl0).trans hc1
      have hc2 := (hb.cell (p := ⟨b1, o1 + k * 2 + 1, none⟩) hl0).trans hc2
      have hst := hst.below hb
      subst hao
      have hpl := HP.out r (List.mem_of_getElem? hx)
      have HX := Lib.hid (take_snoc_get hx)
      have hl1 := World.block_lt_of_cell? _ _ hc1
      have hbA : Below wr.heap.size wr (wr.drew.alloc (.cells #[] 9)) := (Below.refl wr.heap.size wr).drew.alloc (Nat.le_refl _) _
      have HBA := Lib.hid hbA
      have HST := Lib.hid (hst.below hbA)
      have HO := Lib.hid ho
      have hsz := hb.size
      have hne : some b1 ≠ u3.ownBlock := fun e => by
        obtain ⟨qs, h1, _⟩ := ho
        have := (World.ownsRow.lt h1 _ e.symm).1
        omega
      have HNE := Lib.hid hne
      have hl6 : (rs.take k).length ≤ 65536 := by rw [List.length_take]; omega
      have h9 : (k : Int) < (rs.length : Int) := by omega
      clear hst hx ho hbA hne
      go_wp2_with fail
      go_region_held3 (fun w' => w'.cell? ⟨b1, o1 + k * 2, none⟩ = some (.int .i64 r.num) ∧ w'.cell? ⟨b1, o1 + k * 2 + 1, none⟩ = some (.slice ap r.ps.length cp))
        (first | go_keep | exact ⟨hy0, hy1⟩ | exact ⟨hx0, hx1⟩)
        (first | (refine step_appRead (by rfl) (.tmp 18) (.tmp 23) (by rfl) wr.heap.size _ [] (by rfl) (Own.made0 wr.drew _ _ (Nat.le_refl _)) ap r.ps.length cp r.ps (by rfl) HST.out (by simp; omega) HBA.out.size ?_; intro v1 w1 hp1 hb1 _; have hbx : Below wr.heap.size wr w1 := HBA.out.trans hb1; have hx0 := (hbx.cell (p := ⟨b1, o1 + k * 2, none⟩) hl1).trans hc1; have hx1 := (hbx.cell (p := ⟨b1, o1 + k * 2 + 1, none⟩) hl1).trans hc2; have hs1 := hbx.size; rw [List.nil_append] at hp1; obtain ⟨aq, cq, rfl, _⟩ := hp1.form) | (refine step_appRD (w := w1) (by rfl) (.tmp 12) (.tmp 26) (by rfl) w.heap.size wr.heap.size u3 (rs.take k) (by rfl) (HO.out.kept hbx) r _ hp1 (by rfl) (by rfl) hl6 hsz hs1 ?_; intro v' w2 ho2 hb2 hg2; have hy0 := hg2.cell hx0 HNE.out; have hy1 := hg2.cell hx1 HNE.out))
      all_goals
        go_wp2_with fail
        go_roundw
        case rel =>
          rw [← HX.out] at ho2
          have hfin := hb.trans ((hbx.mono hsz).trans hb2)
          first | exact ⟨k + 1, by omega, by go_num, ho2, hfin⟩ | ((repeat apply Exists.intro); exact ⟨⟨k + 1, by omega, by go_num, ho2, hfin⟩, rfl⟩)
        case measure => simp [intOf]; omega
    · obtain rfl : k = rs.length := by omega
      rw [List.take_length] at ho
      go_wp2_with fail
      go_ret
      exact ⟨_, rfl, ho, hb⟩
end Go.Proofs.Ytghpolfmhnnbaaa
