/-
  The reference's Copy.
-/
import Derived.Test.YtghpolfmhnnbaaaAgOwn
import Derived.Test.YtghpolfmhnnbaaaAgRef1
import Derived.Deep.RegionHeld3
namespace Go.Proofs.Ytghpolfmhnnbaaa
open Go.RowKit

/-- append of strings that are read, at a step of a region that draws. -/
theorem step_appRead {ops : Array Oper} {o : Oper} {a : Act} {K : Act → World → Prop} {Q : Exit → Act → World → Prop} {X : Prop} {w : World} (hgd : o.guard = none) (s x : Operand)
    (ho : o.op = .call { callee := .builtin .append, args := #[s, x], argTypes := #[36, 36] }) (B : Nat) (v : Value) (xs : List (List UInt8)) (hs : a.eval s = v) (hown : Own w B 9 v (strsL xs))
    (ao : Option Addr) (n c : Nat) (ys : List (List UInt8)) (hx : a.eval x = .slice ao n c) (hr : Strs w ao n ys) (hlen : xs.length + n ≤ 8796093022208) (hB : B ≤ w.heap.size)
    (h : ∀ v' w', Own w' B 9 v' (strsL (xs ++ ys)) → Below B w w' → w.grownBy w' v.ownBlock → K (a.put o.dst v') w') :
    if Region.wanted o (yielded ops a.tmps) = true then Oper.wp Try.prog o a w K Q else X := by
  obtain ⟨i, hi, hz0, hz1, hz2⟩ := info_parts info_str
  have hn := hr.1
  have hw : Region.wanted o (yielded ops a.tmps) = true := by simp [Region.wanted, hgd]
  rw [if_pos hw]
  rcases ao with _ | ad
  · obtain ⟨rfl, rfl⟩ := hr.none_
    refine Lib.wp_append_run w s x _ _ ho _ _ hs hx v w (run_app_nil w B _ _ _ i 1 Try.underlying36 hi v _ _ hown c) ?_
    exact h v w (by rw [List.append_nil]; exact hown) (Below.refl _ _) ⟨rfl, rfl, rfl, Nat.le_refl _, fun _ _ _ => rfl⟩
  · refine wp_append_own _ s x 36 ho B 9 i (.string ByteArray.empty) 1 16 Try.underlying36 hi hz0 hz1 hz2 rfl (by decide) v (strsL xs).length (strsL xs) hs hown ad n c (strsL ys) hx (by rw [strsL_length]; omega) ?_ (strsL_one ys) ?_ ?_ hB ?_
    · intro j u hj
      have hjl : j < ys.length := by have := (List.getElem?_eq_some_iff.1 hj).1; rwa [strsL_length] at this
      obtain ⟨y, hy⟩ : ∃ y, ys[j]? = some y := ⟨_, List.getElem?_eq_getElem hjl⟩
      obtain ⟨bk, o, e, hc⟩ := hr.2 j y hy
      injection e with e
      subst e
      rw [strsL_get ys j y hy] at hj
      injection hj with hj
      rw [Addr.add_lit, hc, hj]
    · rw [strsL_length]
      unfold maxLen
      omega
    · rw [strsL_length]
      omega
    · intro v' w' hown' hg _
      refine h v' w' ?_ ((Below.refl B w).grown hg hB fun k hk => (World.ownsRow.lt hown k hk).1) hg
      unfold Own
      rw [strsL_app, List.length_append, strsL_length ys, ← hn]
      exact hown'

set_option maxHeartbeats 4000000 in
theorem rcopy_any (ao : Option Addr) (n cap : Nat) (rs : List Reel) (w : World) (hr : Reels w ao n rs) (hn : n ≤ 65536) (hp : ∀ r ∈ rs, r.ps.length ≤ 65536) :
    Calls Try.prog 12 #[.slice ao n cap] w fun e w' => ∃ v, e = .returned v ∧ OwnRs w' w.heap.size v rs ∧ Below w.heap.size w w' := by
  have HR := Lib.hid hr
  have HP := Lib.hid hp
  obtain ⟨rfl, _⟩ := hr
  clear hp
  go_enter Try.func12, Try.ntmps12
  go_wp2_with fail
  go_loopw [3, 4] (fun v i wr => ∃ k : Nat, k ≤ rs.length ∧ i = .int .i64 k ∧ OwnRs wr w.heap.size v (rs.take k) ∧ Below w.heap.size w wr) (fun _ i _ => rs.length - (intOf i).toNat)
  case atStart => exact ⟨0, Nat.zero_le _, rfl, ⟨[], World.ownsRow_made w #[] 0 (Nat.le_refl _) (by simp [maxLen]) rfl, rfl, fun j r h => by simp at h⟩, (Below.refl _ w).alloc (Nat.le_refl _) _⟩
  case round =>
    obtain ⟨k, hk, rfl, ho, hb⟩ := hrel
    by_cases hlt : k < rs.length
    · obtain ⟨r, hx⟩ : ∃ x, rs[k]? = some x := ⟨_, List.getElem?_eq_getElem hlt⟩
      obtain ⟨b1, o1, hao, hc1, ap, cp, hc2, hcp, hst⟩ := HR.out.2 k r hx
      have hl0 : b1 < w.heap.size := World.block_lt_of_cell? _ _ hc1
      have hc1 := (hb.cell (p := ⟨b1, o1 + k * 2, none⟩) hl0).trans hc1
      have hc2 := (hb.cell (p := ⟨b1, o1 + k * 2 + 1, none⟩) hl0).trans hc2
      have hst := hst.below hb
      subst hao
      have hpl := HP.out r (List.mem_of_getElem? hx)
      have HX := Lib.hid (take_snoc_get hx)
      have hl1 := World.block_lt_of_cell? _ _ hc1
      have hbA : Below wr.heap.size wr (wr.drew.alloc (.cells #[] 9)) := (Below.refl wr.heap.size wr).drew.alloc (Nat.le_refl _) _
      have HBA := Lib.hid hbA
      have HST := Lib.hid (hst.below hbA)
      have HO := Lib.hid ho
      have hsz := hb.size
      have hne : some b1 ≠ u3.ownBlock := fun e => by
        obtain ⟨qs, h1, _⟩ := ho
        have := (World.ownsRow.lt h1 _ e.symm).1
        omega
      have HNE := Lib.hid hne
      have hl6 : (rs.take k).length ≤ 65536 := by rw [List.length_take]; omega
      have h9 : (k : Int) < (rs.length : Int) := by omega
      clear hst hx ho hbA hne
      go_wp2_with fail
      go_region_held3 (fun w' => w'.cell? ⟨b1, o1 + k * 2, none⟩ = some (.int .i64 r.num) ∧ w'.cell? ⟨b1, o1 + k * 2 + 1, none⟩ = some (.slice ap r.ps.length cp))
        (first | go_keep | exact ⟨hy0, hy1⟩ | exact ⟨hx0, hx1⟩)
        (first | (refine step_appRead (by rfl) (.tmp 18) (.tmp 23) (by rfl) wr.heap.size _ [] (by rfl) (Own.made0 wr.drew _ _ (Nat.le_refl _)) ap r.ps.length cp r.ps (by rfl) HST.out (by simp; omega) HBA.out.size ?_; intro v1 w1 hp1 hb1 _; have hbx : Below wr.heap.size wr w1 := HBA.out.trans hb1; have hx0 := (hbx.cell (p := ⟨b1, o1 + k * 2, none⟩) hl1).trans hc1; have hx1 := (hbx.cell (p := ⟨b1, o1 + k * 2 + 1, none⟩) hl1).trans hc2; have hs1 := hbx.size; rw [List.nil_append] at hp1; obtain ⟨aq, cq, rfl, _⟩ := hp1.form) | (refine step_appR (w := w1) (by rfl) (.tmp 12) (.tmp 26) (by rfl) w.heap.size u3 (rs.take k) (by rfl) (HO.out.kept hbx) r _ (Own.more hp1 hsz) (by rfl) (by rfl) hl6 (Nat.le_trans hsz hs1) ?_; intro v' w2 ho2 hb2 hg2; have hy0 := hg2.cell hx0 HNE.out; have hy1 := hg2.cell hx1 HNE.out))
      all_goals
        go_wp2_with fail
        go_roundw
        case rel =>
          rw [← HX.out] at ho2
          have hfin := hb.trans ((hbx.mono hsz).trans hb2)
          first | exact ⟨k + 1, by omega, by go_num, ho2, hfin⟩ | ((repeat apply Exists.intro); exact ⟨⟨k + 1, by omega, by go_num, ho2, hfin⟩, rfl⟩)
        case measure => simp [intOf]; omega
    · obtain rfl : k = rs.length := by omega
      rw [List.take_length] at ho
      go_wp2_with fail
      go_ret
      exact ⟨_, rfl, ho, hb⟩
end Go.Proofs.Ytghpolfmhnnbaaa
