/-
  Slices of strings: append of a slice that is read; slices.Clone, Grow of nil, Concat of three; ager.replace, steleref59.pieces.
-/
import Derived.Test.YtghpolfmhnnbaaaDoorAgMem
import Derived.Test.YtghpolfmhnnbaaaDoorAgSame
import Derived.Laws.AppendOwnNone
import Derived.Lib.AppendZerosOnto
import Derived.Lib.SliceRun
import Derived.StillTailTactics
namespace Go.Proofs.YtghpolfmhnnbaaaDoor
open Go.RowKit

theorem strsL_app (a b : List (List UInt8)) : strsL (a ++ b) = strsL a ++ strsL b := by simp [strsL]
theorem strsL_one (l : List (List UInt8)) : ∀ u ∈ strsL l, u.oneCell' = true := by
  intro u hu
  obtain ⟨x, _, rfl⟩ := List.mem_map.1 hu
  rfl
theorem Strs.none_ {w : World} {n : Nat} {xs : List (List UInt8)} (h : Strs w none n xs) : xs = [] ∧ n = 0 := by
  cases xs with
  | nil => exact ⟨rfl, h.1⟩
  | cons x r =>
    obtain ⟨bk, o, e, _⟩ := h.2 0 x rfl
    cases e
theorem run_app_nil {P : Program} (w : World) (base : Nat) (t ty e : TypeId) (i : TypeInfo) (size : Nat) (ht : P.underlying t = some (.slice e)) (hi : P.info? e = some i)
    (v : Value) (n : Nat) (xs : List Value) (hown : w.ownsRow base e size v n xs) (c : Nat) : (Builtin.append_ #[t, t] ty #[v, .slice none 0 c]).run P w = .ok v w := by
  rcases hown.2 with ⟨rfl, rfl⟩ | ⟨g, cap, cur, rfl, _, _, hnc, _⟩
  · simp [Builtin.append_, run_underlying ht, sizeOf, typeInfo, hi, Builtin.lenOf, Builtin.firstCells]
  · simp [Builtin.append_, run_underlying ht, sizeOf, typeInfo, hi, Builtin.lenOf, Builtin.firstCells, hnc, storeCells]
/-- append(a, b...), a the call's own, b read. -/
theorem wpList_appRead {ops : Array Oper} {rest : List Oper} {o : Oper} {a : Act} {Q : Exit → Act → World → Prop} {w : World} (hgd : o.guard = none) (s x : Operand)
    (ho : o.op = .call { callee := .builtin .append, args := #[s, x], argTypes := #[24, 24] }) (B : Nat) (v : Value) (xs : List (List UInt8)) (hs : a.eval s = v) (hown : Own w B 9 v (strsL xs))
    (ao : Option Addr) (n c : Nat) (ys : List (List UInt8)) (hx : a.eval x = .slice ao n c) (hr : Strs w ao n ys) (hlen : xs.length + n ≤ 8796093022208) (hB : B ≤ w.heap.size)
    (h : ∀ v' w', Own w' B 9 v' (strsL (xs ++ ys)) → Below B w w' → w.grownBy w' v.ownBlock → wpList Tryd.prog ops Q rest (a.put o.dst v') w') :
    wpList Tryd.prog ops Q (o :: rest) a w := by
  obtain ⟨i, hi, hz0, hz1, hz2⟩ := info_parts info_str
  have hn := hr.1
  rcases ao with _ | ad
  · obtain ⟨rfl, rfl⟩ := hr.none_
    refine Lib.wpList_append_run w hgd s x _ _ ho _ _ hs hx v w (run_app_nil w B _ _ _ i 1 Tryd.underlying24 hi v _ _ hown c) ?_
    exact h v w (by rw [List.append_nil]; exact hown) (Below.refl _ _) ⟨rfl, rfl, rfl, Nat.le_refl _, fun _ _ _ => rfl⟩
  · refine wpList_append_own _ hgd s x 24 ho B 9 i (.string ByteArray.empty) 1 16 Tryd.underlying24 hi hz0 hz1 hz2 rfl (by decide) v (strsL xs).length (strsL xs) hs hown ad n c (strsL ys) hx (by rw [strsL_length]; omega) ?_ (strsL_one ys) ?_ ?_ hB ?_
    · intro j u hj
      have hjl : j < ys.length := by have := (List.getElem?_eq_some_iff.1 hj).1; rwa [strsL_length] at this
      obtain ⟨y, hy⟩ : ∃ y, ys[j]? = some y := ⟨_, List.getElem?_eq_getElem hjl⟩
      obtain ⟨bk, o, e, hc⟩ := hr.2 j y hy
      injection e with e
      subst e
      rw [strsL_get ys j y hy] at hj
      injection hj with hj
      rw [Addr.add_lit, hc, hj]
    · rw [strsL_length]
      unfold maxLen
      omega
    · rw [strsL_length]
      omega
    · intro v' w' hown' hg _
      refine h v' w' ?_ ((Below.refl B w).grown hg hB fun k hk => (World.ownsRow.lt hown k hk).1) hg
      unfold Own
      rw [strsL_app, List.length_append, strsL_length ys, ← hn]
      exact hown'

theorem eql_nil_str (w : World) (a : Option Addr) (n c n' c' : Nat) : (binOp .eql 24 (.slice a n c) (.slice none n' c')).run Tryd.prog w = .ok (.bool a.isNone) w := Lib.run_eql_slice_nil w _ _ a n c n' c' Tryd.underlying24

set_option maxHeartbeats 1000000 in
set_option maxRecDepth 100000 in
theorem clone_any (ao : Option Addr) (n c : Nat) (ps : List (List UInt8)) (w : World) (hr : Strs w ao n ps) (hn : n ≤ 1048576) :
    Calls Tryd.prog 25 #[.slice ao n c] w fun e w' => ∃ v, e = .returned v ∧ Own w' w.heap.size 9 v (strsL ps) ∧ Below w.heap.size w w' := by
  have qT := eql_nil_str
  rcases ao with _ | ad
  · obtain ⟨rfl, rfl⟩ := hr.none_
    go_enter Tryd.func25, Tryd.ntmps25
    go_wp2_with fail
    go_ret
    exact ⟨_, rfl, Own.nil _ _ _, Below.refl _ _⟩
  · have hr1 := hr.below ((Below.refl _ w).alloc (Nat.le_refl _) (.cells #[] 9))
    go_enter Tryd.func25, Tryd.ntmps25
    go_wp2_with (at_builtin; refine wpList_appRead rfl (.tmp 5) (.tmp 6) rfl w.heap.size _ [] rfl (Own.made0 w _ _ (Nat.le_refl _)) _ _ _ ps rfl hr1 (by simp; omega) (by simp) ?_; intro v' w' ho hb _)
    go_ret
    exact ⟨_, rfl, ho, ((Below.refl _ w).alloc (Nat.le_refl _) _).trans hb⟩

set_option maxHeartbeats 2000000 in
set_option maxRecDepth 100000 in
theorem grow_nil (n : Nat) (w : World) (hn : n ≤ 1048576) :
    Calls Tryd.prog 50 #[.slice none 0 0, .int .i64 n] w fun e w' => ∃ v, e = .returned v ∧ Own w' w.heap.size 9 v [] ∧ Below w.heap.size w w' := by
  by_cases h0 : n = 0
  · subst h0
    go_enter Tryd.func50, Tryd.ntmps50
    go_wp2_with fail
    go_ret
    exact ⟨_, rfl, Own.nil _ _ _, Below.refl _ _⟩
  · obtain ⟨i0, hi, hz0, hz1, hz2⟩ := info_parts info_str
    have hold : (Builtin.firstCells i0.size 0 (.slice none 0 0)).run Tryd.prog w.drew = .ok ([] : List Value).toArray w.drew := run_firstCells_none w.drew i0.size 0 0 0
    have hrz : ∀ ty, ∃ G cs, (Builtin.append_ #[24, 3] ty #[.slice none 0 0, .int .i64 n]).run Tryd.prog w = .ok (.slice (some ⟨w.heap.size, 0, none⟩) n G) (w.drew.alloc (.cells cs 9)) ∧ n ≤ G ∧ G ≤ maxLen ∧ cs.size = G := fun ty => by
      have h := Lib.run_append_grow_zeros w 24 3 ty 9 i0 (.string ByteArray.empty) .i64 .i64 Tryd.underlying24 Tryd.underlying3 hi hz0 none 0 0 [] hold n (by omega) (by omega) (by omega) (by omega)
        (by rw [hz2]; omega) (growslice_fits (by omega) (by rw [hz2]; omega))
      rw [Nat.zero_add] at h
      have h1 := grownCap_ge w n 0 9
      refine ⟨_, _, h, h1, grownCap_le_maxLen w n 0 9 (by unfold maxLen; omega), ?_⟩
      simp [size_zeroCells, Value.cells]
      omega
    obtain ⟨G, cs, hrun, hG1, hG2, hcs⟩ := hrz 24
    have HRUN := Lib.hid hrun
    have HCS := Lib.hid hcs
    have hG3 : G ≤ 9223372036854775807 := by unfold maxLen at hG2; omega
    clear hrz hrun hold hcs
    go_enter Tryd.func50, Tryd.ntmps50
    go_wp2_with (at_builtin; refine Lib.wpList_append_run _ rfl _ _ _ _ rfl _ _ rfl rfl _ _ HRUN.out ?_)
    go_ret
    refine ⟨_, rfl, Own.made_cap w.drew _ _ cs G (Nat.le_refl _) hG2 HCS.out, ((Below.refl _ w).drew.alloc (Nat.le_refl w.heap.size) _)⟩

/-- Three slices that are read, in a block of their own. -/
def Three (w : World) (b : Nat) (qs : List (Option Addr × Nat × List (List UInt8))) : Prop :=
  ∀ (k : Nat) (q : Option Addr × Nat × List (List UInt8)), qs[k]? = some q → w.cell? ⟨b, k, none⟩ = some (.slice q.1 q.2.2.length q.2.1) ∧ Strs w q.1 q.2.2.length q.2.2
theorem Three.below {w w' : World} {b : Nat} {qs : List (Option Addr × Nat × List (List UInt8))} (h : Three w b qs) (hb : Below w.heap.size w w') : Three w' b qs := fun k q hq => by
  obtain ⟨h1, h2⟩ := h k q hq
  exact ⟨(hb.cell (p := ⟨b, k, none⟩) (World.block_lt_of_cell? _ _ h1)).trans h1, h2.below hb⟩
def catQ (qs : List (Option Addr × Nat × List (List UInt8))) : List (List UInt8) := qs.flatMap (·.2.2)
theorem catQ_take {qs : List (Option Addr × Nat × List (List UInt8))} {k : Nat} {q : Option Addr × Nat × List (List UInt8)} (h : qs[k]? = some q) : catQ (qs.take (k + 1)) = catQ (qs.take k) ++ q.2.2 := by
  unfold catQ
  rw [List.take_add_one, h]
  simp
theorem catQ_le (qs : List (Option Addr × Nat × List (List UInt8))) (k : Nat) : (catQ (qs.take k)).length ≤ (catQ qs).length := by
  conv => rhs; rw [← List.take_append_drop k qs]
  unfold catQ
  rw [List.flatMap_append, List.length_append]
  omega

set_option maxHeartbeats 2000000 in
set_option maxRecDepth 100000 in
theorem concat_any (b cap : Nat) (qs : List (Option Addr × Nat × List (List UInt8))) (w : World) (h : Three w b qs) (hn : qs.length ≤ 1048576) (hl : (catQ qs).length ≤ 1048576) :
    Calls Tryd.prog 44 #[.slice (some ⟨b, 0, none⟩) qs.length cap] w fun e w' => ∃ v, e = .returned v ∧ Own w' w.heap.size 9 v (strsL (catQ qs)) ∧ Below w.heap.size w w' := by
  have HH := Lib.hid h
  clear h
  go_enter Tryd.func44, Tryd.ntmps44
  go_wp2_with fail
  go_loop [3, 11] (fun s i => ∃ k : Nat, k ≤ qs.length ∧ i = .int .i64 k ∧ ∃ m : Nat, s = .int .i64 m ∧ m ≤ 1048576 ∧ Hid (m = (catQ (qs.take k)).length)) (fun _ i => qs.length - (intOf i).toNat)
  case atStart => exact ⟨0, Nat.zero_le _, rfl, 0, rfl, by omega, rfl⟩
  case round =>
    obtain ⟨k, hk, rfl, m, rfl, hm, hm2⟩ := hrel
    by_cases hlt : k < qs.length
    · obtain ⟨q, hq⟩ : ∃ x, qs[k]? = some x := ⟨_, List.getElem?_eq_getElem hlt⟩
      obtain ⟨hc, hst⟩ := HH.out k q hq
      have hct := catQ_take hq
      have hle := catQ_le qs (k + 1)
      have hsum : (catQ (qs.take (k + 1))).length = m + q.2.2.length := by rw [hct, List.length_append, hm2.out]
      have hml : m + q.2.2.length ≤ 1048576 := by omega
      have HS := Lib.hid hsum
      clear hst hq hct hle hsum
      go_wp2_with fail
      go_round
      case rel => exact ⟨k + 1, by omega, by go_num, m + q.2.2.length, by go_num, by omega, HS.out.symm⟩
      case measure => simp [intOf]; omega
    · obtain rfl : k = qs.length := by omega
      have HK := Lib.hid hm2.out
      go_wp2_with fail
      refine (grow_nil m w hm).mono ?_
      rintro e w1 ⟨v1, rfl, ho1, hb1⟩
      have HH1 := Lib.hid (HH.out.below hb1)
      go_wp2_with fail
      go_loopw [6, 27] (fun v i wr => ∃ k : Nat, k ≤ qs.length ∧ i = .int .i64 k ∧ Own wr w.heap.size 9 v (strsL (catQ (qs.take k))) ∧ Below w.heap.size w wr) (fun _ i _ => qs.length - (intOf i).toNat)
      case atStart => exact ⟨0, Nat.zero_le _, rfl, ho1, hb1⟩
      case round =>
        obtain ⟨k, hk, rfl, ho, hb⟩ := hrel
        by_cases hlt : k < qs.length
        · obtain ⟨q, hq⟩ : ∃ x, qs[k]? = some x := ⟨_, List.getElem?_eq_getElem hlt⟩
          obtain ⟨hc, hst⟩ := (HH.out.below hb) k q hq
          have hct := catQ_take hq
          have hle := catQ_le qs (k + 1)
          have hl3 : (catQ (qs.take k)).length + q.2.2.length ≤ 8796093022208 := by
            rw [hct, List.length_append] at hle
            omega
          have HCT := Lib.hid hct
          have hbs := hb.size
          clear hq hct hle
          go_wp2_with (at_builtin; refine wpList_appRead rfl _ _ rfl w.heap.size _ (catQ (qs.take k)) rfl ho _ _ _ q.2.2 rfl hst hl3 hbs ?_; intro v' w' ho' hb' _)
          go_roundw
          case rel => exact ⟨k + 1, by omega, by go_num, by rw [HCT.out]; exact ho', hb.trans hb'⟩
          case measure => simp [intOf]; omega
        · obtain rfl : k = qs.length := by omega
          rw [List.take_length] at ho
          go_wp2_with fail
          go_ret
          exact ⟨_, rfl, ho, hb⟩
end Go.Proofs.YtghpolfmhnnbaaaDoor
