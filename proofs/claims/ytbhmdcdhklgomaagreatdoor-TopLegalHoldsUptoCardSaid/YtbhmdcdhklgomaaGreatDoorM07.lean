/-
  Rows of flat elements of the call's own; retention.selected, Active.
-/
import Derived.Test.YtbhmdcdhklgomaaGreatDoorM02
import Derived.Shelf.Abstract
import Derived.Deep.Onto
import Derived.Test.YtbhmdcdhklgomaaGreatDoorM05
namespace Go.Proofs.YtbhmdcdhklgomaaGreatDoor
open Go.RowKit Top

theorem flatm_get {α β : Type} (f : α → List β) (k : Nat) (hk : ∀ a, (f a).length = k) : ∀ (l : List α) (j i : Nat) (x : α), l[j]? = some x → i < k → (l.flatMap f)[j * k + i]? = (f x)[i]?
  | [], j, i, x, h, _ => by simp at h
  | a :: l, 0, i, x, h, hi => by
    obtain rfl : a = x := by simpa using h
    rw [List.flatMap_cons, Nat.zero_mul, Nat.zero_add, List.getElem?_append_left (by rw [hk]; exact hi)]
  | a :: l, j + 1, i, x, h, hi => by
    have ih := flatm_get f k hk l j i x (by simpa using h) hi
    rw [List.flatMap_cons, Nat.succ_mul, List.getElem?_append_right (by rw [hk]; omega), hk, ← ih]
    congr 1
    omega
theorem parts_of {P : Program} {E : TypeId} {z : Value} {k b : Nat} (h : (P.info? E).map (fun i => (i.zero, i.size, i.bytes)) = some (some z, k, b)) : ∃ i, P.info? E = some i ∧ i.zero = some z ∧ i.size = k ∧ i.bytes = b := by
  cases hi : P.info? E with
  | none => rw [hi] at h; simp at h
  | some i =>
    rw [hi] at h
    simp only [Option.map_some, Option.some.injEq, Prod.mk.injEq] at h
    exact ⟨i, rfl, h.1, h.2.1, h.2.2⟩
/-- A slice of flat elements that the call has made. -/
def OwnF {α : Type} (E : TypeId) (c : α → List Value) (k : Nat) (w : World) (B : Nat) (v : Value) (l : List α) : Prop := w.ownsRow B E k v l.length (l.flatMap c)
section
variable {α : Type} {E : TypeId} {c : α → List Value} {k : Nat} {w w' : World} {B : Nat} {v : Value} {l : List α}
theorem OwnF.nil (w : World) (B : Nat) : OwnF E c k w B (.slice none 0 0) ([] : List α) := World.ownsRow_nil _ _ _ _
theorem OwnF.form (h : OwnF E c k w B v l) : ∃ ao cap, v = .slice ao l.length cap ∧ l.length ≤ cap ∧ cap ≤ 9223372036854775807 := by
  rcases h.2 with ⟨rfl, hn⟩ | ⟨g, cap, cur, rfl, _, _, h2, h3, _⟩
  · exact ⟨none, 0, by rw [hn], by omega, by omega⟩
  · exact ⟨_, cap, rfl, h2, by unfold maxLen at h3; omega⟩
theorem OwnF.flat (hc : ∀ a, (c a).length = k) (h : OwnF E c k w B v l) : Flat c k w v l := by
  obtain ⟨ao, cap, rfl, h1, h2⟩ := h.form
  refine ⟨ao, cap, rfl, h1, h2, fun j vs hj => ?_⟩
  rw [List.getElem?_map] at hj
  obtain ⟨x, hx, rfl⟩ := Option.map_eq_some_iff.1 hj
  have hl : j < l.length := (List.getElem?_eq_some_iff.1 hx).1
  obtain ⟨g, cap', hv, _, _⟩ := World.ownsRow.form h (by omega)
  have hao : ao = some ⟨g, 0, none⟩ := by injection hv
  subst hao
  refine ⟨hc x, g, 0, rfl, fun i u hi => ?_⟩
  have hil := (List.getElem?_eq_some_iff.1 hi).1
  rw [hc x] at hil
  have := World.ownsRow.cells h (g := g) rfl (j * k + i) u ((flatm_get c k hc l j i x hx hil).trans hi)
  rw [Addr.add_lit] at this
  rw [Nat.zero_add] at this ⊢
  exact this
theorem OwnF.kept (h : OwnF E c k w B v l) (hb : Below w.heap.size w w') : OwnF E c k w' B v l := by
  have hg : w.grownBy w' none := ⟨hb.os, hb.tape, hb.output, hb.size, fun k hk _ => hb.block k hk⟩
  refine World.ownsRow.kept h hg ?_
  cases hv : v.ownBlock
  · exact .inl rfl
  · exact .inr (by simp)
theorem OwnF.mono' {B' : Nat} (h : OwnF E c k w B v l) (hB : B' ≤ B) : OwnF E c k w B' v l := World.ownsRow.mono h hB
theorem OwnF.lt (h : OwnF E c k w B v l) : ∀ g, v.ownBlock = some g → B ≤ g ∧ g < w.heap.size := fun g hg => World.ownsRow.lt h g hg
end
/-- append of one flat element, which the walk has laid in a block of its own. -/
theorem wpList_appF {P : Program} {α : Type} (E T : TypeId) (c : α → List Value) (k bytes : Nat) (z : Value) (hinfo : (P.info? E).map (fun i => (i.zero, i.size, i.bytes)) = some (some z, k, bytes)) (hT : P.underlying T = some (.slice E)) (hz : z.cells.size = k) (hk : 0 < k) (hb0 : bytes ≤ 1024)
    (hc : ∀ a, (c a).length = k) (h1 : ∀ a, ∀ u ∈ c a, u.oneCell' = true)
    {ops : Array Oper} {rest : List Oper} {o : Oper} {a : Act} {Q : Exit → Act → World → Prop} {w : World} (hgd : o.guard = none) (s x : Operand)
    (ho : o.op = .call { callee := .builtin .append, args := #[s, x], argTypes := #[T, T] }) (B : Nat) (v : Value) (l : List α) (hs : a.eval s = v) (hown : OwnF E c k w B v l) (d : α)
    (hx : a.eval x = .slice (some ⟨w.heap.size, 0, none⟩) 1 1) (hn : l.length ≤ 16777216) (hB : B ≤ w.heap.size)
    (h : ∀ v' w', OwnF E c k w' B v' (l ++ [d]) → Below B w w' → w.grownBy w' v.ownBlock → wpList P ops Q rest (a.put o.dst v') w') :
    wpList P ops Q (o :: rest) a (w.alloc (.cells (c d).toArray E)) := by
  obtain ⟨i, hi, hz0, hz1, hz2⟩ := parts_of hinfo
  refine wpList_append_own _ hgd s x T ho B E i _ k bytes hT hi hz0 hz1 hz2 hz hk v l.length (l.flatMap c) hs (World.ownsRow.alloc hown _) ⟨w.heap.size, 0, none⟩ 1 1 (c d) hx (by rw [hc]; omega) ?_ (h1 d) ?_ ?_ (by simp; omega) ?_
  · exact World.news_of_block (heap_alloc_new w _)
  · unfold maxLen
    omega
  · have : (l.length + 1) * bytes ≤ 16777217 * 1024 := Nat.mul_le_mul (by omega) hb0
    omega
  · intro v' w' hown' hg _
    have hg' : w.grownBy w' v.ownBlock := ⟨hg.os, hg.tape, hg.output, Nat.le_trans (by simp) hg.size, fun k hk hne => (hg.block k (by simp; omega) hne).trans (Below.heap_alloc w _ k hk)⟩
    refine h v' w' ?_ ((Below.refl B w).grown hg' hB fun k hk => (World.ownsRow.lt hown k hk).1) hg'
    unfold OwnF
    have e : (l ++ [d]).flatMap c = l.flatMap c ++ c d := by simp
    rw [e, List.length_append]
    exact hown'
theorem holdC_len (h : Hold) : (holdC h).length = 2 := rfl
theorem holdC_one (h : Hold) : ∀ u ∈ holdC h, u.oneCell' = true := by
  intro u hu
  simp only [holdC, List.mem_cons, List.not_mem_nil, or_false] at hu
  rcases hu with rfl | rfl <;> rfl
theorem info_hold : (Tryz.prog.info? 87).map (fun i => (i.zero, i.size, i.bytes)) = some (some (.agg #[.string ByteArray.empty, .int .i64 0]), 2, 24) := by kernel_rfl
abbrev Holds := Flat holdC 2
abbrev OwnH := OwnF 87 holdC 2
theorem hbox (w : World) (h : Hold) : ∃ W, w.alloc (.cells #[.string ⟨h.path.toArray⟩, .int .i64 h.till] 87) = W ∧ Below w.heap.size w W ∧ W.heap.size = w.heap.size + 1 ∧
    W.cell? ⟨w.heap.size, 0, none⟩ = some (.string ⟨h.path.toArray⟩) ∧ W.cell? ⟨w.heap.size, 1, none⟩ = some (.int .i64 h.till) := by
  have e := heap_alloc_new w (.cells #[.string ⟨h.path.toArray⟩, .int .i64 h.till] 87)
  exact ⟨_, rfl, (Below.refl _ w).alloc (Nat.le_refl _) _, by simp, tcell e 0 _ rfl, tcell e 1 _ rfl⟩
theorem take_filter {α : Type} (p : α → Bool) {l : List α} {k : Nat} {x : α} (hx : l[k]? = some x) : (l.take (k + 1)).filter p = (l.take k).filter p ++ if p x then [x] else [] := by
  rw [List.take_add_one, hx, List.filter_append, Option.toList_some]
  cases h : p x <;> simp [h]

set_option maxHeartbeats 2000000 in
set_option maxRecDepth 100000 in
theorem selected_any (F : FuncId) (hE : Enters Tryz.prog F) (cap : Value) (p : Hold → Bool) (hv : Value) (l : List Hold) (w : World) (hl : Holds w hv l) (hn : l.length ≤ 16777216)
    (hF : ∀ W h, Below w.heap.size w W → Calls Tryz.prog F #[.agg #[.string ⟨h.path.toArray⟩, .int .i64 h.till], cap] W fun e w' => e = .returned (.bool (p h)) ∧ Below W.heap.size W w') :
    Calls Tryz.prog 69 #[hv, .func (.func F) #[] #[cap]] w fun e w' => ∃ v, e = .returned v ∧ OwnH w' w.heap.size v (l.filter p) ∧ Below w.heap.size w w' := by
  obtain ⟨ao, hc, rfl, hlc, hcm⟩ := hl.form
  have HL := Lib.hid hl
  have HF := Lib.hid hF
  have hEn : ∀ (args : Array Value) (w : World), (callFunc F args).run Tryz.prog w = .ok (.enter F args) w := hE
  clear hl hF hE
  go_enter Tryz.func69, Tryz.ntmps69
  go_wp2_with fail
  go_loopw [5, 10] (fun v i wr => ∃ k : Nat, k ≤ l.length ∧ i = .int .i64 k ∧ OwnH wr w.heap.size v ((l.take k).filter p) ∧ Below w.heap.size w wr) (fun _ i _ => l.length - (intOf i).toNat)
  case atStart => exact ⟨0, Nat.zero_le _, rfl, OwnF.nil _ _, Below.refl _ _⟩
  case round =>
    obtain ⟨k, hk, rfl, ho, hb⟩ := hrel
    by_cases hlt : k < l.length
    · obtain ⟨x, hx⟩ : ∃ x, l[k]? = some x := ⟨_, List.getElem?_eq_getElem hlt⟩
      obtain ⟨bk, o, rfl, hcell⟩ := (HL.out.below hb).get hx
      have c0 := hcell 0 _ rfl
      have c1 := hcell 1 _ rfl
      rw [Nat.add_zero] at c0
      have HX := Lib.hid (take_filter p hx)
      have hlen : ((l.take k).filter p).length ≤ 16777216 := Nat.le_trans (List.length_filter_le _ _) (by rw [List.length_take]; omega)
      clear hcell hx
      obtain ⟨W, hW, hbW, hzW, d0, d1⟩ := hbox wr x
      have HC := Lib.hid (HF.out W x (hb.trans (hbW.mono hb.size)))
      go_upto_region 5 with (fail)
      try rw [hW]
      clear hW
      go_wp2_with fail
      refine HC.out.mono ?_
      rintro e w1 ⟨rfl, hb1⟩
      have hlw : wr.heap.size < W.heap.size := by omega
      have d0 := (hb1.cell (p := ⟨wr.heap.size, 0, none⟩) hlw).trans d0
      have d1 := (hb1.cell (p := ⟨wr.heap.size, 1, none⟩) hlw).trans d1
      have hbx := hb.trans ((hbW.trans (hb1.mono hbW.size)).mono hb.size)
      have HO := Lib.hid (ho.kept (hbW.trans (hb1.mono hbW.size)))
      obtain ⟨b, hbp⟩ : ∃ b, p x = b := ⟨_, rfl⟩
      rw [hbp] at HX ⊢
      clear ho hbp
      cases b
      · go_wp2_with fail
        go_roundw
        case rel => exact ⟨k + 1, by omega, by go_num, by rw [HX.out]; simpa using HO.out, hbx⟩
        case measure => simp [intOf]; omega
      · go_wp2_with (at_builtin; refine wpList_appF 87 36 holdC 2 24 _ info_hold Tryz.underlying36 rfl (by decide) (by decide) holdC_len holdC_one rfl (.tmp 17) (.tmp 19) rfl w.heap.size u5 _ rfl HO.out x rfl hlen hbx.size ?_; intro v' w2 ho2 hb2 _)
        go_roundw
        case rel => exact ⟨k + 1, by omega, by go_num, by rw [HX.out]; exact ho2, hbx.trans hb2⟩
        case measure => simp [intOf]; omega
    · obtain rfl : k = l.length := by omega
      rw [List.take_length] at ho
      go_wp2_with fail
      go_ret
      exact ⟨_, rfl, ho, hb⟩
end Go.Proofs.YtbhmdcdhklgomaaGreatDoor

/-
  slices.Insert of one element into a row of the call's own (api.Entry). (Written by gen_tins.py.)
-/
namespace Go.Proofs.YtbhmdcdhklgomaaGreatDoor
open Go.RowKit Top

theorem info_ent : (Tryz.prog.info? 43).map (fun i => (i.zero, i.size, i.bytes)) = some (some (.agg #[.int .i64 0, .string ByteArray.empty, .slice none 0 0, .string ByteArray.empty, .int .i64 0, .string ByteArray.empty, .slice none 0 0]), 7, 112) := by kernel_rfl
/-- The model's entry for slices.overlaps, two blocks apart. -/
theorem overlaps_ent {w : World} {vb g : Nat} {c0 c1 : Array Value} (h0 : w.heap[vb]? = some (.cells c0 43 (0, 0))) (h1 : w.heap[g]? = some (.cells c1 43 (0, 0))) (hne : vb ≠ g) (hz : c1.size ≠ 0) (o la ca lb cb : Nat) :
    (callFunc 128 #[.slice (some ⟨vb, 0, none⟩) la ca, .slice (some ⟨g, o, none⟩) lb cb]).run Tryz.prog w = .ok (.value (.bool false)) w := by
  obtain ⟨i, hi, _, hz1, _⟩ := parts_of info_ent
  rw [run_callFunc_extern Tryz.func128 (by kernel_rfl) (by kernel_rfl) (by kernel_rfl) (e := Extern.SlicesOverlaps.overlaps #[32, 32] #[4]) (by kernel_rfl),
    Lib.run_overlaps_apart w 32 4 43 Tryz.underlying32 7 (fun w => by simp [sizeOf, typeInfo, hi, hz1]) ⟨vb, 0, none⟩ ⟨g, o, none⟩ la ca lb cb hne 43 43 c0.size c1.size (by simp [World.shape?, h0]) (by simp [World.shape?, h1]) hz (tfree h0 0) (tfree h0 _)]
  rfl

set_option maxHeartbeats 4000000 in
set_option maxRecDepth 100000 in
theorem ins_ent (v : Value) (n i B vb : Nat) (xs vs : List Value) (w : World) (hown : w.ownsRow B 43 7 v n xs) (hin : i ≤ n) (hn : n ≤ 65536) (hvl : vs.length = 7) (h1x : ∀ u ∈ xs, u.oneCell' = true) (h1 : ∀ u ∈ vs, u.oneCell' = true)
    (hblk : w.heap[vb]? = some (.cells vs.toArray 43 (0, 0))) (hvb : v.ownBlock ≠ some vb) (hB : B ≤ w.heap.size) :
    Calls Tryz.prog 100 #[v, .int .i64 i, .slice (some ⟨vb, 0, none⟩) 1 1] w fun e w' => ∃ v', e = .returned v' ∧ w'.ownsRow B 43 7 v' (n + 1) (xs.take (i * 7) ++ (vs ++ xs.drop (i * 7))) ∧ Below B w w' := by
  obtain ⟨i0, hi0, hz0, hz1, hz2⟩ := parts_of info_ent
  have hxl : xs.length = n * 7 := hown.1
  by_cases he : i = n
  · subst he
    have ht : xs.take (i * 7) ++ (vs ++ xs.drop (i * 7)) = xs ++ vs := by
      rw [List.take_of_length_le (by omega), List.drop_of_length_le (by omega), List.append_nil]
    rw [ht]
    have HO := Lib.hid hown
    have HK := Lib.hid hblk
    obtain ⟨ao, cap, rfl, hc0, hcm⟩ : ∃ ao cap, v = .slice ao i cap ∧ i ≤ cap ∧ cap ≤ maxLen := by
      rcases hown.2 with ⟨rfl, h⟩ | ⟨g, cap, cur, rfl, _, _, h2, h3, _⟩
      · exact ⟨none, 0, by rw [h], by omega, by simp [maxLen]⟩
      · exact ⟨_, cap, rfl, h2, h3⟩
    unfold maxLen at hcm
    clear hown hblk ht hxl
    rcases Nat.lt_or_ge i cap with hce | hce
    · have q : ¬ cap = i := by omega
      go_enter Tryz.func100, Tryz.ntmps100
      go_wp2_with (at_builtin; refine wpList_append_own _ rfl (.tmp 23) (.tmp 24) 32 rfl B 43 i0 (.agg #[.int .i64 0, .string ByteArray.empty, .slice none 0 0, .string ByteArray.empty, .int .i64 0, .string ByteArray.empty, .slice none 0 0]) 7 112 Tryz.underlying32 hi0 hz0 hz1 hz2 rfl (by decide) _ i xs rfl HO.out ⟨vb, 0, none⟩ 1 1 vs rfl (by omega) (World.news_of_block HK.out) h1 (by unfold maxLen; omega) (by omega) hB ?_; intro v' w' ho hg _)
      go_ret
      exact ⟨_, rfl, ho, (Below.refl B w).grown hg hB fun k hk => (World.ownsRow.lt HO.out k hk).1⟩
    · obtain rfl : cap = i := by omega
      clear hce
      go_enter Tryz.func100, Tryz.ntmps100
      go_wp2_with (at_builtin; refine wpList_append_own _ rfl (.tmp 23) (.tmp 24) 32 rfl B 43 i0 (.agg #[.int .i64 0, .string ByteArray.empty, .slice none 0 0, .string ByteArray.empty, .int .i64 0, .string ByteArray.empty, .slice none 0 0]) 7 112 Tryz.underlying32 hi0 hz0 hz1 hz2 rfl (by decide) _ cap xs rfl HO.out ⟨vb, 0, none⟩ 1 1 vs rfl (by omega) (World.news_of_block HK.out) h1 (by unfold maxLen; omega) (by omega) hB ?_; intro v' w' ho hg _)
      go_ret
      exact ⟨_, rfl, ho, (Below.refl B w).grown hg hB fun k hk => (World.ownsRow.lt HO.out k hk).1⟩
  · rcases hown.2 with ⟨_, h⟩ | ⟨g, cap, cur, rfl, hBg, hh, hc, hcm, hcs, htk⟩
    · omega
    have hne : vb ≠ g := fun e => hvb (by rw [e]; rfl)
    have hal : i * 7 ≤ n * 7 := by omega
    have hcl : cur.toList.length = cap * 7 := by rw [Array.length_toList, hcs]
    have hdl : (xs.drop (i * 7)).length = (n - i) * 7 := by rw [List.length_drop, hxl]; omega
    have hcell : ∀ (W : World) (c : Array Value), W.heap[g]? = some (.cells c 43 (0, 0)) → c.toList.take (n * 7) = xs → ∀ j u, (xs.drop (i * 7))[j]? = some u → W.cell? ((⟨g, i * 7, none⟩ : Addr).add j) = some u := fun W c hW hx j u hj => by
      rw [List.getElem?_drop, ← hx, List.getElem?_take] at hj
      split at hj
      · rw [Addr.add_lit]
        refine tcell hW _ _ ?_
        rw [Array.getElem?_toList] at hj
        exact hj
      · cases hj
    have hinfo : (Tryz.prog.info? 43).map (·.size) = some 7 := by rw [hi0]; simp [hz1]
    have q1 : (i : Int) ≤ (n : Int) := by omega
    have q2 : ((i : Int) == (n : Int)) = false := beq_eq_false_iff_ne.2 (by omega)
    have q3 : IntKind.i64.wrap ((n : Int) + 1) = (n : Int) + 1 := IntWalk.i64_in _ (by omega)
    have q4 : IntKind.i64.wrap ((i : Int) + 1) = (i : Int) + 1 := IntWalk.i64_in _ (by omega)
    have q5 : (0 : Int) ≤ (i : Int) + 1 := by omega
    have q6 : ((i : Int) + 1).toNat = i + 1 := by omega
    have q7 : (0 : Int) ≤ (n : Int) + 1 := by omega
    have q8 : ((n : Int) + 1).toNat = n + 1 := by omega
    unfold maxLen at hcm
    by_cases hroom : n + 1 ≤ cap
    · obtain ⟨l1, l2, l3⟩ := put_in (cur := cur.toList) (vs := vs) htk hal (by omega)
      have q9 : ¬ ((cap : Int) < (n : Int) + 1) := by omega
      have q10 : (n : Int) + 1 ≤ (cap : Int) := by omega
      have q11 : ¬ cap = i + 1 := by omega
      have q12 : ¬ cap = i := by omega
      have q13 : (i : Int) ≤ (n : Int) + 1 := by omega
      have q14 : (i : Int) + 1 ≤ (n : Int) + 1 := by omega
      have q15 : i ≤ n + 1 := by omega
      have q16 : i + 1 ≤ n + 1 := by omega
      have hov := fun lb cb => overlaps_ent hblk hh hne (by rw [hcs]; omega) ((i + 1) * 7) 1 1 lb cb
      have hcp1 : ∀ O L1 L2 dc sc ty, O = (i + 1) * 7 → L1 = n - i → L2 = n + 1 - i → (Builtin.copy_ #[32, 32] ty #[.slice (some ⟨g, O, none⟩) L1 dc, .slice (some ⟨g, i * 7, none⟩) L2 sc]).run Tryz.prog w.drew = .ok (goInt ((n - i : Nat) : Int)) (w.drew.setRow g (put1 cur.toList xs vs (i * 7)).toArray) := fun O L1 L2 dc sc ty hO hL1 hL2 => by
        subst hO hL1 hL2
        have := run_copy_rowk (P := Tryz.prog) w.drew 32 32 ty 43 7 g ((i + 1) * 7) (n - i) dc ⟨g, i * 7, none⟩ (n + 1 - i) sc cur 43 (xs.drop (i * 7)) (n - i) Tryz.underlying32 hinfo hh (by simp only [Nat.min_def]; split <;> omega) hdl (hcell _ _ hh htk) (by rw [hdl, hcs]; omega) (fun u hu => h1x u (List.mem_of_mem_drop hu))
        rw [this]
        unfold put1
        rw [hvl, show (i + 1) * 7 = i * 7 + 7 by omega]
      obtain ⟨W1, hW1⟩ : ∃ W1, w.drew.setRow g (put1 cur.toList xs vs (i * 7)).toArray = W1 := ⟨_, rfl⟩
      have hh1 : W1.heap[g]? = some (.cells (put1 cur.toList xs vs (i * 7)).toArray 43 (0, 0)) := by rw [← hW1]; exact setRow_heap _ _ _ _ _ _ hh
      have hk1 : W1.heap[vb]? = some (.cells vs.toArray 43 (0, 0)) := by rw [← hW1]; exact (setRow_other _ _ _ _ hne).trans hblk
      have hb1 : Below B w W1 := by rw [← hW1]; exact below_setRow ((Below.refl B w).drew) hBg _
      rw [hW1] at hcp1
      have hcp2 : ∀ W L dc ty, W.heap = W1.heap → L = n + 1 - i → (Builtin.copy_ #[32, 32] ty #[.slice (some ⟨g, i * 7, none⟩) L dc, .slice (some ⟨vb, 0, none⟩) 1 1]).run Tryz.prog W = .ok (goInt 1) (W.setRow g (put2 (put1 cur.toList xs vs (i * 7)) vs (i * 7)).toArray) := fun W L dc ty hW hL => by
        subst hL
        have := run_copy_rowk (P := Tryz.prog) W 32 32 ty 43 7 g (i * 7) (n + 1 - i) dc ⟨vb, 0, none⟩ 1 1 (put1 cur.toList xs vs (i * 7)).toArray 43 vs 1 Tryz.underlying32 hinfo (by rw [hW]; exact hh1) (by simp only [Nat.min_def]; split <;> omega) (by omega) (World.news_of_block (by rw [hW]; exact hk1)) (by simp; omega) h1
        rw [this]
        rfl
      have HCP1 := Lib.hid hcp1
      have HCP2 := Lib.hid hcp2
      have HH1 := Lib.hid hh1
      have HL2 := Lib.hid l1
      have HL3 := Lib.hid l3
      have HCL := Lib.hid hcl
      clear hcp1 hcp2 hh1 hk1 l1 l2 l3 hcell hh hblk htk hcl hdl hxl hW1
      go_enter Tryz.func100, Tryz.ntmps100
      go_wp2_with (simp only [hov])
      go_region_law (refine step_copyR (by rfl) (.tmp 73) (.tmp 76) 32 (by rfl) (.slice (some ⟨g, (i + 1) * 7, none⟩) (n - i) (cap - (i + 1))) (.slice (some ⟨g, i * 7, none⟩) (n + 1 - i) (cap - i)) (by simp [Act.eval, Act.put]) (by simp [Act.eval, Act.put]) (fun ty => HCP1.out _ _ _ _ _ ty rfl rfl rfl) ?_)
      all_goals
        go_wp2_with (refine wpList_copyR rfl (.tmp 80) (.tmp 81) 32 rfl (.slice (some ⟨g, i * 7, none⟩) (n + 1 - i) (cap - i)) (.slice (some ⟨vb, 0, none⟩) 1 1) rfl rfl (fun ty => HCP2.out W1 _ _ ty rfl rfl) ?_)
        go_ret
        refine ⟨_, rfl, ⟨?_, .inr ⟨g, cap, _, rfl, hBg, setRow_heap _ _ _ _ _ _ HH1.out, hroom, by unfold maxLen; omega, ?_, ?_⟩⟩, below_setRow hb1 hBg _⟩
        · rw [← HL3.out, List.length_take, HL2.out, HCL.out, hvl]
          omega
        · rw [List.size_toArray, HL2.out, HCL.out]
        · rw [List.toList_toArray, ← HL3.out, hvl, show (n + 1) * 7 = n * 7 + 7 by omega]
    · have hz : ((.agg #[.int .i64 0, .string ByteArray.empty, .slice none 0 0, .string ByteArray.empty, .int .i64 0, .string ByteArray.empty, .slice none 0 0] : Value)).cells.size = 7 := rfl
      have q9 : (cap : Int) < (n : Int) + 1 := by omega
      have q11 : ¬ cap = i := by omega
      have q12 : IntKind.i64.wrap ((n : Int) + 1 - (i : Int)) = ((n + 1 - i : Nat) : Int) := by rw [IntWalk.i64_in _ (by omega)]; omega
      have q13 : (i : Int) ≤ (n : Int) + 1 := by omega
      have q14 : (i : Int) + 1 ≤ (n : Int) + 1 := by omega
      have q15 : (i : Int) ≤ (cap : Int) := by omega
      have q16 : i ≤ cap := by omega
      have hold : (Builtin.firstCells i0.size i (.slice (some ⟨g, 0, none⟩) i cap)).run Tryz.prog w.drew = .ok (xs.take (i * 7)).toArray w.drew := by
        refine run_firstCells_some w.drew i0.size i ⟨g, 0, none⟩ i cap _ (by rw [hz1, List.length_take]; omega) fun j u hj => ?_
        rw [List.getElem?_take] at hj
        split at hj
        · have := World.ownsRow.cells hown (g := g) rfl j u hj
          exact this
        · cases hj
      have hrz := fun ty => Lib.run_append_grow_zeros (P := Tryz.prog) w 32 3 ty 43 i0 (.agg #[.int .i64 0, .string ByteArray.empty, .slice none 0 0, .string ByteArray.empty, .int .i64 0, .string ByteArray.empty, .slice none 0 0]) .i64 .i64 Tryz.underlying32 Tryz.underlying3 hi0 hz0 (some ⟨g, 0, none⟩) i cap _ hold (n + 1 - i) (by omega) (by rw [hz1]; decide) (by omega) (by omega) (by rw [hz2]; omega) (growslice_fits (by omega) (by rw [hz2]; omega))
      have hG1 := grownCap_ge w (i + (n + 1 - i)) cap 43
      have hG2 := grownCap_le_maxLen w (i + (n + 1 - i)) cap 43 (by unfold maxLen; omega)
      rw [show i + (n + 1 - i) = n + 1 by omega] at hrz hG1 hG2
      generalize grownCap w (n + 1) cap 43 = G at *
      obtain ⟨C0, hC0⟩ : ∃ C0, (xs.take (i * 7)).toArray ++ Builtin.zeroCells (.agg #[.int .i64 0, .string ByteArray.empty, .slice none 0 0, .string ByteArray.empty, .int .i64 0, .string ByteArray.empty, .slice none 0 0] : Value).cells (n + 1 - i) ++ Builtin.zeroCells (.agg #[.int .i64 0, .string ByteArray.empty, .slice none 0 0, .string ByteArray.empty, .int .i64 0, .string ByteArray.empty, .slice none 0 0] : Value).cells (G - (n + 1)) = C0 := ⟨_, rfl⟩
      have hCl : C0.toList.length = G * 7 := by
        rw [← hC0, Array.length_toList, Array.size_append, Array.size_append, size_zeroCells, size_zeroCells, hz, List.size_toArray, List.length_take]
        omega
      have hCt : C0.toList.take (i * 7) = xs.take (i * 7) := by
        rw [← hC0, Array.toList_append, Array.toList_append, List.toList_toArray, List.append_assoc]
        exact List.take_left' (by rw [List.length_take]; omega)
      rw [hC0] at hrz
      obtain ⟨l1, l2, l3⟩ := put_new (c := C0.toList) (vs := vs) hCt hxl hal (by omega)
      obtain ⟨W1, hW1⟩ : ∃ W1, w.drew.alloc (.cells C0 43) = W1 := ⟨_, rfl⟩
      obtain ⟨g1, hg1⟩ : ∃ g1, w.heap.size = g1 := ⟨_, rfl⟩
      have hh1 : W1.heap[g1]? = some (.cells C0 43 (0, 0)) := by rw [← hW1, ← hg1]; exact heap_alloc_new w.drew _
      have hvl1 : vb < w.heap.size := (Array.getElem?_eq_some_iff.1 hblk).1
      have hgl1 : g < w.heap.size := (Array.getElem?_eq_some_iff.1 hh).1
      have hk1 : W1.heap[vb]? = some (.cells vs.toArray 43 (0, 0)) := by rw [← hW1]; exact (Below.heap_alloc w.drew _ vb hvl1).trans hblk
      have hs1 : W1.heap[g]? = some (.cells cur 43 (0, 0)) := by rw [← hW1]; exact (Below.heap_alloc w.drew _ g hgl1).trans hh
      have hB1 : B ≤ g1 := by omega
      have hb1 : Below B w W1 := by rw [← hW1]; exact ((Below.refl B w).drew).alloc hB _
      rw [hW1, hg1] at hrz
      have hn1 : g ≠ g1 := by omega
      have hcp1 : ∀ L dc ty, L = n + 1 - i → (Builtin.copy_ #[32, 32] ty #[.slice (some ⟨g1, i * 7, none⟩) L dc, .slice (some ⟨vb, 0, none⟩) 1 1]).run Tryz.prog W1 = .ok (goInt 1) (W1.setRow g1 (put2 C0.toList vs (i * 7)).toArray) := fun L dc ty hL => by
        subst hL
        have := run_copy_rowk (P := Tryz.prog) W1 32 32 ty 43 7 g1 (i * 7) (n + 1 - i) dc ⟨vb, 0, none⟩ 1 1 C0 43 vs 1 Tryz.underlying32 hinfo hh1 (by simp only [Nat.min_def]; split <;> omega) (by omega) (World.news_of_block hk1) (by rw [← Array.length_toList]; omega) h1
        rw [this]
        rfl
      obtain ⟨W2, hW2⟩ : ∃ W2, W1.setRow g1 (put2 C0.toList vs (i * 7)).toArray = W2 := ⟨_, rfl⟩
      have hh2 : W2.heap[g1]? = some (.cells (put2 C0.toList vs (i * 7)).toArray 43 (0, 0)) := by rw [← hW2]; exact setRow_heap _ _ _ _ _ _ hh1
      have hs2 : W2.heap[g]? = some (.cells cur 43 (0, 0)) := by rw [← hW2]; exact (setRow_other _ _ _ _ hn1).trans hs1
      have hb2 : Below B w W2 := by rw [← hW2]; exact below_setRow hb1 hB1 _
      rw [hW2] at hcp1
      have hcp2 : ∀ O L1 L2 dc sc ty, O = (i + 1) * 7 → L1 = n - i → L2 = n - i → (Builtin.copy_ #[32, 32] ty #[.slice (some ⟨g1, O, none⟩) L1 dc, .slice (some ⟨g, i * 7, none⟩) L2 sc]).run Tryz.prog W2.drew = .ok (goInt ((n - i : Nat) : Int)) (W2.drew.setRow g1 (put3 (put2 C0.toList vs (i * 7)) xs vs (i * 7)).toArray) := fun O L1 L2 dc sc ty hO hL1 hL2 => by
        subst hO hL1 hL2
        have := run_copy_rowk (P := Tryz.prog) W2.drew 32 32 ty 43 7 g1 ((i + 1) * 7) (n - i) dc ⟨g, i * 7, none⟩ (n - i) sc (put2 C0.toList vs (i * 7)).toArray 43 (xs.drop (i * 7)) (n - i) Tryz.underlying32 hinfo hh2 (by simp only [Nat.min_def]; split <;> omega) hdl (hcell _ _ hs2 htk) (by rw [hdl, List.size_toArray, l2]; omega) (fun u hu => h1x u (List.mem_of_mem_drop hu))
        rw [this]
        unfold put3
        rw [hvl, show (i + 1) * 7 = i * 7 + 7 by omega]
      have q17 : ¬ G = i := by omega
      have q18 : ¬ G = i + 1 := by omega
      have q19 : (n : Int) + 1 ≤ (G : Int) := by omega
      unfold maxLen at hG2
      have HRZ := Lib.hid (hrz 32)
      have HCP1 := Lib.hid hcp1
      have HCP2 := Lib.hid hcp2
      have HH2 := Lib.hid hh2
      have HL2 := Lib.hid l1
      have HL3 := Lib.hid l3
      have HCl := Lib.hid hCl
      clear hrz hcp1 hcp2 hh1 hh2 hk1 hs1 hs2 l1 l2 l3 hcell hh hblk htk hcl hdl hxl hW1 hW2 hCl hCt hC0 hold hb1 hg1
      go_enter Tryz.func100, Tryz.ntmps100
      go_wp2_with (first | (at_builtin; refine Lib.wpList_append_run _ rfl (.tmp 34) (.tmp 39) _ _ rfl _ _ rfl rfl _ _ HRZ.out ?_) | (refine wpList_copyR rfl (.tmp 43) (.tmp 44) 32 rfl (.slice (some ⟨g1, i * 7, none⟩) (n + 1 - i) (G - i)) (.slice (some ⟨vb, 0, none⟩) 1 1) rfl rfl (fun ty => HCP1.out _ _ ty rfl) ?_))
      go_region_law (refine step_copyR (by rfl) (.tmp 50) (.tmp 53) 32 (by rfl) (.slice (some ⟨g1, (i + 1) * 7, none⟩) (n - i) (G - (i + 1))) (.slice (some ⟨g, i * 7, none⟩) (n - i) (cap - i)) (by simp [Act.eval, Act.put]) (by simp [Act.eval, Act.put]) (fun ty => HCP2.out _ _ _ _ _ ty rfl rfl rfl) ?_)
      all_goals
        go_wp2_with fail
        go_ret
        refine ⟨_, rfl, ⟨?_, .inr ⟨g1, G, _, rfl, hB1, setRow_heap _ _ _ _ _ _ HH2.out, hG1, by unfold maxLen; omega, ?_, ?_⟩⟩, below_setRow hb2.drew hB1 _⟩
        · rw [← HL3.out, List.length_take, HL2.out, HCl.out, hvl]
          omega
        · rw [List.size_toArray, HL2.out, HCl.out]
        · rw [List.toList_toArray, ← HL3.out, hvl, show (n + 1) * 7 = n * 7 + 7 by omega]
end Go.Proofs.YtbhmdcdhklgomaaGreatDoor
