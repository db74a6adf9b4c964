/-
  sparse.Split.
-/
import Derived.Test.YtbhmdcdhklgomaaGreatDoorM23
namespace Go.Proofs.YtbhmdcdhklgomaaGreatDoor
open Go.RowKit Go.Shelf Top
attribute [local go_sem] Oper.semAt_some

def segC (s : Seg) : List Value := [.int .i64 s.len, .string ⟨s.data.toArray⟩]
theorem segC_len (s : Seg) : (segC s).length = 2 := rfl
theorem segC_one (s : Seg) : ∀ u ∈ segC s, u.oneCell' = true := by
  intro u hu
  simp only [segC, List.mem_cons, List.not_mem_nil, or_false] at hu
  rcases hu with rfl | rfl <;> rfl
theorem info_seg : (Tryz.prog.info? 199).map (fun i => (i.zero, i.size, i.bytes)) = some (some (.agg #[.int .i64 0, .string ByteArray.empty]), 2, 24) := by kernel_rfl
abbrev OwnS := OwnF 199 segC 2
theorem two_boxes (w : World) (T S : TypeId) (u v : Value) : ∃ W, (w.alloc (.cells #[u] T)).alloc (.cells #[v] S) = W ∧ Below w.heap.size w W ∧ W.heap.size = w.heap.size + 2 ∧ Boxed W w.heap.size T u ∧ Boxed W (w.heap.size + 1) S v := by
  refine ⟨_, rfl, ((Below.refl _ w).alloc (Nat.le_refl _) _).alloc (by simp) _, by simp, (Boxed.new w _ _).alloc _, ?_⟩
  have h := Boxed.new (w.alloc (.cells #[u] T)) S v
  rwa [World.size_alloc] at h
/-- append of an element inside a fence. -/
theorem wpListIn_appF {F : Fence} {n : Nat} {P : Program} {α : Type} (E T : TypeId) (c : α → List Value) (k bytes : Nat) (z : Value) (hinfo : (P.info? E).map (fun i => (i.zero, i.size, i.bytes)) = some (some z, k, bytes)) (hT : P.underlying T = some (.slice E)) (hz : z.cells.size = k) (hk : 0 < k) (hb0 : bytes ≤ 1024)
    (hc : ∀ a, (c a).length = k) (h1 : ∀ a, ∀ u ∈ c a, u.oneCell' = true)
    {ops : Array Oper} {rest : List Oper} {o : Oper} {a : Act} {Q : Exit → Act → World → Prop} {w : World} (hgd : o.guard = none) (s x : Operand)
    (ho : o.op = .call { callee := .builtin .append, args := #[s, x], argTypes := #[T, T] }) (B : Nat) (v : Value) (l : List α) (hs : a.eval s = v) (hown : OwnF E c k w B v l) (d : α)
    (bn : Nat) (hx : a.eval x = .slice (some ⟨bn, 0, none⟩) 1 1) (hbn : bn = w.heap.size) (hn : l.length ≤ 16777216) (hB : B ≤ w.heap.size)
    (h : ∀ v' w', OwnF E c k w' B v' (l ++ [d]) → (w.alloc (.cells (c d).toArray E)).grownBy w' v.ownBlock → wpListIn F n P ops Q rest (a.put o.dst v') w') :
    wpListIn F n P ops Q (o :: rest) a (w.alloc (.cells (c d).toArray E)) := by
  subst hbn
  obtain ⟨i, hi, hz0, hz1, hz2⟩ := parts_of hinfo
  refine wpListIn_append_own _ hgd s x T ho B E i _ k bytes hT hi hz0 hz1 hz2 hz hk v l.length (l.flatMap c) hs (World.ownsRow.alloc hown _) ⟨w.heap.size, 0, none⟩ 1 1 (c d) hx (by rw [hc]; omega) ?_ (h1 d) ?_ ?_ (by simp; omega) ?_
  · exact World.news_of_block (heap_alloc_new w _)
  · unfold maxLen
    omega
  · have : (l.length + 1) * bytes ≤ 16777217 * 1024 := Nat.mul_le_mul (by omega) hb0
    omega
  · intro v' w' hown' hg _
    refine h v' w' ?_ hg
    unfold OwnF
    have e : (l ++ [d]).flatMap c = l.flatMap c ++ c d := by simp
    rw [e, List.length_append]
    exact hown'
theorem OwnF.succ {α : Type} {E : TypeId} {c : α → List Value} {k : Nat} {w : World} {B : Nat} {v : Value} {l : List α} {x : α} (h : OwnF E c k w B v (l ++ [x])) : ∃ g cap, v = .slice (some ⟨g, 0, none⟩) (l.length + 1) cap := by
  have h : w.ownsRow B E k v (l ++ [x]).length ((l ++ [x]).flatMap c) := h
  rw [List.length_append] at h
  exact ownsRow_succ h
/-- What sparse.runs yields is short. -/
theorem runsGo_len (c : Bs) : ∀ (f a b : Nat), (runsGo c f a b).length ≤ c.length - b + 1
  | 0, a, b => Nat.zero_le _
  | f + 1, a, b => by
    by_cases h : b < c.length
    · by_cases hz : 32 ≤ zeros (c.drop b)
      · rw [runsGo_hole c f a b h hz, List.length_cons]
        have := runsGo_len c f (b + zeros (c.drop b)) (b + zeros (c.drop b))
        omega
      · rw [runsGo_data c f a b h hz]
        have := runsGo_len c f a (b + max (zeros (c.drop b)) 1)
        omega
    · rw [runsGo_end c f a b h]
      split
      · simp
      · simp
theorem runsGo_mem (c : Bs) : ∀ (f a b : Nat) (x : Bs × Nat), x ∈ runsGo c f a b → x.1.length ≤ c.length ∧ x.2 ≤ c.length
  | 0, a, b, x, hx => by cases hx
  | f + 1, a, b, x, hx => by
    by_cases h : b < c.length
    · by_cases hz : 32 ≤ zeros (c.drop b)
      · rw [runsGo_hole c f a b h hz] at hx
        rcases List.mem_cons.1 hx with rfl | hx
        · have := zeros_le (c.drop b)
          rw [List.length_drop] at this
          refine ⟨?_, ?_⟩
          · show ((c.drop a).take (b - a)).length ≤ _
            rw [List.length_take, List.length_drop]
            omega
          · show zeros (c.drop b) ≤ _
            omega
        · exact runsGo_mem c f _ _ x hx
      · rw [runsGo_data c f a b h hz] at hx
        exact runsGo_mem c f _ _ x hx
    · rw [runsGo_end c f a b h] at hx
      split at hx
      · rw [List.mem_singleton] at hx
        subst hx
        refine ⟨?_, Nat.zero_le _⟩
        show (c.drop a).length ≤ _
        rw [List.length_drop]
        omega
      · cases hx
theorem segOf_len (x : Bs × Nat) : (segOf x).length ≤ 2 := by
  unfold segOf
  rw [List.length_append]
  split <;> split <;> simp
theorem flat_len2 {α β : Type} (f : α → List β) (hf : ∀ x, (f x).length ≤ 2) : ∀ l : List α, (l.flatMap f).length ≤ 2 * l.length
  | [] => by simp
  | x :: l => by
    rw [List.flatMap_cons, List.length_append, List.length_cons]
    have := flat_len2 f hf l
    have := hf x
    omega
theorem runs_facts (c : Bs) (hl : c.length ≤ 65536) : ∀ pre x rest, runs c = pre ++ x :: rest → (pre.flatMap segOf).length ≤ 1000000 ∧ x.1.length ≤ 65536 ∧ x.2 ≤ 65536 := fun pre x rest h => by
  have h1 := runsGo_len c (c.length + 1) 0 0
  have h2 := runsGo_mem c (c.length + 1) 0 0 x (by
    show x ∈ runs c
    rw [h]
    simp)
  have h3 : (runs c).length ≤ c.length - 0 + 1 := h1
  rw [h, List.length_append, List.length_cons] at h3
  have := flat_len2 segOf segOf_len pre
  exact ⟨by omega, by omega, by omega⟩

set_option maxHeartbeats 4000000 in
set_option maxRecDepth 100000 in
theorem segs_any (c : Bs) (w : World) (hl : c.length ≤ 65536) :
    Calls Tryz.prog 124 #[.string ⟨c.toArray⟩] w fun e w' => ∃ v, e = .returned v ∧ OwnS w' w.heap.size v (segs c) ∧ Below w.heap.size w w' := by
  obtain ⟨W, hW, hbW, hsz, B0, B1⟩ := two_boxes w 196 9 (.slice none 0 0) (.string ⟨c.toArray⟩)
  refine (callsIn_wide (n := 5)).1 ?_
  refine callsIn_of_wp_marks Tryz.func124 rfl trivial ?_ rfl
  simp only [Tryz.ntmps124, List.size_toArray, List.length_cons, List.length_nil, Nat.reduceAdd, Nat.reduceSub, Array.replicate_succ, Array.replicate_zero, List.push_toArray, List.append_toArray, List.nil_append, List.cons_append]
  have hbox := runs_box 4 (by omega) W.heap.size w.heap.size (w.heap.size + 1) c W (Nat.le_refl _) ⟨by omega, by omega⟩ B1.cell (by omega)
  gi_wp2
  refine ⟨trivial, ?_⟩
  refine (callsIn_wide.2 (runs_any _ _)).mono ?_
  rintro e w2 ⟨rfl, rfl⟩
  gi_wp2
  have HL := Lib.hid (runs_facts c hl)
  refine wpIn_rangeFunc_box rfl (by omega) (gf := 179) (lb := #[.pointer (some ⟨w.heap.size + 1, 0, none⟩)]) rfl trivial (enters_of Tryz.func179 (by kernel_rfl) rfl)
    hbox (fun h k => h.trans k) (keptB_b (Nat.le_refl _)) (Below.refl _ _) (by omega) (fun _ => rfl)
    (fun pre X => (∃ v, Boxed X w.heap.size 196 v ∧ X.ownsRow W.heap.size 199 2 v (pre.flatMap segOf).length ((pre.flatMap segOf).flatMap segC) ∧ True) ∧ (Below w.heap.size w X ∧ W.heap.size ≤ X.heap.size))
    (OwnFrom.and (Go.Own.from (holdsRow_own W.heap.size w.heap.size 196 199 2 (fun pre : List (Bs × Nat) => (pre.flatMap segOf).length) (fun pre => (pre.flatMap segOf).flatMap segC) (fun _ _ => True)) _) (OwnFrom.and (ownFrom_below (Nat.le_refl _) (by omega)) (fun _ _ _ _ h hg _ => Nat.le_trans h hg.size)))
    (fun s A B' h hg => by
      obtain ⟨⟨v, h1, h2, h3⟩, h4, h5⟩ := h
      exact ⟨⟨v, h1.kept hg (fun e => by injection e with e; omega), OwnF.far (c := segC) (l := s.flatMap segOf) h2 hg (by omega), trivial⟩, h4.grown hg (by have := hbW.size; omega) (fun k e => by injection e; omega), Nat.le_trans h5 hg.size⟩)
    ⟨⟨_, B0, OwnF.nil (c := segC) (α := Seg) _ _, trivial⟩, hbW, Nat.le_refl _⟩
    (fun x => { tmps := #[.string ⟨c.toArray⟩, undef, .slice none 0 0, .pointer (some ⟨w.heap.size, 0, none⟩), .string ⟨x.1.toArray⟩, .int .i64 x.2, .string ⟨c.toArray⟩, .func (.func 179) #[] #[.pointer (some ⟨w.heap.size + 1, 0, none⟩)], .string ⟨x.1.toArray⟩, .int .i64 x.2, undef, undef, undef, undef, undef, undef, undef, undef, undef, undef, undef, undef, undef, undef, undef], defers := [] }) ?assign ?body ?done
  case assign =>
    intro l x X K hK
    gi_wp2
    exact hK
  case body =>
    rintro l pre x rest X hxs ⟨⟨v, hv, hrow, _⟩, hB, hB4⟩
    obtain ⟨hn1, hn2, hn3⟩ := HL.out pre x rest hxs
    have hcv := hv.cell
    have hfr := hv.frozen
    have hrow : OwnS X W.heap.size v (pre.flatMap segOf) := hrow
    have hap : (pre ++ [x]).flatMap segOf = pre.flatMap segOf ++ segOf x := by simp
    obtain ⟨d, m⟩ := x
    simp only at *
    have hE : segOf (d, m) = (if d = [] then [] else [⟨d, 0⟩]) ++ (if 0 < m then [⟨[], m⟩] else []) := rfl
    generalize hLL : pre.flatMap segOf = L at *
    have HLL := Lib.hid hLL
    clear hLL
    obtain ⟨va, vc, rfl, _, _⟩ := hrow.form
    by_cases hd : d = []
    · by_cases hm : 0 < m
      · rw [hE, if_pos hd, if_pos hm, List.nil_append] at hap
        have hd' : d.isEmpty = true := by rw [hd]; rfl
        have HA := Lib.hid hap
        clear hap hE hd
        gi_wp2_with (gi_at_builtin; refine wpListIn_appF 199 196 segC 2 24 _ info_seg Tryz.underlying196 rfl (by decide) (by decide) segC_len segC_one rfl _ _ rfl W.heap.size _ _ rfl hrow (⟨[], m⟩ : Seg) _ rfl rfl (by first | omega | (simp; omega)) hB4 ?_; intro v1 w1 ho1 hg1; obtain ⟨g1, cap1, rfl⟩ := ho1.succ; obtain ⟨hv1, hb1, hr1, hk1, hl1, hp1⟩ := box_app (n0 := w.heap.size) (by decide) hv hrow (by omega) hB4 (Nat.le_refl _) ho1 hg1; have hc1 := hv1.cell; have hf1 := hv1.frozen; have hd1 := hb1.cell; have he1 := hb1.frozen; have hs1 := Nat.le_trans hB4 hp1.1)
        exact ⟨hk1, hp1, ⟨_, hb1, by rw [HA.out]; exact hr1, trivial⟩, hB.trans hl1, hs1⟩
      · rw [hE, if_pos hd, if_neg hm, List.nil_append, List.append_nil] at hap
        have hd' : d.isEmpty = true := by rw [hd]; rfl
        have HA := Lib.hid hap
        clear hap hE hd
        gi_wp2
        exact ⟨⟨Nat.le_refl _, fun _ _ h _ => h⟩, KeptB.refl _ _ _, ⟨_, hv, by rw [HA.out]; exact hrow, trivial⟩, hB, hB4⟩
    · have hd' : d.isEmpty = false := by
        cases d with
        | nil => exact absurd rfl hd
        | cons y t => rfl
      by_cases hm : 0 < m
      · rw [hE, if_neg hd, if_pos hm, ← List.append_assoc] at hap
        have HA := Lib.hid hap
        clear hap hE hd
        have hmark : True := trivial
        gi_wp2_with (first | (clear hmark; (gi_at_builtin; refine wpListIn_appF 199 196 segC 2 24 _ info_seg Tryz.underlying196 rfl (by decide) (by decide) segC_len segC_one rfl _ _ rfl W.heap.size _ _ rfl hrow (⟨d, 0⟩ : Seg) _ rfl rfl (by first | omega | (simp; omega)) hB4 ?_; intro v1 w1 ho1 hg1; obtain ⟨g1, cap1, rfl⟩ := ho1.succ; obtain ⟨hv1, hb1, hr1, hk1, hl1, hp1⟩ := box_app (n0 := w.heap.size) (by decide) hv hrow (by omega) hB4 (Nat.le_refl _) ho1 hg1; have hc1 := hv1.cell; have hf1 := hv1.frozen; have hd1 := hb1.cell; have he1 := hb1.frozen; have hs1 := Nat.le_trans hB4 hp1.1)) | (gi_at_builtin; refine wpListIn_appF 199 196 segC 2 24 _ info_seg Tryz.underlying196 rfl (by decide) (by decide) segC_len segC_one rfl _ _ rfl W.heap.size _ _ rfl hr1 (⟨[], m⟩ : Seg) _ rfl (by simp) (by first | omega | (simp; omega)) hs1 ?_; intro v2 w2 ho2 hg2; obtain ⟨g2, cap2, rfl⟩ := ho2.succ; obtain ⟨hv2, hb2, hr2, hk2, hl2, hp2⟩ := box_app (n0 := w.heap.size) (by decide) hb1 hr1 (by omega) hs1 (Nat.le_refl _) ho2 hg2; have hc2 := hv2.cell; have hf2 := hv2.frozen; have hd2 := hb2.cell; have he2 := hb2.frozen; have hs2 := Nat.le_trans hs1 hp2.1))
        simp only [List.length_append, List.length_cons, List.length_nil, Nat.zero_add] at hk2 hp2 hb2 hr2 hl2 hs2
        exact ⟨hk1.trans hk2, hp1.trans hp2, ⟨_, hb2, by rw [HA.out]; exact hr2, trivial⟩, (hB.trans hl1).trans hl2, hs2⟩
      · rw [hE, if_neg hd, if_neg hm, List.append_nil] at hap
        have HA := Lib.hid hap
        clear hap hE hd
        gi_wp2_with (gi_at_builtin; refine wpListIn_appF 199 196 segC 2 24 _ info_seg Tryz.underlying196 rfl (by decide) (by decide) segC_len segC_one rfl _ _ rfl W.heap.size _ _ rfl hrow (⟨d, 0⟩ : Seg) _ rfl rfl (by first | omega | (simp; omega)) hB4 ?_; intro v1 w1 ho1 hg1; obtain ⟨g1, cap1, rfl⟩ := ho1.succ; obtain ⟨hv1, hb1, hr1, hk1, hl1, hp1⟩ := box_app (n0 := w.heap.size) (by decide) hv hrow (by omega) hB4 (Nat.le_refl _) ho1 hg1; have hc1 := hv1.cell; have hf1 := hv1.frozen; have hd1 := hb1.cell; have he1 := hb1.frozen; have hs1 := Nat.le_trans hB4 hp1.1)
        exact ⟨hk1, hp1, ⟨_, hb1, by rw [HA.out]; exact hr1, trivial⟩, hB.trans hl1, hs1⟩
  case done =>
    rintro D X hD ⟨⟨v, hv, hrow, _⟩, hB, hB4⟩ hK
    have hrow : OwnS X W.heap.size v (segs c) := hrow
    obtain ⟨SG, hSG⟩ : ∃ SG, segs c = SG := ⟨_, rfl⟩
    rw [hSG] at hrow
    have HSG := Lib.hid hSG
    clear hSG
    obtain ⟨ao2, cap2, rfl, _⟩ := hrow.form
    have hcv := hv.cell
    gi_wp2
    refine ⟨by simp, .inl ⟨_, _, rfl, run_takeDeferred hK, ?_⟩⟩
    refine ⟨_, results_tmp rfl _ _ _, _, rfl, ?_, hB.trans (belowK_b (w := w) (Nat.le_refl _) X D _ _ (by omega) hK rfl rfl)⟩
    rw [HSG.out]
    exact OwnF.mono' (c := segC) (l := SG) (ownsRow_putObj hrow _ hK rfl) (by omega : w.heap.size ≤ W.heap.size)
end Go.Proofs.YtbhmdcdhklgomaaGreatDoor

/-
  chunker.Split: the iterator that writes its box, slices.AppendSeq, slices.Collect.
-/
namespace Go.Proofs.YtbhmdcdhklgomaaGreatDoor
open Go.RowKit Go.Shelf Top
attribute [local go_sem] Oper.semAt_some

theorem firstGo_le : ∀ (l : Bs) (i : Nat) (h : Int), i ≤ firstGo i h l ∧ firstGo i h l ≤ i + l.length
  | [], i, h => by simp [firstGo]
  | c :: l, i, h => by
    have hh : firstGo i h (c :: l) = if i + 1 = 96 ∨ (16 ≤ i + 1 ∧ hstep h c < 2048) then i + 1 else firstGo (i + 1) (hstep h c) l := rfl
    rw [hh]
    split
    · simp
    · have := firstGo_le l (i + 1) (hstep h c)
      simp only [List.length_cons]
      omega
theorem first_le (d : Bs) : first d ≤ d.length := by
  have := firstGo_le d 0 0
  unfold first
  omega
theorem first_pos {d : Bs} (h : d ≠ []) : 1 ≤ first d := by
  cases d with
  | nil => exact absurd rfl h
  | cons c l =>
    unfold first
    have hh : firstGo 0 0 (c :: l) = if 0 + 1 = 96 ∨ (16 ≤ 0 + 1 ∧ hstep 0 c < 2048) then 0 + 1 else firstGo (0 + 1) (hstep 0 c) l := rfl
    rw [hh]
    split
    · omega
    · exact (firstGo_le l 1 (hstep 0 c)).1
theorem chunksGo_nil (f : Nat) : chunksGo f [] = [] := by cases f <;> rfl
theorem chunksGo_cons (f : Nat) {d : Bs} (h : d ≠ []) : chunksGo (f + 1) d = d.take (first d) :: chunksGo f (d.drop (first d)) := by
  show (if d = [] then _ else _) = _
  rw [if_neg h]
theorem chunksGo_len : ∀ (f : Nat) (d : Bs), (chunksGo f d).length ≤ f
  | 0, d => Nat.le_refl _
  | f + 1, d => by
    by_cases h : d = []
    · subst h
      rw [chunksGo_nil]
      simp
    · rw [chunksGo_cons f h, List.length_cons]
      have := chunksGo_len f (d.drop (first d))
      omega
theorem bx_take (x : Bs) (a : Nat) : (⟨x.toArray⟩ : ByteArray).extract 0 a = ⟨(x.take a).toArray⟩ := by
  apply ByteArray.ext
  rw [ByteArray.data_extract]
  apply Array.ext'
  simp [List.extract_eq_take_drop]

theorem chunks_fn (c : ByteArray) (w : World) :
    Calls Tryz.prog 153 #[.string c] w fun e w' => e = .returned (.func (.func 182) #[] #[.pointer (some ⟨w.heap.size, 0, none⟩)]) ∧ w' = w.alloc (.cells #[.string c] 9) := by
  go_enter Tryz.func153, Tryz.ntmps153
  go_wp2_with fail
  go_ret
  exact ⟨rfl, rfl⟩
def strSize : Option Value → Nat
  | some (.string s) => s.size
  | _ => 0

set_option maxHeartbeats 4000000 in
set_option maxRecDepth 100000 in
theorem chunks_box (n : Nat) (hn : 1 ≤ n) (N0 b B : Nat) (d : Bs) (w : World) (hN : N0 ≤ w.heap.size) (hB : B < N0 ∧ B ≠ b) (hc : Boxed w B 9 (.string ⟨d.toArray⟩)) (hl : d.length ≤ 1000000000) :
    SeqBox Fence.wide n Tryz.prog 182 #[.pointer (some ⟨B, 0, none⟩)] (fun x : Bs => #[.string ⟨x.toArray⟩]) (KeptB N0 b) B (chunks d) w := fun l J W hW hJ hJb hY h0 => by
  have hc0 : Boxed W B 9 (.string ⟨d.toArray⟩) := (hW.block B (by omega)).trans hc
  have HY := Lib.hid hY
  have HJB := Lib.hid hJb
  have H0 : Hid (chunks d = [] ++ chunksGo d.length d) := rfl
  clear hY hc hW hJ hJb
  refine callsIn_of_wp Tryz.func182 rfl trivial ?_ rfl
  simp only [Tryz.ntmps182, List.size_toArray, List.length_cons, List.length_nil, Nat.reduceAdd, Nat.reduceSub, Array.replicate_succ, Array.replicate_zero, List.push_toArray, List.append_toArray, List.nil_append, List.cons_append]
  gi_wp2
  gi_loopw [] (fun wr => ∃ (r : Bs) (f : Nat) (pre : List Bs), r.length ≤ f ∧ r.length ≤ 1000000000 ∧ Hid (chunks d = pre ++ chunksGo f r) ∧ J pre wr ∧ Boxed wr B 9 (.string ⟨r.toArray⟩)) (fun wr => strSize (wr.cell? ⟨B, 0, none⟩))
  case atStart => exact ⟨d, d.length, [], Nat.le_refl _, hl, H0, h0, hc0⟩
  case round =>
    obtain ⟨r, f, pre, hrf, hrl, hch, hJr, hbx⟩ := hrel
    have hcw := hbx.cell
    by_cases hr : r = []
    · have hq := hch.out
      rw [hr, chunksGo_nil, List.append_nil] at hq
      have HQ := Lib.hid hq
      have hr' : r.isEmpty = true := by rw [hr]; rfl
      clear hq hr
      gi_wp2
      go_end0
      rw [HQ.out]
      exact ⟨⟨_, rfl⟩, hJr⟩
    · have hr' : r.isEmpty = false := by
        cases r with
        | nil => exact absurd rfl hr
        | cons y t => rfl
      obtain ⟨f, rfl⟩ : ∃ f', f = f' + 1 := ⟨f - 1, by
        have : 0 < r.length := List.length_pos_iff.2 hr
        omega⟩
      have hq := hch.out
      rw [chunksGo_cons f hr] at hq
      have h1 := first_pos hr
      have h2 := first_le r
      have HF := Lib.hid (first_any r wr hrl)
      have HTK := Lib.hid (bx_take r (first r))
      have hdr : (⟨r.toArray⟩ : ByteArray).extract (first r) r.length = ⟨(r.drop (first r)).toArray⟩ := bx_drop r (first r)
      have HDR := Lib.hid hdr
      have hU : (⟨r.toArray⟩ : ByteArray).size = r.length := rfl
      obtain ⟨fn, tmps, assign, body, hy, hR⟩ := HY.out pre _ _ wr hq hJr
      rw [← HTK.out] at hy
      have hq2 : chunks d = (pre ++ [r.take (first r)]) ++ chunksGo f (r.drop (first r)) := by rw [hq, List.append_assoc]; rfl
      have HQ := Lib.hid hq2
      have hln : (r.drop (first r)).length = r.length - first r := List.length_drop
      have hR := Lib.hid hR
      generalize r.take (first r) = T at *
      generalize r.drop (first r) = R2 at *
      generalize first r = z at *
      clear hdr hq hq2 hr
      gi_wp2
      refine ⟨trivial, ?_⟩
      refine (callsIn_wide.2 HF.out).mono ?_
      rintro e w' ⟨rfl, rfl⟩
      gi_wp2
      refine hR.out.mono ?_
      rintro e W3 ⟨rfl, hJ3, hk3⟩
      have hb3 : Boxed W3 B 9 (.string ⟨r.toArray⟩) := (hk3.2 B hB.1 hB.2).trans hbx
      have hc3 := hb3.cell
      have hf3 := hb3.frozen
      gi_wp2
      rw [HDR.out]
      have hb4 := hb3.set (.string ⟨R2.toArray⟩)
      go_roundw
      case rel => exact ⟨R2, f, pre ++ [T], by omega, by omega, HQ, HJB.out _ _ _ hJ3 (grownBy_setCell' W3 B _), hb4⟩
      case measure =>
        rw [hb4.cell, hcw]
        show R2.length < r.length
        omega
end Go.Proofs.YtbhmdcdhklgomaaGreatDoor

/-
  slices.AppendSeq, slices.Collect over the chunker's iterator; chunker.Split.
-/
namespace Go.Proofs.YtbhmdcdhklgomaaGreatDoor
open Go.RowKit Go.Shelf Top
attribute [local go_sem] Oper.semAt_some

def strC (s : Bs) : List Value := [.string ⟨s.toArray⟩]
theorem strC_len (s : Bs) : (strC s).length = 1 := rfl
theorem strC_one (s : Bs) : ∀ u ∈ strC s, u.oneCell' = true := by
  intro u hu
  simp only [strC, List.mem_singleton] at hu
  rw [hu]
  rfl
theorem info_strT : (Tryz.prog.info? 9).map (fun i => (i.zero, i.size, i.bytes)) = some (some (.string ByteArray.empty), 1, 16) := by kernel_rfl
abbrev OwnStr := OwnF 9 strC 1

set_option maxHeartbeats 4000000 in
set_option maxRecDepth 100000 in
theorem appendSeq_any (n0 B : Nat) (d : Bs) (w : World) (hc : Boxed w B 9 (.string ⟨d.toArray⟩)) (hn0 : n0 ≤ B) (hl : d.length ≤ 65536) :
    Calls Tryz.prog 181 #[.slice none 0 0, .func (.func 182) #[] #[.pointer (some ⟨B, 0, none⟩)]] w fun e w' => ∃ v, e = .returned v ∧ OwnStr w' w.heap.size v (chunks d) ∧ Below n0 w w' := by
  have hBlt := hc.lt
  obtain ⟨W, hW, hbW, hsz, B0⟩ : ∃ W, w.alloc (.cells #[.slice none 0 0] 130) = W ∧ Below w.heap.size w W ∧ W.heap.size = w.heap.size + 1 ∧ Boxed W w.heap.size 130 (.slice none 0 0) :=
    ⟨_, rfl, (Below.refl _ w).alloc (Nat.le_refl _) _, by simp, Boxed.new w _ _⟩
  have hcW : Boxed W B 9 (.string ⟨d.toArray⟩) := (hbW.block B hBlt).trans hc
  refine (callsIn_wide (n := 5)).1 ?_
  refine callsIn_of_wp_marks Tryz.func181 rfl trivial ?_ rfl
  simp only [Tryz.ntmps181, List.size_toArray, List.length_cons, List.length_nil, Nat.reduceAdd, Nat.reduceSub, Array.replicate_succ, Array.replicate_zero, List.push_toArray, List.append_toArray, List.nil_append, List.cons_append]
  have hbox := chunks_box 4 (by omega) W.heap.size w.heap.size B d W (Nat.le_refl _) ⟨by omega, by omega⟩ hcW (by omega)
  have hbn : Below n0 w W := hbW.mono (by omega)
  have hcl : (chunks d).length ≤ 65536 := Nat.le_trans (chunksGo_len _ _) hl
  have HCL := Lib.hid hcl
  clear hcl
  gi_wp2
  refine wpIn_rangeFunc_box rfl (by omega) (gf := 182) (lb := #[.pointer (some ⟨B, 0, none⟩)]) rfl trivial (enters_of Tryz.func182 (by kernel_rfl) rfl)
    hbox (fun h k => h.trans k) (keptB_b (Nat.le_refl _)) (Below.refl _ _) (by omega) (fun _ => rfl)
    (fun pre X => (∃ v, Boxed X w.heap.size 130 v ∧ X.ownsRow W.heap.size 9 1 v pre.length (pre.flatMap strC) ∧ True) ∧ (Below n0 w X ∧ W.heap.size ≤ X.heap.size))
    (OwnFrom.and (Go.Own.from (holdsRow_own W.heap.size w.heap.size 130 9 1 (fun pre : List Bs => pre.length) (fun pre => pre.flatMap strC) (fun _ _ => True)) _) (OwnFrom.and (ownFrom_below (by omega) (by omega)) (fun _ _ _ _ h hg _ => Nat.le_trans h hg.size)))
    (fun s A B' h hg => by
      obtain ⟨⟨v, h1, h2, h3⟩, h4, h5⟩ := h
      exact ⟨⟨v, h1.kept hg (fun e => by injection e with e; omega), OwnF.far (c := strC) (l := s) h2 hg (by omega), trivial⟩, h4.grown hg (by omega) (fun k e => by injection e; omega), Nat.le_trans h5 hg.size⟩)
    ⟨⟨_, B0, OwnF.nil (c := strC) (α := Bs) _ _, trivial⟩, hbn, Nat.le_refl _⟩
    (fun x => { tmps := #[.slice none 0 0, .func (.func 182) #[] #[.pointer (some ⟨B, 0, none⟩)], .pointer (some ⟨w.heap.size, 0, none⟩), undef, .slice none 0 0, .string ⟨x.toArray⟩, .func (.func 182) #[] #[.pointer (some ⟨B, 0, none⟩)], .string ⟨x.toArray⟩, undef, undef, undef, undef, undef], defers := [] }) ?assign ?body ?done
  case assign =>
    intro l x X K hK
    gi_wp2
    exact hK
  case body =>
    rintro l pre x rest X hxs ⟨⟨v, hv, hrow, _⟩, hB, hB4⟩
    have hlen : pre.length ≤ 65536 := by
      have := HCL.out
      rw [hxs, List.length_append] at this
      omega
    have hcv := hv.cell
    have hfr := hv.frozen
    have hrow : OwnStr X W.heap.size v pre := hrow
    obtain ⟨va, vc, rfl, _, _⟩ := hrow.form
    gi_wp2_with (gi_at_builtin; refine wpListIn_appF 9 130 strC 1 16 _ info_strT Tryz.underlying130 rfl (by decide) (by decide) strC_len strC_one rfl _ _ rfl W.heap.size _ _ rfl hrow x _ rfl rfl (by omega) hB4 ?_; intro v1 w1 ho1 hg1; obtain ⟨g1, cap1, rfl⟩ := ho1.succ; obtain ⟨hv1, hb1, hr1, hk1, hl1, hp1⟩ := box_app (n0 := n0) (by decide) hv hrow (by omega) hB4 (by omega) ho1 hg1; have hc1 := hv1.cell; have hf1 := hv1.frozen; have hs1 := Nat.le_trans hB4 hp1.1)
    refine ⟨hk1, hp1, ⟨_, hb1, ?_, trivial⟩, hB.trans hl1, hs1⟩
    exact hr1
  case done =>
    rintro D X hD ⟨⟨v, hv, hrow, _⟩, hB, hB4⟩ hK
    have hrow : OwnStr X W.heap.size v (chunks d) := hrow
    obtain ⟨SG, hSG⟩ : ∃ SG, chunks d = SG := ⟨_, rfl⟩
    rw [hSG] at hrow
    have HSG := Lib.hid hSG
    clear hSG
    obtain ⟨ao2, cap2, rfl, _⟩ := hrow.form
    have hcv := hv.cell
    gi_wp2
    refine ⟨by simp, .inl ⟨_, _, rfl, run_takeDeferred hK, ?_⟩⟩
    refine ⟨_, results_tmp rfl _ _ _, _, rfl, ?_, hB.trans (belowK_b (w := w) (by omega) X D _ _ (by omega) hK rfl rfl)⟩
    rw [HSG.out]
    exact OwnF.mono' (c := strC) (l := SG) (ownsRow_putObj hrow _ hK rfl) (by omega : w.heap.size ≤ W.heap.size)

set_option maxRecDepth 100000 in
theorem collect_any (n0 B : Nat) (d : Bs) (w : World) (hc : Boxed w B 9 (.string ⟨d.toArray⟩)) (hn0 : n0 ≤ B) (hl : d.length ≤ 65536) :
    Calls Tryz.prog 152 #[.func (.func 182) #[] #[.pointer (some ⟨B, 0, none⟩)]] w fun e w' => ∃ v, e = .returned v ∧ OwnStr w' w.heap.size v (chunks d) ∧ Below n0 w w' := by
  go_enter Tryz.func152, Tryz.ntmps152
  go_wp2_with fail
  refine (appendSeq_any n0 B d w hc hn0 hl).mono ?_
  rintro e w' ⟨v, rfl, ho, hb⟩
  go_wp2_with fail
  go_ret
  exact ⟨_, rfl, ho, hb⟩
set_option maxRecDepth 100000 in
/-- chunker.Split. -/
theorem chunks_any (d : Bs) (w : World) (hl : d.length ≤ 65536) :
    Calls Tryz.prog 125 #[.string ⟨d.toArray⟩] w fun e w' => ∃ v, e = .returned v ∧ OwnStr w' w.heap.size v (chunks d) ∧ Below w.heap.size w w' := by
  go_enter Tryz.func125, Tryz.ntmps125
  go_wp2_with fail
  refine (chunks_fn _ w).mono ?_
  rintro e w' ⟨rfl, rfl⟩
  have hb1 := (Below.refl w.heap.size w).alloc (Nat.le_refl _) (.cells #[.string ⟨d.toArray⟩] 9)
  have hbx := Boxed.new w 9 (.string ⟨d.toArray⟩)
  go_wp2_with fail
  refine (collect_any w.heap.size w.heap.size d _ hbx (Nat.le_refl _) hl).mono ?_
  rintro e w' ⟨v, rfl, ho, hb⟩
  go_wp2_with fail
  go_ret
  exact ⟨_, rfl, ho.mono' hb1.size, hb1.trans hb⟩
end Go.Proofs.YtbhmdcdhklgomaaGreatDoor
