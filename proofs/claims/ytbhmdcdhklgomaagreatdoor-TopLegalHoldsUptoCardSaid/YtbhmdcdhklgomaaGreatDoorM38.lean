/-
  session.Append.
-/
import Derived.Test.YtbhmdcdhklgomaaGreatDoorM37
namespace Go.Proofs.YtbhmdcdhklgomaaGreatDoor
open Go.RowKit Top

theorem row6 {w : World} {b : Nat} {T : TypeId} {v0 v1 v2 v3 v4 v5 : Value} (h : w.heap[b]? = some (.cells #[v0, v1, v2, v3, v4, v5] T (0, 0))) :
    w.cell? ⟨b, 0, none⟩ = some v0 ∧ w.cell? ⟨b, 1, none⟩ = some v1 ∧ w.cell? ⟨b, 2, none⟩ = some v2 ∧ w.cell? ⟨b, 3, none⟩ = some v3 ∧ w.cell? ⟨b, 4, none⟩ = some v4 ∧ w.cell? ⟨b, 5, none⟩ = some v5 :=
  ⟨tcell h 0 v0 rfl, tcell h 1 v1 rfl, tcell h 2 v2 rfl, tcell h 3 v3 rfl, tcell h 4 v4 rfl, tcell h 5 v5 rfl⟩
theorem row4 {w : World} {b : Nat} {T : TypeId} {v0 v1 v2 v3 : Value} (h : w.heap[b]? = some (.cells #[v0, v1, v2, v3] T (0, 0))) :
    (w.cell? ⟨b, 0, none⟩ = some v0 ∧ w.cell? ⟨b, 1, none⟩ = some v1 ∧ w.cell? ⟨b, 2, none⟩ = some v2 ∧ w.cell? ⟨b, 3, none⟩ = some v3) ∧ w.frozen? ⟨b, 0, none⟩ = false ∧ w.frozen? ⟨b, 1, none⟩ = false ∧ w.frozen? ⟨b, 2, none⟩ = false ∧ w.frozen? ⟨b, 3, none⟩ = false :=
  ⟨⟨tcell h 0 v0 rfl, tcell h 1 v1 rfl, tcell h 2 v2 rfl, tcell h 3 v3 rfl⟩, tfree h 0, tfree h 1, tfree h 2, tfree h 3⟩
theorem set4 {w : World} {b : Nat} {T : TypeId} {u0 u1 u2 u3 : Value} (h : w.heap[b]? = some (.cells #[u0, u1, u2, u3] T (0, 0))) (v0 v1 v2 v3 : Value) :
    ((((w.setCell ⟨b, 0, none⟩ v0).setCell ⟨b, 1, none⟩ v1).setCell ⟨b, 2, none⟩ v2).setCell ⟨b, 3, none⟩ v3).heap[b]? = some (.cells #[v0, v1, v2, v3] T (0, 0)) ∧
    w.grownBy ((((w.setCell ⟨b, 0, none⟩ v0).setCell ⟨b, 1, none⟩ v1).setCell ⟨b, 2, none⟩ v2).setCell ⟨b, 3, none⟩ v3) (some b) :=
  ⟨sets h [(0, v0), (1, v1), (2, v2), (3, v3)], set_grown (w := w) (b := b) [(0, v0), (1, v1), (2, v2), (3, v3)]⟩
theorem base_apd (w : World) (c0 c1 c2 c3 s0 s1 s2 s3 s4 s5 : Value) : ∃ W, ((w.alloc (.cells #[c0, c1, c2, c3] 30)).alloc (.cells #[s0, s1, s2, s3, s4, s5] 39)).alloc (.cells #[.int .u32 0, .int .i64 0, .int .i64 0, .slice none 0 0] 30) = W ∧
    W.heap[w.heap.size]? = some (.cells #[c0, c1, c2, c3] 30 (0, 0)) ∧ W.heap[w.heap.size + 1]? = some (.cells #[s0, s1, s2, s3, s4, s5] 39 (0, 0)) ∧
    W.heap[w.heap.size + 1 + 1]? = some (.cells #[.int .u32 0, .int .i64 0, .int .i64 0, .slice none 0 0] 30 (0, 0)) ∧ Below w.heap.size w W ∧ w.heap.size + 1 + 1 < W.heap.size := by
  generalize (Obj.cells #[c0, c1, c2, c3] 30) = A
  generalize (Obj.cells #[s0, s1, s2, s3, s4, s5] 39) = B
  generalize hC : (Obj.cells #[.int .u32 0, .int .i64 0, .int .i64 0, .slice none 0 0] 30) = C
  have e0 := heap_alloc_new w A
  have hb1 := (Below.refl _ w).alloc (Nat.le_refl _) A
  generalize hw1 : w.alloc A = w1 at *
  have hs1 : w1.heap.size = w.heap.size + 1 := by rw [← hw1]; simp
  have e1 := heap_alloc_new w1 B
  have hb2 := (Below.refl _ w1).alloc (Nat.le_refl _) B
  have hs2 : (w1.alloc B).heap.size = w.heap.size + 1 + 1 := by simp [hs1]
  generalize w1.alloc B = w2 at *
  have e2 := heap_alloc_new w2 C
  have hb3 := (Below.refl _ w2).alloc (Nat.le_refl _) C
  rw [hs1] at e1
  rw [hs2] at e2
  have hb12 := hb1.trans (hb2.mono hb1.size)
  refine ⟨_, rfl, (hb3.block _ (by omega)).trans ((hb2.block _ (by omega)).trans e0), (hb3.block _ (by omega)).trans e1, ?_, hb12.trans (hb3.mono hb12.size), by simp [hs2]⟩
  rw [e2, ← hC]

set_option maxHeartbeats 4000000 in
set_option maxRecDepth 100000 in
theorem append_any (v sv : Value) (l : List Ses) (s : Ses) (w : World) (hv : ArcV w v l) (hsv : SesV w sv s) (hg : Ground w) (hok : ∀ x ∈ l, SesOk x) (hl : l.length ≤ 65535) :
    Calls Tryz.prog 24 #[v, sv] w fun en w' => ∃ v', en = .returned (.tuple #[v', .int .i64 (appendS l s).2]) ∧ ArcV w' v' (appendS l s).1 ∧ Below w.heap.size w w' := by
  have HV := Lib.hid (fun X (hX : Below w.heap.size w X) => hv.below hX)
  have HSV := Lib.hid hsv
  have HG := Lib.hid hg
  have HOK := Lib.hid hok
  obtain ⟨id, da, sp, sa, sc, rfl, hs⟩ := hv
  obtain ⟨ea, ec, rfl, hen⟩ := hsv
  obtain ⟨W, hW, q0, q1, q2, hbW, hsz⟩ := base_apd w (.int .u32 id) (.int .i64 da) (.int .i64 sp) (.slice sa l.length sc) (.int .i64 s.num) (.int .i64 s.date) (.string ⟨s.prev.toArray⟩) (.slice ea s.entries.length ec) (.string ⟨s.stream.toArray⟩) (.string ⟨s.sign.toArray⟩)
  have HQ0 := Lib.hid q0
  have HQ1 := Lib.hid q1
  have HQ2 := Lib.hid q2
  obtain ⟨⟨a0, a1, a2, a3⟩, _⟩ := row4 q0
  obtain ⟨s0, s1, s2, s3, s4, s5⟩ := row6 q1
  obtain ⟨⟨y0, y1, y2, y3⟩, z0, z1, z2, z3⟩ := row4 q2
  have HS := Lib.hid hs
  have HEN := Lib.hid hen
  clear hg hok q0 q1 q2 hs hen
  go_enter Tryz.func24, Tryz.ntmps24
  go_upto_region 1 with (fail)
  try rw [hW]
  clear hW
  by_cases n1 : 255 ≤ l.length
  · have HR : Hid (appendS l s = (l, 6)) := Lib.hid (if_pos n1)
    have n1' : (255 : Int) ≤ (l.length : Int) := by omega
    go_wp2_with fail
    try simp only [Exit.inBlock, Exit.then]
    obtain ⟨t1, sg⟩ := set4 HQ2.out (.int .u32 id) (.int .i64 da) (.int .i64 sp) (.slice sa l.length sc)
    refine bodyPost_ret (results_row_tmp (p := 4) (u := 5) (ty := 30) rfl _ _ (w.heap.size + 1 + 1) 30 _ (0, 0) _ rfl t1 Tryz.underlying30 rfl (by kernel_rfl)) rfl ?_
    rw [HR.out]
    exact ⟨_, rfl, (HV.out _ hbW).oth free_arc rfl HQ2.out (Oth.of_grown sg), hbW.grown sg hbW.size (fun k hk => by injection hk; omega)⟩
  have n1' : ¬ (255 : Int) ≤ (l.length : Int) := by omega
  have q1 : IntKind.i64.wrap ((l.length : Int) + 1) = (l.length : Int) + 1 := by rw [IntKind.wrap_i64]; omega
  have hl0 : w.heap.size < W.heap.size := by omega
  have hl1 : w.heap.size + 1 < W.heap.size := by omega
  have HLD := Lib.hid (lastDate_any _ l W.drew (HV.out W.drew hbW.drew))
  go_upto_region 3 with (fail)
  by_cases n2 : s.num = (l.length : Int) + 1
  case neg =>
    have HR : Hid (appendS l s = (l, 14)) := Lib.hid (by unfold appendS; rw [if_neg n1, if_pos (.inl n2)])
    have n2' : (s.num != (l.length : Int) + 1) = true := bne_iff_ne.2 n2
    go_quiet (fail)
    have hX := below_drewN (Below.refl W.heap.size W) nq
    generalize W.drewN nq = X at hX ⊢
    have hbX := hbW.trans (hX.mono hbW.size)
    have HX2 := Lib.hid ((hX.block _ hsz).trans HQ2.out)
    obtain ⟨⟨a0, a1, a2, a3⟩, _⟩ := row4 ((hX.block _ hl0).trans HQ0.out)
    obtain ⟨⟨y0, y1, y2, y3⟩, z0, z1, z2, z3⟩ := row4 HX2.out
    go_wp2_with fail
    try simp only [Exit.inBlock, Exit.then]
    obtain ⟨t1, sg⟩ := set4 HX2.out (.int .u32 id) (.int .i64 da) (.int .i64 sp) (.slice sa l.length sc)
    refine bodyPost_ret (results_row_tmp (p := 4) (u := 5) (ty := 30) rfl _ _ (w.heap.size + 1 + 1) 30 _ (0, 0) _ rfl t1 Tryz.underlying30 rfl (by kernel_rfl)) rfl ?_
    rw [HR.out]
    exact ⟨_, rfl, (HV.out _ hbX).oth free_arc rfl HX2.out (Oth.of_grown sg), hbX.grown sg hbX.size (fun k hk => by injection hk; omega)⟩
  case pos =>
    have n2' : (s.num != (l.length : Int) + 1) = false := by rw [bne_eq_false_iff_eq]; exact n2
    by_cases n3 : 0 < l.length
    case' neg =>
      have n3' : ¬ (0 : Int) < (l.length : Int) := by omega
      have n3b : decide ((0 : Int) < (l.length : Int)) = false := decide_eq_false n3'
      have hl0' : l = [] := by
        cases l with
        | nil => rfl
        | cons _ _ => exact absurd (Nat.succ_pos _) n3
      go_quiet (fail)
      have hX := below_drewN (Below.refl W.heap.size W) nq
      generalize W.drewN nq = X at hX ⊢
      have HR0 : Hid (appendS l s = if s.prev ≠ prevB l then (l, 20) else (l ++ [s], 0)) := Lib.hid (by unfold appendS; rw [if_neg n1, if_neg (by
        rintro (h | ⟨h, _⟩)
        · exact h n2
        · exact h hl0')])
      clear n3' n3b hl0' n3
    case' pos =>
      have n3' : (0 : Int) < (l.length : Int) := by omega
      have n3b : decide ((0 : Int) < (l.length : Int)) = true := decide_eq_true n3'
      have hl0' : l ≠ [] := by
        rintro rfl
        exact absurd n3 (by simp)
      have x0 : W.drew.cell? ⟨w.heap.size, 0, none⟩ = some (.int .u32 id) := a0
      have x1 : W.drew.cell? ⟨w.heap.size, 1, none⟩ = some (.int .i64 da) := a1
      have x2 : W.drew.cell? ⟨w.heap.size, 2, none⟩ = some (.int .i64 sp) := a2
      have x3 : W.drew.cell? ⟨w.heap.size, 3, none⟩ = some (.slice sa l.length sc) := a3
      have v0 : W.drew.cell? ⟨w.heap.size + 1, 0, none⟩ = some (.int .i64 s.num) := s0
      have v1 : W.drew.cell? ⟨w.heap.size + 1, 1, none⟩ = some (.int .i64 s.date) := s1
      generalize hLD : lastD l = ld at *
      have HLD2 := Lib.hid hLD
      clear hLD
      go_region_held3 (fun w' => w'.cell? ⟨w.heap.size, 0, none⟩ = some (.int .u32 id) ∧ w'.cell? ⟨w.heap.size, 1, none⟩ = some (.int .i64 da) ∧ w'.cell? ⟨w.heap.size, 2, none⟩ = some (.int .i64 sp) ∧ w'.cell? ⟨w.heap.size, 3, none⟩ = some (.slice sa l.length sc) ∧ w'.cell? ⟨w.heap.size + 1, 0, none⟩ = some (.int .i64 s.num) ∧ w'.cell? ⟨w.heap.size + 1, 1, none⟩ = some (.int .i64 s.date))
        (first | with_reducible exact ⟨x0, x1, x2, x3, v0, v1⟩ | with_reducible exact ⟨p0, p1, p2, p3, u0, u1⟩ | go_keep)
        (first | (go_at_call 54; refine HLD.out.mono ?_; rintro en w1 ⟨rfl, hb1⟩; have p0 := cell_on hb1 hl0 x0; have p1 := cell_on hb1 hl0 x1; have p2 := cell_on hb1 hl0 x2; have p3 := cell_on hb1 hl0 x3; have u0 := cell_on hb1 hl1 v0; have u1 := cell_on hb1 hl1 v1))
      have hX : Below W.heap.size W w1 := ((Below.refl W.heap.size W).drew).trans hb1
      generalize w1 = X at *
      clear x0 x1 x2 x3 v0 v1 p0 p1 p2 p3 u0 u1 hb1
      by_cases n4 : s.date < ld
      · have HR : Hid (appendS l s = (l, 14)) := Lib.hid (by unfold appendS; rw [if_neg n1, if_pos (.inr ⟨hl0', by rw [HLD2.out]; exact n4⟩)])
        have hbX := hbW.trans (hX.mono hbW.size)
        have HX2 := Lib.hid ((hX.block _ hsz).trans HQ2.out)
        obtain ⟨⟨a0, a1, a2, a3⟩, _⟩ := row4 ((hX.block _ hl0).trans HQ0.out)
        obtain ⟨⟨y0, y1, y2, y3⟩, z0, z1, z2, z3⟩ := row4 HX2.out
        go_wp2_with fail
        try simp only [Exit.inBlock, Exit.then]
        obtain ⟨t1, sg⟩ := set4 HX2.out (.int .u32 id) (.int .i64 da) (.int .i64 sp) (.slice sa l.length sc)
        refine bodyPost_ret (results_row_tmp (p := 4) (u := 5) (ty := 30) rfl _ _ (w.heap.size + 1 + 1) 30 _ (0, 0) _ rfl t1 Tryz.underlying30 rfl (by kernel_rfl)) rfl ?_
        rw [HR.out]
        exact ⟨_, rfl, (HV.out _ hbX).oth free_arc rfl HX2.out (Oth.of_grown sg), hbX.grown sg hbX.size (fun k hk => by injection hk; omega)⟩
      have HR0 : Hid (appendS l s = if s.prev ≠ prevB l then (l, 20) else (l ++ [s], 0)) := Lib.hid (by unfold appendS; rw [if_neg n1, if_neg (by
        rintro (h | ⟨_, h⟩)
        · exact h n2
        · rw [HLD2.out] at h
          exact n4 h)])
    all_goals
      have hbX := hbW.trans (hX.mono hbW.size)
      have HX0 := Lib.hid ((hX.block _ hl0).trans HQ0.out)
      have HX1 := Lib.hid ((hX.block _ hl1).trans HQ1.out)
      have HX2 := Lib.hid ((hX.block _ hsz).trans HQ2.out)
      have hl0X : w.heap.size < X.heap.size := Nat.lt_of_lt_of_le hl0 hX.size
      have hl1X : w.heap.size + 1 < X.heap.size := Nat.lt_of_lt_of_le hl1 hX.size
      have hszX : w.heap.size + 1 + 1 < X.heap.size := Nat.lt_of_lt_of_le hsz hX.size
      clear a0 a1 a2 a3 s0 s1 s2 s3 s4 s5 y0 y1 y2 y3 z0 z1 z2 z3 HLD n2 n2'
      have HPV := Lib.hid (previous_any _ l X.drew (HV.out X.drew hbX.drew) (HG.out.below hbX.drew) HOK.out)
      generalize prevB l = pv at *
      have x0 : X.drew.cell? ⟨w.heap.size, 0, none⟩ = some (.int .u32 id) := tcell HX0.out 0 (.int .u32 id) rfl
      have x1 : X.drew.cell? ⟨w.heap.size, 1, none⟩ = some (.int .i64 da) := tcell HX0.out 1 (.int .i64 da) rfl
      have x2 : X.drew.cell? ⟨w.heap.size, 2, none⟩ = some (.int .i64 sp) := tcell HX0.out 2 (.int .i64 sp) rfl
      have x3 : X.drew.cell? ⟨w.heap.size, 3, none⟩ = some (.slice sa l.length sc) := tcell HX0.out 3 (.slice sa l.length sc) rfl
      have v2 : X.drew.cell? ⟨w.heap.size + 1, 2, none⟩ = some (.string ⟨s.prev.toArray⟩) := tcell HX1.out 2 (.string ⟨s.prev.toArray⟩) rfl
      by_cases n5 : s.prev = pv
      case neg =>
        have n5' : (s.prev == pv) = false := by rw [beq_eq_false_iff_ne]; exact n5
        go_upto_region 5 with (fail)
        go_region_held3 (fun w' => w'.cell? ⟨w.heap.size, 0, none⟩ = some (.int .u32 id) ∧ w'.cell? ⟨w.heap.size, 1, none⟩ = some (.int .i64 da) ∧ w'.cell? ⟨w.heap.size, 2, none⟩ = some (.int .i64 sp) ∧ w'.cell? ⟨w.heap.size, 3, none⟩ = some (.slice sa l.length sc) ∧ w'.cell? ⟨w.heap.size + 1, 2, none⟩ = some (.string ⟨s.prev.toArray⟩))
          (first | with_reducible exact ⟨x0, x1, x2, x3, v2⟩ | with_reducible exact ⟨p0, p1, p2, p3, u2⟩ | go_keep)
          (first | (go_at_call 56; refine HPV.out.mono ?_; rintro en w2 ⟨rfl, hb2⟩; have p0 := cell_on hb2 hl0X x0; have p1 := cell_on hb2 hl0X x1; have p2 := cell_on hb2 hl0X x2; have p3 := cell_on hb2 hl0X x3; have u2 := cell_on hb2 hl1X v2))
        have hY : Below X.heap.size X w2 := ((Below.refl X.heap.size X).drew).trans hb2
        generalize w2 = Y at *
        clear x0 x1 x2 x3 v2 p0 p1 p2 p3 u2 hb2 HPV
        have hbY := hbX.trans (hY.mono hbX.size)
        have HY0 := Lib.hid ((hY.block _ hl0X).trans HX0.out)
        have HY1 := Lib.hid ((hY.block _ hl1X).trans HX1.out)
        have HY2 := Lib.hid ((hY.block _ hszX).trans HX2.out)
        have hl0Y : w.heap.size < Y.heap.size := Nat.lt_of_lt_of_le hl0X hY.size
        have hl1Y : w.heap.size + 1 < Y.heap.size := Nat.lt_of_lt_of_le hl1X hY.size
        have hszY : w.heap.size + 1 + 1 < Y.heap.size := Nat.lt_of_lt_of_le hszX hY.size
        obtain ⟨⟨a0, a1, a2, a3⟩, _⟩ := row4 HY0.out
        clear HX0 HX1 HX2
        have HR : Hid (appendS l s = (l, 20)) := Lib.hid (by rw [HR0.out, if_pos n5])
        obtain ⟨⟨y0, y1, y2, y3⟩, z0, z1, z2, z3⟩ := row4 HY2.out
        go_wp2_with fail
        try simp only [Exit.inBlock, Exit.then]
        obtain ⟨t1, sg⟩ := set4 HY2.out (.int .u32 id) (.int .i64 da) (.int .i64 sp) (.slice sa l.length sc)
        refine bodyPost_ret (results_row_tmp (p := 4) (u := 5) (ty := 30) rfl _ _ (w.heap.size + 1 + 1) 30 _ (0, 0) _ rfl t1 Tryz.underlying30 rfl (by kernel_rfl)) rfl ?_
        rw [HR.out]
        exact ⟨_, rfl, (HV.out _ hbY).oth free_arc rfl HY2.out (Oth.of_grown sg), hbY.grown sg hbY.size (fun k hk => by injection hk; omega)⟩
      case pos =>
        subst n5
        go_upto_region 5 with (fail)
        go_region_held3 (fun w' => w'.cell? ⟨w.heap.size, 0, none⟩ = some (.int .u32 id) ∧ w'.cell? ⟨w.heap.size, 1, none⟩ = some (.int .i64 da) ∧ w'.cell? ⟨w.heap.size, 2, none⟩ = some (.int .i64 sp) ∧ w'.cell? ⟨w.heap.size, 3, none⟩ = some (.slice sa l.length sc) ∧ w'.cell? ⟨w.heap.size + 1, 2, none⟩ = some (.string ⟨s.prev.toArray⟩))
          (first | with_reducible exact ⟨x0, x1, x2, x3, v2⟩ | with_reducible exact ⟨p0, p1, p2, p3, u2⟩ | go_keep)
          (first | (go_at_call 56; refine HPV.out.mono ?_; rintro en w2 ⟨rfl, hb2⟩; have p0 := cell_on hb2 hl0X x0; have p1 := cell_on hb2 hl0X x1; have p2 := cell_on hb2 hl0X x2; have p3 := cell_on hb2 hl0X x3; have u2 := cell_on hb2 hl1X v2))
        have hY : Below X.heap.size X w2 := ((Below.refl X.heap.size X).drew).trans hb2
        generalize w2 = Y at *
        clear x0 x1 x2 x3 v2 p0 p1 p2 p3 u2 hb2 HPV
        have hbY := hbX.trans (hY.mono hbX.size)
        have HY0 := Lib.hid ((hY.block _ hl0X).trans HX0.out)
        have HY1 := Lib.hid ((hY.block _ hl1X).trans HX1.out)
        have HY2 := Lib.hid ((hY.block _ hszX).trans HX2.out)
        have hl0Y : w.heap.size < Y.heap.size := Nat.lt_of_lt_of_le hl0X hY.size
        have hl1Y : w.heap.size + 1 < Y.heap.size := Nat.lt_of_lt_of_le hl1X hY.size
        have hszY : w.heap.size + 1 + 1 < Y.heap.size := Nat.lt_of_lt_of_le hszX hY.size
        obtain ⟨⟨a0, a1, a2, a3⟩, _⟩ := row4 HY0.out
        clear HX0 HX1 HX2
        have HR : Hid (appendS l s = (l ++ [s], 0)) := Lib.hid (by rw [HR0.out, if_neg (by simp)])
        obtain ⟨V, hV, hbV, hzV, hblk, _⟩ := box4 Y (.int .u32 id) (.int .i64 da) (.int .i64 sp) (.slice sa l.length sc) 30
        replace hzV : Y.heap.size < V.heap.size := by omega
        have hbVw := hbY.trans (hbV.mono hbY.size)
        have HV0 := Lib.hid ((hbV.block _ hl0Y).trans HY0.out)
        have HV1 := Lib.hid ((hbV.block _ hl1Y).trans HY1.out)
        have HV2 := Lib.hid ((hbV.block _ hszY).trans HY2.out)
        have HV6 := Lib.hid hblk
        have hA := hbVw.drew
        have HCL := Lib.hid (fun X (hX : Below w.heap.size w X) => cloneSessR w _ l X HS.out hX (by omega))
        go_upto_region 6 with (fail)
        go_upto_region 8 with (fail)
        try rw [hV]
        clear hV
        have a3 : V.drew.cell? ⟨w.heap.size, 3, none⟩ = some (.slice sa l.length sc) := tcell HV0.out 3 (.slice sa l.length sc) rfl
        have s0 : V.drew.cell? ⟨w.heap.size + 1, 0, none⟩ = some (.int .i64 s.num) := tcell HV1.out 0 (.int .i64 s.num) rfl
        have s1 : V.drew.cell? ⟨w.heap.size + 1, 1, none⟩ = some (.int .i64 s.date) := tcell HV1.out 1 (.int .i64 s.date) rfl
        have s2 : V.drew.cell? ⟨w.heap.size + 1, 2, none⟩ = some (.string ⟨s.prev.toArray⟩) := tcell HV1.out 2 (.string ⟨s.prev.toArray⟩) rfl
        have s3 : V.drew.cell? ⟨w.heap.size + 1, 3, none⟩ = some (.slice ea s.entries.length ec) := tcell HV1.out 3 (.slice ea s.entries.length ec) rfl
        have s4 : V.drew.cell? ⟨w.heap.size + 1, 4, none⟩ = some (.string ⟨s.stream.toArray⟩) := tcell HV1.out 4 (.string ⟨s.stream.toArray⟩) rfl
        have s5 : V.drew.cell? ⟨w.heap.size + 1, 5, none⟩ = some (.string ⟨s.sign.toArray⟩) := tcell HV1.out 5 (.string ⟨s.sign.toArray⟩) rfl
        have hl0V : w.heap.size < V.drew.heap.size := Nat.lt_of_lt_of_le hl0Y hbV.size
        have hl1V : w.heap.size + 1 < V.drew.heap.size := Nat.lt_of_lt_of_le hl1Y hbV.size
        have hl6V : Y.heap.size < V.drew.heap.size := hzV
        clear a0 a1 a2
        have hVV := (Below.refl V.heap.size V).drew
        have hAl : Below V.heap.size V (V.drew.alloc (.cells #[.int .i64 s.num, .int .i64 s.date, .string ⟨s.prev.toArray⟩, .slice ea s.entries.length ec, .string ⟨s.stream.toArray⟩, .string ⟨s.sign.toArray⟩] 39)) := hVV.alloc hVV.size (.cells #[.int .i64 s.num, .int .i64 s.date, .string ⟨s.prev.toArray⟩, .slice ea s.entries.length ec, .string ⟨s.stream.toArray⟩, .string ⟨s.sign.toArray⟩] 39)
        have hB := hbVw.trans (hAl.mono hbVw.size)
        have hl0' : w.heap.size < V.heap.size := hl0V
        have hl1' : w.heap.size + 1 < V.heap.size := hl1V
        have hl6' : Y.heap.size < V.heap.size := hl6V
        have hne0 : w.heap.size ≠ Y.heap.size := by omega
        have hne1 : w.heap.size + 1 ≠ Y.heap.size := by omega
        replace a3 : V.cell? ⟨w.heap.size, 3, none⟩ = some (.slice sa l.length sc) := a3
        replace s0 : V.cell? ⟨w.heap.size + 1, 0, none⟩ = some (.int .i64 s.num) := s0
        replace s1 : V.cell? ⟨w.heap.size + 1, 1, none⟩ = some (.int .i64 s.date) := s1
        replace s2 : V.cell? ⟨w.heap.size + 1, 2, none⟩ = some (.string ⟨s.prev.toArray⟩) := s2
        replace s3 : V.cell? ⟨w.heap.size + 1, 3, none⟩ = some (.slice ea s.entries.length ec) := s3
        replace s4 : V.cell? ⟨w.heap.size + 1, 4, none⟩ = some (.string ⟨s.stream.toArray⟩) := s4
        replace s5 : V.cell? ⟨w.heap.size + 1, 5, none⟩ = some (.string ⟨s.sign.toArray⟩) := s5
        have k0 := cell_on hVV hl0' a3
        have k1 := cell_on hVV hl1' s0
        have k2 := cell_on hVV hl1' s1
        have k3 := cell_on hVV hl1' s2
        have k4 := cell_on hVV hl1' s3
        have k5 := cell_on hVV hl1' s4
        have k6 := cell_on hVV hl1' s5
        have m0 := cell_on hAl hl0' a3
        have m1 := cell_on hAl hl1' s0
        have m2 := cell_on hAl hl1' s1
        have m3 := cell_on hAl hl1' s2
        have m4 := cell_on hAl hl1' s3
        have m5 := cell_on hAl hl1' s4
        have m6 := cell_on hAl hl1' s5
        go_region_held3 (fun w' => w'.cell? ⟨w.heap.size, 3, none⟩ = some (.slice sa l.length sc) ∧ w'.cell? ⟨w.heap.size + 1, 0, none⟩ = some (.int .i64 s.num) ∧ w'.cell? ⟨w.heap.size + 1, 1, none⟩ = some (.int .i64 s.date) ∧ w'.cell? ⟨w.heap.size + 1, 2, none⟩ = some (.string ⟨s.prev.toArray⟩) ∧ w'.cell? ⟨w.heap.size + 1, 3, none⟩ = some (.slice ea s.entries.length ec) ∧ w'.cell? ⟨w.heap.size + 1, 4, none⟩ = some (.string ⟨s.stream.toArray⟩) ∧ w'.cell? ⟨w.heap.size + 1, 5, none⟩ = some (.string ⟨s.sign.toArray⟩))
          (first | with_reducible exact ⟨a3, s0, s1, s2, s3, s4, s5⟩ | with_reducible exact ⟨p0, p1, p2, p3, p4, p5, p6⟩ | with_reducible exact ⟨m0, m1, m2, m3, m4, m5, m6⟩ | with_reducible exact ⟨n0, n1, n2, n3, n4, n5, n6⟩ | with_reducible exact ⟨d0, d1, d2, d3, d4, d5, d6⟩ | with_reducible exact ⟨r0, r1, r2, r3, r4, r5, r6⟩ | with_reducible exact ⟨k0, k1, k2, k3, k4, k5, k6⟩ | go_keep)
          (first | (go_at_call 63; refine (HCL.out _ hA).mono ?_; rintro en v1 ⟨cv, rfl, ⟨vss, hr1, hr2⟩, hv1⟩; obtain ⟨na, nc, rfl, _, _⟩ := row_form hr1; have hvc : Below V.heap.size V v1 := hVV.trans (hv1.mono hVV.size); have p0 := cell_on hvc hl0' a3; have p1 := cell_on hvc hl1' s0; have p2 := cell_on hvc hl1' s1; have p3 := cell_on hvc hl1' s2; have p4 := cell_on hvc hl1' s3; have p5 := cell_on hvc hl1' s4; have p6 := cell_on hvc hl1' s5; have hvl : Below V.heap.size V (v1.alloc (.cells #[.int .i64 s.num, .int .i64 s.date, .string ⟨s.prev.toArray⟩, .slice ea s.entries.length ec, .string ⟨s.stream.toArray⟩, .string ⟨s.sign.toArray⟩] 39)) := hvc.alloc hvc.size (.cells #[.int .i64 s.num, .int .i64 s.date, .string ⟨s.prev.toArray⟩, .slice ea s.entries.length ec, .string ⟨s.stream.toArray⟩, .string ⟨s.sign.toArray⟩] 39); have n0 := cell_on hvl hl0' a3; have n1 := cell_on hvl hl1' s0; have n2 := cell_on hvl hl1' s1; have n3 := cell_on hvl hl1' s2; have n4 := cell_on hvl hl1' s3; have n5 := cell_on hvl hl1' s4; have n6 := cell_on hvl hl1' s5) | (go_at_call 63; refine (HCL.out _ hB).mono ?_; rintro en v1 ⟨cv, rfl, ⟨vss, hr1, hr2⟩, hv1⟩; obtain ⟨na, nc, rfl, _, _⟩ := row_form hr1; have hvc : Below V.heap.size V v1 := hAl.trans (hv1.mono hAl.size); have p0 := cell_on hvc hl0' a3; have p1 := cell_on hvc hl1' s0; have p2 := cell_on hvc hl1' s1; have p3 := cell_on hvc hl1' s2; have p4 := cell_on hvc hl1' s3; have p5 := cell_on hvc hl1' s4; have p6 := cell_on hvc hl1' s5; have HG1 := Lib.hid ((hv1.block V.drew.heap.size (by simp)).trans (heap_alloc_new V.drew (.cells #[.int .i64 s.num, .int .i64 s.date, .string ⟨s.prev.toArray⟩, .slice ea s.entries.length ec, .string ⟨s.stream.toArray⟩, .string ⟨s.sign.toArray⟩] 39)))) | (refine step_appN 39 28 6 88 _ info_ses Tryz.underlying28 rfl (by decide) (by decide) (w := v1.alloc (.cells #[.int .i64 s.num, .int .i64 s.date, .string ⟨s.prev.toArray⟩, .slice ea s.entries.length ec, .string ⟨s.stream.toArray⟩, .string ⟨s.sign.toArray⟩] 39)) (by rfl) (.tmp 45) (.tmp 47) (by rfl) _ (.slice na l.length nc) l.length vss.flatten (by rfl) (World.ownsRow.alloc hr1 _) v1.heap.size (sesL s (.slice ea s.entries.length ec)) (by rfl) (heap_alloc_new v1 _) rfl (sesC_one ⟨ea, ec, rfl, HEN.out⟩) (by omega) hvl.size ?_; intro v2 w3 hr3 hb3 hg3; obtain ⟨na2, nc2, rfl, _, _⟩ := row_form hr3; have hvd : Below V.heap.size V w3 := hvl.trans (hb3.mono (Nat.le_refl _)); have d0 := cell_on hvd hl0' a3; have d1 := cell_on hvd hl1' s0; have d2 := cell_on hvd hl1' s1; have d3 := cell_on hvd hl1' s2; have d4 := cell_on hvd hl1' s3; have d5 := cell_on hvd hl1' s4; have d6 := cell_on hvd hl1' s5; have HF := Lib.hid ((hvd.block Y.heap.size hl6').trans HV6.out); have y3 := tcell HF.out 3 (.slice sa l.length sc) rfl; have z3 := tfree HF.out 3; have r0 := (cell_set_other (w := w3) hne0 3 3 (.slice na2 (l.length + 1) nc2)).trans d0; have r1 := (cell_set_other (w := w3) hne1 3 0 (.slice na2 (l.length + 1) nc2)).trans d1; have r2 := (cell_set_other (w := w3) hne1 3 1 (.slice na2 (l.length + 1) nc2)).trans d2; have r3 := (cell_set_other (w := w3) hne1 3 2 (.slice na2 (l.length + 1) nc2)).trans d3; have r4 := (cell_set_other (w := w3) hne1 3 3 (.slice na2 (l.length + 1) nc2)).trans d4; have r5 := (cell_set_other (w := w3) hne1 3 4 (.slice na2 (l.length + 1) nc2)).trans d5; have r6 := (cell_set_other (w := w3) hne1 3 5 (.slice na2 (l.length + 1) nc2)).trans d6) | (refine step_appN 39 28 6 88 _ info_ses Tryz.underlying28 rfl (by decide) (by decide) (w := v1) (by rfl) (.tmp 45) (.tmp 47) (by rfl) _ (.slice na l.length nc) l.length vss.flatten (by rfl) hr1 V.drew.heap.size (sesL s (.slice ea s.entries.length ec)) (by rfl) HG1.out rfl (sesC_one ⟨ea, ec, rfl, HEN.out⟩) (by omega) hv1.size ?_; intro v2 w3 hr3 hb3 hg3; obtain ⟨na2, nc2, rfl, _, _⟩ := row_form hr3; have hvd : Below V.heap.size V w3 := hvc.trans (hb3.mono hAl.size); have d0 := cell_on hvd hl0' a3; have d1 := cell_on hvd hl1' s0; have d2 := cell_on hvd hl1' s1; have d3 := cell_on hvd hl1' s2; have d4 := cell_on hvd hl1' s3; have d5 := cell_on hvd hl1' s4; have d6 := cell_on hvd hl1' s5; have HF := Lib.hid ((hvd.block Y.heap.size hl6').trans HV6.out); have y3 := tcell HF.out 3 (.slice sa l.length sc) rfl; have z3 := tfree HF.out 3; have r0 := (cell_set_other (w := w3) hne0 3 3 (.slice na2 (l.length + 1) nc2)).trans d0; have r1 := (cell_set_other (w := w3) hne1 3 0 (.slice na2 (l.length + 1) nc2)).trans d1; have r2 := (cell_set_other (w := w3) hne1 3 1 (.slice na2 (l.length + 1) nc2)).trans d2; have r3 := (cell_set_other (w := w3) hne1 3 2 (.slice na2 (l.length + 1) nc2)).trans d3; have r4 := (cell_set_other (w := w3) hne1 3 3 (.slice na2 (l.length + 1) nc2)).trans d4; have r5 := (cell_set_other (w := w3) hne1 3 4 (.slice na2 (l.length + 1) nc2)).trans d5; have r6 := (cell_set_other (w := w3) hne1 3 5 (.slice na2 (l.length + 1) nc2)).trans d6))
        all_goals
          clear a3 s0 s1 s2 s3 s4 s5 p0 p1 p2 p3 p4 p5 p6 k0 k1 k2 k3 k4 k5 k6 m0 m1 m2 m3 m4 m5 m6 d0 d1 d2 d3 d4 d5 d6 r0 r1 r2 r3 r4 r5 r6 y3 z3
          have sg := set_grown (w := w3) (b := Y.heap.size) [(3, .slice na2 (l.length + 1) nc2)]
          have tU := sets HF.out [(3, .slice na2 (l.length + 1) nc2)]
          have HU6 : Hid (_ = some (Obj.cells #[.int .u32 id, .int .i64 da, .int .i64 sp, .slice na2 (l.length + 1) nc2] 30 (0, 0))) := Lib.hid tU
          have hszV : w.heap.size + 1 + 1 < V.heap.size := Nat.lt_of_lt_of_le hszY hbV.size
          have HU2 := Lib.hid ((Oth.of_grown sg).get ((hvd.block _ hszV).trans HV2.out) (by omega))
          have hdw := hbVw.trans (hvd.mono hbVw.size)
          have hUw := hdw.grown sg hdw.size (fun k hk => by injection hk; omega)
          have hrow := row_keepC hr3 ((Oth.of_grown sg).keepC (Ts := [30]) HF.out (by simp)) (by decide)
          have HROW := Lib.hid hrow
          clear tU hrow hr3 hr1 hb3 hg3
          generalize hU : List.foldl _ w3 _ = U at sg HU6 HU2 hUw HROW
          have hU : w3.setCell ⟨Y.heap.size, 3, none⟩ (.slice na2 (l.length + 1) nc2) = U := hU
          rw [hU]
          clear hU sg
          obtain ⟨⟨x0, x1, x2, x3⟩, _⟩ := row4 HU6.out
          obtain ⟨⟨y0, y1, y2, y3⟩, z0, z1, z2, z3⟩ := row4 HU2.out
          go_wp2_with fail
          try simp only [Exit.inBlock, Exit.then]
          obtain ⟨t1, sg⟩ := set4 HU2.out (.int .u32 id) (.int .i64 da) (.int .i64 sp) (.slice na2 (l.length + 1) nc2)
          refine bodyPost_ret (results_row_tmp (p := 4) (u := 5) (ty := 30) rfl _ _ (w.heap.size + 1 + 1) 30 _ (0, 0) _ rfl t1 Tryz.underlying30 rfl (by kernel_rfl)) rfl ?_
          have hfin := hUw.grown sg hUw.size (fun k hk => by injection hk; omega)
          have hlen : (l ++ [s]).length = l.length + 1 := by simp
          have hs2 : OwnSess w _ _ (.slice na2 (l.length + 1) nc2) (l ++ [s]) := ⟨vss ++ [sesL s (.slice ea s.entries.length ec)], by
            rw [hlen, List.flatten_append, List.flatten_singleton]
            exact row_keepC HROW.out ((Oth.of_grown sg).keepC (Ts := [30]) HU2.out (by simp)) (by decide), all2_snoc hr2 ⟨ea, ec, rfl, HEN.out⟩⟩
          have hs3 := hs2.read hfin
          rw [HR.out]
          refine ⟨_, rfl, ⟨id, da, sp, na2, nc2, by rw [hlen], ?_⟩, hfin⟩
          rw [hlen]
          exact hs3
end Go.Proofs.YtbhmdcdhklgomaaGreatDoor
