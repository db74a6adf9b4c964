/-
  What steletop.writes writes: what is asked of it. No walk.
-/
import Derived.Test.YtbhmdcdhklgomaaGreatDoorM45
import Derived.Test.YtbhmdcdhklgomaaGreatDoorM44
import Derived.Test.YtbhmdcdhklgomaaGreatDoorM29
namespace Go.Proofs.YtbhmdcdhklgomaaGreatDoor
open Go.RowKit Top

theorem L0_each {s : Ses} (h : s ∈ L0) : s = litS1 ∨ s = litS2 ∨ s = litS3 := by
  simpa [L0] using h
theorem lit_sign1 : SignOk litS1 := ⟨⟨by decide, by decide, by decide, by decide, by decide, by decide, by decide, fun e he => by
  obtain rfl : e = lit1 := by simpa [litS1] using he
  exact L0_err.1⟩, by decide, by decide, .inl rfl, by decide, by decide, L0_text1⟩
theorem lit_sign2 : SignOk litS2 := ⟨⟨by decide, by decide, by decide, by decide, by decide, by decide, by decide, fun e he => by
  obtain rfl : e = lit2 := by simpa [litS2] using he
  exact L0_err.2.1⟩, by decide, by decide, .inr rfl, by decide, by decide, L0_text2⟩
theorem lit_sign3 : SignOk litS3 := ⟨⟨by decide, by decide, by decide, by decide, by decide, by decide, by decide, fun e he => by
  obtain rfl : e = lit3 := by simpa [litS3] using he
  exact L0_err.2.2⟩, by decide, by decide, .inr rfl, by decide, by decide, L0_text3⟩
theorem L0_sign : ∀ s ∈ L0, SignOk s := by
  intro s hs
  rcases L0_each hs with rfl | rfl | rfl
  · exact lit_sign1
  · exact lit_sign2
  · exact lit_sign3
theorem L0_hist : HistOk L0 := ⟨fun s hs => (L0_sign s hs).ok.each, by decide, by decide⟩
theorem L0_stream : ∀ s ∈ L0, s.stream.length ≤ 140737488355328 := fun s hs => Nat.le_trans (L0_sign s hs).stream (by decide)
theorem L0_whole : WholeE L0 lit1 := ⟨L0_err.1, fun _ => by rw [L0_get1], fun _ => by rw [L0_get1]; rfl, fun _ => by rw [L0_get1]; exact L0_sum1⟩
set_option maxRecDepth 100000 in
theorem L0_exp30 : expT L0 (afterS (L0.take (asOf L0 30))).tree = [48, 32] := by
  rw [L0_t30]
  decide +kernel
set_option maxRecDepth 100000 in
theorem L0_exp10 : expT L0 (afterS (L0.take (asOf L0 10))).tree = [49, 32, 49, 54, 58, 52, 58, 102, 105, 108, 101, 44, 49, 58, 97, 44, 48, 32, 48, 58, 44, 44, 51, 58, 111, 110, 101, 44] := by
  rw [L0_t10]
  decide +kernel
theorem L0_suffix : Lib.hasSuffix [49, 32, 49, 54, 58, 52, 58, 102, 105, 108, 101, 44, 49, 58, 97, 44, 48, 32, 48, 58, 44, 44, 51, 58, 111, 110, 101, 44] [51, 58, 111, 110, 101, 44] = true := by decide +kernel
/-- export.Tree at the two dates. -/
theorem tree30 (sa : Option Addr) (sc : Nat) (w : World) (hs : Sess w (.slice sa 3 sc) L0) (hg : Ground w) :
    Calls Tryz.prog 16 #[.slice sa 3 sc, .int .i64 30] w fun en w' => en = .returned (.tuple #[.string ⟨#[48, 32]⟩, .int .i64 0]) ∧ Below w.heap.size w w' := by
  refine (exptree_ok sa sc L0 30 w hs hg L0_hist L0_stream (by decide) (fun x hx => by rw [L0_t30] at hx; exact (List.not_mem_nil hx).elim) (by rw [L0_t30]; decide)).mono ?_
  rintro en w' ⟨rfl, hb⟩
  rw [L0_exp30]
  exact ⟨rfl, hb⟩
theorem tree10 (sa : Option Addr) (sc : Nat) (w : World) (hs : Sess w (.slice sa 3 sc) L0) (hg : Ground w) :
    Calls Tryz.prog 16 #[.slice sa 3 sc, .int .i64 10] w fun en w' => en = .returned (.tuple #[.string ⟨#[49, 32, 49, 54, 58, 52, 58, 102, 105, 108, 101, 44, 49, 58, 97, 44, 48, 32, 48, 58, 44, 44, 51, 58, 111, 110, 101, 44]⟩, .int .i64 0]) ∧ Below w.heap.size w w' := by
  refine (exptree_ok sa sc L0 10 w hs hg L0_hist L0_stream (by decide) (fun x hx => by
    rw [L0_t10] at hx
    obtain rfl : x = lit1 := by simpa using hx
    exact L0_whole) (by rw [L0_t10]; decide)).mono ?_
  rintro en w' ⟨rfl, hb⟩
  rw [L0_exp10]
  exact ⟨rfl, hb⟩
theorem content2 (sa : Option Addr) (sc : Nat) (ev : Value) (w : World) (hs : Sess w (.slice sa 3 sc) L0) (hev : EntV w ev lit2) :
    Calls Tryz.prog 25 #[.slice sa 3 sc, ev] w fun en w' => en = .returned (.tuple #[.string ⟨#[116, 119, 111]⟩, .int .i64 0]) ∧ Below w.heap.size w w' :=
  content_ok sa sc L0 ev lit2 [116, 119, 111] w hs hev L0_err.2.1 rfl L0_get2 rfl L0_sum2 L0_stream (by decide)
theorem check3 (sa : Option Addr) (sc : Nat) (w : World) (hs : Sess w (.slice sa 3 sc) L0) (hg : Ground w) :
    Calls Tryz.prog 14 #[.slice sa 3 sc] w fun en w' => en = .returned (.int .i64 0) ∧ Below w.heap.size w w' := check_ok sa sc L0 w hs hg L0_hist L0_sign L0_check
end Go.Proofs.YtbhmdcdhklgomaaGreatDoor

/-
  steletop.file; steletop.small.
-/
namespace Go.Proofs.YtbhmdcdhklgomaaGreatDoor
open Go.RowKit Top

set_option maxHeartbeats 2000000 in
theorem file_any (p c : Bs) (w : World) :
    Calls Tryz.prog 26 #[.string ⟨p.toArray⟩, .string ⟨c.toArray⟩] w fun e w' => ∃ v, e = .returned v ∧ ChgV w' v ⟨1, p, [], [], c⟩ ∧ Below w.heap.size w w' := by
  have hz := heap_alloc_new w (.cells #[.int .i64 1, .string ⟨p.toArray⟩, .slice none 0 0, .string ⟨#[]⟩, .string ⟨c.toArray⟩] 62)
  have hbW := (Below.refl _ w).alloc (Nat.le_refl _) (.cells #[.int .i64 1, .string ⟨p.toArray⟩, .slice none 0 0, .string ⟨#[]⟩, .string ⟨c.toArray⟩] 62)
  go_enter Tryz.func26, Tryz.ntmps26
  go_wp2_with fail
  try simp only [Exit.inBlock, Exit.then]
  refine bodyPost_ret (v := .agg #[.int .i64 1, .string ⟨p.toArray⟩, .slice none 0 0, .string ⟨#[]⟩, .string ⟨c.toArray⟩]) ?_ ?_ ?_
  · refine results_cell_row (p := 4) (ty := 62) (by kernel_rfl) _ _ w.heap.size 62 _ (0, 0) _ ?_ hz Tryz.underlying62 (by kernel_rfl) (by kernel_rfl)
    kernel_rfl
  · kernel_rfl
  · exact ⟨_, rfl, ⟨none, 0, rfl, Flat.nil _ _ _⟩, hbW⟩
end Go.Proofs.YtbhmdcdhklgomaaGreatDoor

/-
  steletop.writes.
-/
namespace Go.Proofs.YtbhmdcdhklgomaaGreatDoor
open Go.RowKit Top

/-- One change in a block of its own is a slice of changes. -/
theorem chgs_one {w : World} {b : Nat} {c : Change} {aa : Option Addr} {ac : Nat} (h : w.heap[b]? = some (.cells #[.int .i64 c.kind, .string ⟨c.path.toArray⟩, .slice aa c.attrs.length ac, .string ⟨c.target.toArray⟩, .string ⟨c.content.toArray⟩] 62 (0, 0)))
    (hf : Flat attrC 2 w (.slice aa c.attrs.length ac) c.attrs) : Chgs w (.slice (some ⟨b, 0, none⟩) 1 1) [c] := by
  refine ⟨some ⟨b, 0, none⟩, 1, [chgL c (.slice aa c.attrs.length ac)], rfl, by simp, by simp, fun j vs hj => ?_, rfl, fun j x y hx hy => ?_⟩
  · obtain ⟨rfl, rfl⟩ : j = 0 ∧ vs = chgL c (.slice aa c.attrs.length ac) := by
      match j, hj with
      | 0, hj => exact ⟨rfl, (Option.some.inj hj).symm⟩
    refine ⟨rfl, b, 0, rfl, fun i u hu => ?_⟩
    have hi : i < 5 := (List.getElem?_eq_some_iff.1 hu).1
    refine tcell h (0 + 0 * 5 + i) u ?_
    match i, hi, hu with
    | 0, _, hu => exact hu
    | 1, _, hu => exact hu
    | 2, _, hu => exact hu
    | 3, _, hu => exact hu
    | 4, _, hu => exact hu
  · match j, hx, hy with
    | 0, hx, hy =>
      obtain rfl := Option.some.inj hx
      obtain rfl := Option.some.inj hy
      exact ⟨aa, ac, rfl, hf⟩

theorem base_ws (w : World) (a b c d e f g h k l s1 s2 s3 : Value) : ∃ W, ((w.alloc (.cells #[a, b, c, d, e] 62)).alloc (.cells #[f, g, h, k, l] 62)).alloc (.cells #[s1, s2, s3] 60) = W ∧
    W.heap[w.heap.size]? = some (.cells #[a, b, c, d, e] 62 (0, 0)) ∧ W.heap[w.heap.size + 1]? = some (.cells #[f, g, h, k, l] 62 (0, 0)) ∧ W.heap[w.heap.size + 1 + 1]? = some (.cells #[s1, s2, s3] 60 (0, 0)) ∧ Below w.heap.size w W := by
  generalize (Obj.cells #[a, b, c, d, e] 62) = A
  generalize (Obj.cells #[f, g, h, k, l] 62) = B
  generalize hC : (Obj.cells #[s1, s2, s3] 60) = C
  have e0 := heap_alloc_new w A
  have hb1 := (Below.refl _ w).alloc (Nat.le_refl _) A
  generalize hw1 : w.alloc A = w1 at *
  have hs1 : w1.heap.size = w.heap.size + 1 := by rw [← hw1]; simp
  have e1 := heap_alloc_new w1 B
  have hb2 := (Below.refl _ w1).alloc (Nat.le_refl _) B
  have hs2 : (w1.alloc B).heap.size = w.heap.size + 1 + 1 := by simp [hs1]
  generalize w1.alloc B = w2 at *
  have e2 := heap_alloc_new w2 C
  have hb3 := (Below.refl _ w2).alloc (Nat.le_refl _) C
  rw [hs1] at e1
  rw [hs2] at e2
  have hb12 := hb1.trans (hb2.mono hb1.size)
  refine ⟨_, rfl, (hb3.block _ (by omega)).trans ((hb2.block _ (by omega)).trans e0), (hb3.block _ (by omega)).trans e1, ?_, hb12.trans (hb3.mono hb12.size)⟩
  rw [e2, ← hC]
theorem W0_attrs : ∀ l ∈ W0, ∀ c ∈ l, c.attrs.length ≤ 16777216 := by
  intro l hl c hc
  simp only [W0, List.mem_cons, List.not_mem_nil, or_false] at hl
  rcases hl with rfl | rfl | rfl <;> (simp only [List.mem_cons, List.not_mem_nil, or_false] at hc; subst hc; exact Nat.zero_le _)
theorem written_L0 (v : Value) (w : World) (hv : Lists w v W0) (hg : Ground w) :
    Calls Tryz.prog 8 #[.int .u32 1, .agg #[.int .i64 2, .int .i64 1], v] w fun en w' => ∃ id da sp sa sc, en = .returned (.agg #[.int .u32 id, .int .i64 da, .int .i64 sp, .slice sa 3 sc]) ∧ Sess w' (.slice sa 3 sc) L0 ∧ Below w.heap.size w w' := by
  refine (written_any 1 2 1 v W0 w hv hg (by decide) (by decide) W0_attrs).mono ?_
  rintro en w' ⟨v', rfl, ⟨id, da, sp, sa, sc, rfl, hs⟩, hb⟩
  rw [L0_eq] at hs ⊢
  exact ⟨id, da, sp, sa, sc, rfl, hs, hb⟩

theorem suffix_L0 (w : World) : Calls Tryz.prog 28 #[.string ⟨#[49, 32, 49, 54, 58, 52, 58, 102, 105, 108, 101, 44, 49, 58, 97, 44, 48, 32, 48, 58, 44, 44, 51, 58, 111, 110, 101, 44]⟩, .string ⟨#[51, 58, 111, 110, 101, 44]⟩] w fun e w' => e = .returned (.bool true) ∧ w' = w := by
  refine (Tryz.strings_HasSuffix ⟨#[49, 32, 49, 54, 58, 52, 58, 102, 105, 108, 101, 44, 49, 58, 97, 44, 48, 32, 48, 58, 44, 44, 51, 58, 111, 110, 101, 44]⟩ ⟨#[51, 58, 111, 110, 101, 44]⟩ w (by decide)).mono ?_
  rintro e w' ⟨rfl, rfl⟩
  exact ⟨congrArg (fun b => Ending.returned (.bool b)) L0_suffix, rfl⟩

set_option maxHeartbeats 4000000 in
set_option maxRecDepth 100000 in
theorem writes_any (w : World) (hg : Ground w) :
    Calls Tryz.prog 7 #[] w fun en w' => en = .returned (.bool true) ∧ Below w.heap.size w w' := by
  have HG := Lib.hid hg
  have HF1 := Lib.hid (file_any [97] [111, 110, 101] w)
  have HF2 := Lib.hid (fun X => file_any [97] [116, 119, 111] X)
  clear hg
  go_enter Tryz.func7, Tryz.ntmps7
  go_wp2_with fail
  refine HF1.out.mono ?_
  rintro en w1 ⟨v1, rfl, ⟨a1, c1, rfl, f1⟩, hb1⟩
  obtain ⟨A1, hA1, hbA1, _, hblk1⟩ := boxC5 w1 (.int .i64 1) (.string ⟨#[97]⟩) (.slice a1 0 c1) (.string ⟨#[]⟩) (.string ⟨#[111, 110, 101]⟩) 62
  have K1 := Lib.hid hA1
  have HB1 := Lib.hid hblk1
  clear hA1 hblk1
  go_wp2_with fail
  try rw [K1.out]
  clear K1
  refine (HF2.out A1).mono ?_
  rintro en w2 ⟨v2, rfl, ⟨a2, c2, rfl, f2⟩, hb2⟩
  obtain ⟨W, hW, q0, q1, q2, hbW⟩ := base_ws w2 (.int .i64 1) (.string ⟨#[97]⟩) (.slice a2 0 c2) (.string ⟨#[]⟩) (.string ⟨#[116, 119, 111]⟩) (.int .i64 4) (.string ⟨#[97]⟩) (.slice none 0 0) (.string ⟨#[]⟩) (.string ⟨#[]⟩) (.slice (some ⟨w1.heap.size, 0, none⟩) 1 1) (.slice (some ⟨w2.heap.size, 0, none⟩) 1 1) (.slice (some ⟨w2.heap.size + 1, 0, none⟩) 1 1)
  have hb1A := hb1.trans (hbA1.mono hb1.size)
  have hbA2 : Below A1.heap.size A1 W := hb2.trans (hbW.mono hb2.size)
  have hb1W : Below w1.heap.size w1 W := hbA1.trans (hbA2.mono hbA1.size)
  have hbWw := hb1A.trans (hbA2.mono hb1A.size)
  have hl : Lists W (.slice (some ⟨w2.heap.size + 1 + 1, 0, none⟩) 3 3) W0 := by
    refine ⟨some ⟨w2.heap.size + 1 + 1, 0, none⟩, 3, rfl, by decide, by decide, fun j l hj => ?_⟩
    match j, hj with
    | 0, hj =>
      obtain rfl := Option.some.inj hj
      exact ⟨_, 0, _, rfl, tcell q2 0 _ rfl, chgs_one (c := ⟨1, [97], [], [], [111, 110, 101]⟩) (aa := a1) (ac := c1) ((hbA2.block _ (Array.getElem?_eq_some_iff.1 HB1.out).1).trans HB1.out) (Flat.below (c := attrC) f1 hb1W)⟩
    | 1, hj =>
      obtain rfl := Option.some.inj hj
      exact ⟨_, 0, _, rfl, tcell q2 1 _ rfl, chgs_one (c := ⟨1, [97], [], [], [116, 119, 111]⟩) (aa := a2) (ac := c2) q0 (Flat.below (c := attrC) f2 hbW)⟩
    | 2, hj =>
      obtain rfl := Option.some.inj hj
      exact ⟨_, 0, _, rfl, tcell q2 2 _ rfl, chgs_one (c := ⟨4, [97], [], [], []⟩) (aa := none) (ac := 0) q1 (Flat.nil _ _ _)⟩
  have HWR := Lib.hid (written_L0 _ W hl (HG.out.below hbWw))
  have KW := Lib.hid hW
  clear hW q0 q1 q2 hl f1 f2 HF1 HF2
  go_wp2_with fail
  try rw [KW.out]
  clear KW
  refine HWR.out.mono ?_
  rintro en w3 ⟨id, da, sp, sa, sc, rfl, hs, hb3⟩
  obtain ⟨Z, hZ, hbZ, hzZ, hzb, _⟩ := box4 w3 (.int .u32 id) (.int .i64 da) (.int .i64 sp) (.slice sa 3 sc) 30
  replace hzZ : w3.heap.size < Z.heap.size := by omega
  have hb3w := hbWw.trans (hb3.mono hbWw.size)
  have hbZw := hb3w.trans (hbZ.mono hb3w.size)
  have KZ := Lib.hid hZ
  have HS := Lib.hid (fun X (hX : Below Z.heap.size Z X) => (hs.below hbZ).below hX)
  have d3 := tcell hzb 3 (.slice sa 3 sc) rfl
  have HCK := Lib.hid (check3 sa sc Z (HS.out Z (Below.refl _ _)) (HG.out.below hbZw))
  clear hZ hs hzb HWR
  go_upto_region 2 with (fail)
  try rw [KZ.out]
  clear KZ
  go_wp2_with fail
  refine HCK.out.mono ?_
  rintro en w4 ⟨rfl, hb4⟩
  have hb4w := hbZw.trans (hb4.mono hbZw.size)
  have HS4 := Lib.hid (fun X (hX : Below w4.heap.size w4 X) => HS.out X (hb4.trans (hX.mono hb4.size)))
  obtain ⟨bk, o, ea, ec, hoo, hen, _, _, _, k3, _, _⟩ := (HS4.out w4 (Below.refl _ _)).get (j := 1) (x := litS2) rfl
  obtain ⟨bk2, o2, aa, ac, ex, exc, hoo2, ha, hx, e0, e1, e2, e3, e4, e5, e6⟩ := hen.get (j := 0) (x := lit2) rfl
  subst hoo hoo2
  have d3 : w4.drew.cell? ⟨w3.heap.size, 3, none⟩ = some (.slice (some ⟨bk, o, none⟩) 3 sc) := (cell_on hb4 hzZ d3 : w4.cell? ⟨w3.heap.size, 3, none⟩ = _)
  have k3 : w4.drew.cell? ⟨bk, o + 6 + 3, none⟩ = some (.slice (some ⟨bk2, o2, none⟩) 1 ec) := k3
  have e0 : w4.drew.cell? ⟨bk2, o2, none⟩ = some (.int .i64 1) := e0
  have e1 : w4.drew.cell? ⟨bk2, o2 + 1, none⟩ = some (.string ⟨#[97]⟩) := e1
  have e2 : w4.drew.cell? ⟨bk2, o2 + 2, none⟩ = some (.slice aa 0 ac) := e2
  have e3 : w4.drew.cell? ⟨bk2, o2 + 3, none⟩ = some (.string ⟨#[]⟩) := e3
  have e4 : w4.drew.cell? ⟨bk2, o2 + 4, none⟩ = some (.int .i64 3) := e4
  have e5 : w4.drew.cell? ⟨bk2, o2 + 5, none⟩ = some (.string ⟨lit2.digest.toArray⟩) := e5
  have e6 : w4.drew.cell? ⟨bk2, o2 + 6, none⟩ = some (.slice ex 1 exc) := e6
  have hev : EntV w4 (.agg #[.int .i64 1, .string ⟨#[97]⟩, .slice aa 0 ac, .string ⟨#[]⟩, .int .i64 3, .string ⟨lit2.digest.toArray⟩, .slice ex 1 exc]) lit2 := ⟨aa, ac, ex, exc, rfl, ha, hx⟩
  have hdw := (Below.refl w4.heap.size w4).drew
  have HCT := Lib.hid (content2 (some ⟨bk, o, none⟩) sc _ w4.drew (HS4.out _ hdw) (hev.below hdw))
  have hl3 : w3.heap.size < w4.drew.heap.size := World.block_lt_of_cell? _ _ d3
  have hlk : bk < w4.drew.heap.size := World.block_lt_of_cell? _ _ k3
  have hle : bk2 < w4.drew.heap.size := World.block_lt_of_cell? _ _ e0
  generalize lit2.digest = dg at *
  clear hen ha hx hev HCK
  go_upto_region 4 with (fail)
  go_region_held3 (fun w' => w'.cell? ⟨w3.heap.size, 3, none⟩ = some (.slice (some ⟨bk, o, none⟩) 3 sc) ∧ w'.cell? ⟨bk, o + 6 + 3, none⟩ = some (.slice (some ⟨bk2, o2, none⟩) 1 ec) ∧ w'.cell? ⟨bk2, o2, none⟩ = some (.int .i64 1) ∧ w'.cell? ⟨bk2, o2 + 1, none⟩ = some (.string ⟨#[97]⟩) ∧ w'.cell? ⟨bk2, o2 + 2, none⟩ = some (.slice aa 0 ac) ∧ w'.cell? ⟨bk2, o2 + 3, none⟩ = some (.string ⟨#[]⟩) ∧ w'.cell? ⟨bk2, o2 + 4, none⟩ = some (.int .i64 3) ∧ w'.cell? ⟨bk2, o2 + 5, none⟩ = some (.string ⟨dg.toArray⟩) ∧ w'.cell? ⟨bk2, o2 + 6, none⟩ = some (.slice ex 1 exc))
    (first | with_reducible exact ⟨d3, k3, e0, e1, e2, e3, e4, e5, e6⟩ | with_reducible exact ⟨p3, q3, r0, r1, r2, r3, r4, r5, r6⟩ | go_keep)
    (first | (go_at_call 25; refine HCT.out.mono ?_; rintro en w5 ⟨rfl, hb5⟩; have p3 := cell_on hb5 hl3 d3; have q3 := cell_on hb5 hlk k3; have r0 := cell_on hb5 hle e0; have r1 := cell_on hb5 hle e1; have r2 := cell_on hb5 hle e2; have r3 := cell_on hb5 hle e3; have r4 := cell_on hb5 hle e4; have r5 := cell_on hb5 hle e5; have r6 := cell_on hb5 hle e6))
  have h45 := hdw.trans (hb5.mono hdw.size)
  have hb5w := hb4w.trans (h45.mono hb4w.size)
  have HT30 := Lib.hid (tree30 (some ⟨bk, o, none⟩) sc w5 (HS4.out w5 h45) (HG.out.below hb5w))
  have hl35 : w3.heap.size < w5.heap.size := World.block_lt_of_cell? _ _ p3
  have d3 := p3
  clear k3 e0 e1 e2 e3 e4 e5 e6 q3 r0 r1 r2 r3 r4 r5 r6 HCT hb5
  go_wp2_with fail
  refine HT30.out.mono ?_
  rintro en w6 ⟨rfl, hb6⟩
  have h46 := h45.trans (hb6.mono h45.size)
  have hb6w := hb4w.trans (h46.mono hb4w.size)
  have HT10 := Lib.hid (tree10 (some ⟨bk, o, none⟩) sc w6 (HS4.out w6 h46) (HG.out.below hb6w))
  have d3 := cell_on hb6 hl35 d3
  clear HT30 p3
  go_wp2_with fail
  refine HT10.out.mono ?_
  rintro en w7 ⟨rfl, hb7⟩
  have h47 := h46.trans (hb7.mono h46.size)
  have hb7w := hb4w.trans (h47.mono hb4w.size)
  clear HT10 d3
  go_wp2_with fail
  refine (suffix_L0 w7).mono ?_
  rintro en w8 ⟨rfl, rfl⟩
  go_wp2_with fail
  go_ret
  exact ⟨rfl, hb7w⟩
end Go.Proofs.YtbhmdcdhklgomaaGreatDoor
