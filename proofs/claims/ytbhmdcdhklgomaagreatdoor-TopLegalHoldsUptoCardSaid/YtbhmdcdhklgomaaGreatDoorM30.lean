/-
  session.record.
-/
import Derived.Test.YtbhmdcdhklgomaaGreatDoorM29
namespace Go.Proofs.YtbhmdcdhklgomaaGreatDoor
open Go.RowKit Top

/-- What record has made before it checks the entry. -/
def RecF (w : World) (be bs b2 b3 : Nat) (s : Store) (c : Change) (wx : World) : Prop := ∃ aa ac ea ec na nc,
  wx.heap[be]? = some (.cells #[.int .i64 (recE s c).kind, .string ⟨(recE s c).path.toArray⟩, .slice aa (recE s c).attrs.length ac, .string ⟨(recE s c).target.toArray⟩, .int .i64 (recE s c).size, .string ⟨(recE s c).digest.toArray⟩, .slice ea (recE s c).exts.length ec] 43 (0, 0)) ∧
  wx.heap[bs]? = some (.cells #[.slice na (recS s c).chunks.length nc, .int .i64 (recS s c).ses, .string ⟨(recS s c).stream.toArray⟩] 66 (0, 0)) ∧
  wx.heap[b2]? = some (.cells #[.int .i64 0, .string ⟨#[]⟩, .slice none 0 0, .string ⟨#[]⟩, .int .i64 0, .string ⟨#[]⟩, .slice none 0 0] 43 (0, 0)) ∧ wx.heap[b3]? = some (.cells #[.slice none 0 0, .int .i64 0, .string ⟨#[]⟩] 66 (0, 0)) ∧
  Flat attrC 2 wx (.slice aa (recE s c).attrs.length ac) (recE s c).attrs ∧ Flat extC 3 wx (.slice ea (recE s c).exts.length ec) (recE s c).exts ∧ Flat chunkC 4 wx (.slice na (recS s c).chunks.length nc) (recS s c).chunks ∧ Below w.heap.size w wx

set_option maxHeartbeats 8000000 in
set_option maxRecDepth 100000 in
theorem record_any (sv cv : Value) (s : Store) (c : Change) (N : Nat) (w : World) (hs : StoV w sv s) (hc : ChgV w cv c) (hok : StoOk N s) (hN : N + 200000 ≤ 16777216) (hg : Ground w) (hca : c.attrs.length ≤ 16777216) (hcc : c.content.length ≤ 65536) (hP : c.path.length ≤ 16777216) (hT : c.target.length ≤ 16777216) :
    Calls Tryz.prog 58 #[sv, cv] w fun en w' => ∃ ev sv', en = .returned (.tuple #[ev, sv', .int .i64 (entErr (recE s c))]) ∧ EntV w' ev (recE s c) ∧ StoV w' sv' (recS s c) ∧ Below w.heap.size w w' := by
  obtain ⟨ca, cc, rfl, hfl⟩ := hs
  obtain ⟨aa, ac, rfl, hat⟩ := hc
  obtain ⟨W, hW, hbW, hsz, q0, q1, q2, q3⟩ := base_rec w (.slice ca s.chunks.length cc) (.int .i64 s.ses) (.string ⟨s.stream.toArray⟩) (.int .i64 c.kind) (.string ⟨c.path.toArray⟩) (.slice aa c.attrs.length ac) (.string ⟨c.target.toArray⟩) (.string ⟨c.content.toArray⟩)
  have HCL := Lib.hid (fun X (hX : Below w.heap.size w X) => cloneAttrs_any _ c.attrs X (hat.below hX) hca)
  have HG := Lib.hid hg
  have HOK := Lib.hid hok
  have HFL := Lib.hid hfl
  have HQ := Lib.hid (And.intro q0 (And.intro q1 (And.intro q2 q3)))
  have d0 := tcell q1 0 (.int .i64 c.kind) rfl
  have d1 := tcell q1 1 (.string ⟨c.path.toArray⟩) rfl
  have d2 := tcell q1 2 (.slice aa c.attrs.length ac) rfl
  have d3 := tcell q1 3 (.string ⟨c.target.toArray⟩) rfl
  have hl1 : w.heap.size + 1 < W.heap.size := by omega
  have hsz' := hbW.size
  clear q0 q1 q2 q3 hat hfl hok hg
  go_enter Tryz.func58, Tryz.ntmps58
  go_upto_region 1 with (fail)
  try rw [hW]
  clear hW
  have hA := hbW.drew
  have hB : Below w.heap.size w (W.alloc (.cells #[.int .i64 0, .string ⟨#[]⟩, .slice none 0 0, .string ⟨#[]⟩, .int .i64 0, .string ⟨#[]⟩, .slice none 0 0] 43)).drew := (hbW.alloc hsz' _).drew
  have hzB : (W.alloc (.cells #[.int .i64 0, .string ⟨#[]⟩, .slice none 0 0, .string ⟨#[]⟩, .int .i64 0, .string ⟨#[]⟩, .slice none 0 0] 43)).drew.heap[W.heap.size]? = some (.cells #[.int .i64 0, .string ⟨#[]⟩, .slice none 0 0, .string ⟨#[]⟩, .int .i64 0, .string ⟨#[]⟩, .slice none 0 0] 43 (0, 0)) := heap_alloc_new W _
  have hb1 := (Below.refl W.heap.size W).alloc (Nat.le_refl _) (.cells #[.int .i64 0, .string ⟨#[]⟩, .slice none 0 0, .string ⟨#[]⟩, .int .i64 0, .string ⟨#[]⟩, .slice none 0 0] 43)
  have e0 : (W.alloc (.cells #[.int .i64 0, .string ⟨#[]⟩, .slice none 0 0, .string ⟨#[]⟩, .int .i64 0, .string ⟨#[]⟩, .slice none 0 0] 43)).drew.cell? ⟨w.heap.size + 1, 0, none⟩ = some (.int .i64 c.kind) := (hb1.cell (p := ⟨w.heap.size + 1, 0, none⟩) hl1).trans d0
  have e1 : (W.alloc (.cells #[.int .i64 0, .string ⟨#[]⟩, .slice none 0 0, .string ⟨#[]⟩, .int .i64 0, .string ⟨#[]⟩, .slice none 0 0] 43)).drew.cell? ⟨w.heap.size + 1, 1, none⟩ = some (.string ⟨c.path.toArray⟩) := (hb1.cell (p := ⟨w.heap.size + 1, 1, none⟩) hl1).trans d1
  have e2 : (W.alloc (.cells #[.int .i64 0, .string ⟨#[]⟩, .slice none 0 0, .string ⟨#[]⟩, .int .i64 0, .string ⟨#[]⟩, .slice none 0 0] 43)).drew.cell? ⟨w.heap.size + 1, 2, none⟩ = some (.slice aa c.attrs.length ac) := (hb1.cell (p := ⟨w.heap.size + 1, 2, none⟩) hl1).trans d2
  have e3 : (W.alloc (.cells #[.int .i64 0, .string ⟨#[]⟩, .slice none 0 0, .string ⟨#[]⟩, .int .i64 0, .string ⟨#[]⟩, .slice none 0 0] 43)).drew.cell? ⟨w.heap.size + 1, 3, none⟩ = some (.string ⟨c.target.toArray⟩) := (hb1.cell (p := ⟨w.heap.size + 1, 3, none⟩) hl1).trans d3
  have hlz : W.heap.size < (W.alloc (.cells #[.int .i64 0, .string ⟨#[]⟩, .slice none 0 0, .string ⟨#[]⟩, .int .i64 0, .string ⟨#[]⟩, .slice none 0 0] 43)).drew.heap.size := (Array.getElem?_eq_some_iff.1 hzB).1
  have hl3 : w.heap.size + 1 < (W.alloc (.cells #[.int .i64 0, .string ⟨#[]⟩, .slice none 0 0, .string ⟨#[]⟩, .int .i64 0, .string ⟨#[]⟩, .slice none 0 0] 43)).drew.heap.size := Nat.lt_of_lt_of_le hl1 hb1.size
  have hne : w.heap.size + 1 ≠ W.heap.size := by omega
  have x0 : W.drew.cell? ⟨w.heap.size + 1, 0, none⟩ = some (.int .i64 c.kind) := d0
  have x1 : W.drew.cell? ⟨w.heap.size + 1, 1, none⟩ = some (.string ⟨c.path.toArray⟩) := d1
  have x2 : W.drew.cell? ⟨w.heap.size + 1, 2, none⟩ = some (.slice aa c.attrs.length ac) := d2
  have x3 : W.drew.cell? ⟨w.heap.size + 1, 3, none⟩ = some (.string ⟨c.target.toArray⟩) := d3
  clear hb1
  go_cut [7] (fun s7 wx => ∃ be na nc, s7 = .pointer (some ⟨be, 0, none⟩) ∧ Hid (wx.heap[be]? = some (.cells #[.int .i64 c.kind, .string ⟨c.path.toArray⟩, .slice na c.attrs.length nc, .string ⟨c.target.toArray⟩, .int .i64 0, .string ⟨#[]⟩, .slice none 0 0] 43 (0, 0))) ∧ Hid (OwnA wx W.heap.size (.slice na c.attrs.length nc) c.attrs) ∧ Hid (Below W.heap.size W wx) ∧ W.heap.size ≤ be)
  case first =>
    go_region_held3 (fun w' => w'.cell? ⟨w.heap.size + 1, 0, none⟩ = some (.int .i64 c.kind) ∧ w'.cell? ⟨w.heap.size + 1, 1, none⟩ = some (.string ⟨c.path.toArray⟩) ∧ w'.cell? ⟨w.heap.size + 1, 2, none⟩ = some (.slice aa c.attrs.length ac) ∧ w'.cell? ⟨w.heap.size + 1, 3, none⟩ = some (.string ⟨c.target.toArray⟩))
      (first | with_reducible exact ⟨x0, x1, x2, x3⟩ | with_reducible exact ⟨p0, p1, p2, p3⟩ | with_reducible exact ⟨e0, e1, e2, e3⟩ | with_reducible exact ⟨r0, r1, r2, r3⟩ | go_keep)
      ((first | (go_at_call 91; refine (HCL.out W.drew hA).mono ?_; rintro e v1 ⟨cv, rfl, hcv, hv1⟩; obtain ⟨na, nc, rfl, _, _⟩ := hcv.form; have p0 := cell_on hv1 hl1 d0; have p1 := cell_on hv1 hl1 d1; have p2 := cell_on hv1 hl1 d2; have p3 := cell_on hv1 hl1 d3) | (go_at_call 91; refine (HCL.out _ hB).mono ?_; rintro e v1 ⟨cv, rfl, hcv, hv1⟩; obtain ⟨na, nc, rfl, _, _⟩ := hcv.form; have p0 := cell_on hv1 hl3 e0; have p1 := cell_on hv1 hl3 e1; have p2 := cell_on hv1 hl3 e2; have p3 := cell_on hv1 hl3 e3; have hzv := (hv1.block W.heap.size hlz).trans hzB; have y := row7 hzv; obtain ⟨y0, y1, y2, y3, y4, y5, y6, z0, z1, z2, z3, z4, z5, z6⟩ := y; have r0 := (far7 (w := v1) hne (.int .i64 c.kind) (.string ⟨c.path.toArray⟩) (.slice na c.attrs.length nc) (.string ⟨c.target.toArray⟩) (.int .i64 0) (.string ⟨#[]⟩) (.slice none 0 0) 0).trans p0; have r1 := (far7 (w := v1) hne (.int .i64 c.kind) (.string ⟨c.path.toArray⟩) (.slice na c.attrs.length nc) (.string ⟨c.target.toArray⟩) (.int .i64 0) (.string ⟨#[]⟩) (.slice none 0 0) 1).trans p1; have r2 := (far7 (w := v1) hne (.int .i64 c.kind) (.string ⟨c.path.toArray⟩) (.slice na c.attrs.length nc) (.string ⟨c.target.toArray⟩) (.int .i64 0) (.string ⟨#[]⟩) (.slice none 0 0) 2).trans p2; have r3 := (far7 (w := v1) hne (.int .i64 c.kind) (.string ⟨c.path.toArray⟩) (.slice na c.attrs.length nc) (.string ⟨c.target.toArray⟩) (.int .i64 0) (.string ⟨#[]⟩) (.slice none 0 0) 3).trans p3)))
    focus
      go_wp2_with fail
      go_meet
      have hv1 : Below W.heap.size W v1 := ((Below.refl _ W).drew).trans hv1
      exact ⟨v1.heap.size, na, nc, rfl, heap_alloc_new v1 _, World.ownsRow.alloc hcv _, hv1.alloc hv1.size _, hv1.size⟩
    go_wp2_with fail
    go_meet
    have sg := set_grown (w := v1) (b := W.heap.size) [(0, .int .i64 c.kind), (1, .string ⟨c.path.toArray⟩), (2, .slice na c.attrs.length nc), (3, .string ⟨c.target.toArray⟩), (4, .int .i64 0), (5, .string ⟨#[]⟩), (6, .slice none 0 0)]
    have t1 := (set7 hzv (Nat.le_refl _) (.int .i64 c.kind) (.string ⟨c.path.toArray⟩) (.slice na c.attrs.length nc) (.string ⟨c.target.toArray⟩) (.int .i64 0) (.string ⟨#[]⟩) (.slice none 0 0)).1
    have hs1 : W.heap.size ≤ (W.alloc (.cells #[.int .i64 0, .string ⟨#[]⟩, .slice none 0 0, .string ⟨#[]⟩, .int .i64 0, .string ⟨#[]⟩, .slice none 0 0] 43)).drew.heap.size := Nat.le_of_lt hlz
    have hv2 : Below W.heap.size W v1 := (((Below.refl _ W).alloc (Nat.le_refl _) _).drew).trans (hv1.mono hs1)
    exact ⟨W.heap.size, na, nc, rfl, t1, (hcv.far sg hlz).mono' hs1, hv2.grown sg hv2.size (fun k hk => by injection hk with hk; omega), Nat.le_refl _⟩
  case rest =>
    obtain ⟨be, na, nc, rfl, hbe, hown, hb2, hle⟩ := hcut
    clear hA hB hzB e0 e1 e2 e3 hlz hl3 d0 d1 d2 d3 x0 x1 x2 x3 HCL hne
    have hq := HQ.out
    obtain ⟨q0, q1, q2, q3⟩ := hq
    have q0 := (hb2.out.block (w.heap.size) (by omega)).trans q0
    have q1 := (hb2.out.block (w.heap.size + 1) (by omega)).trans q1
    have q2 := (hb2.out.block (w.heap.size + 1 + 1) (by omega)).trans q2
    have q3 := (hb2.out.block (w.heap.size + 1 + 1 + 1) (by omega)).trans q3
    have hlc : w.heap.size + 1 < wc.heap.size := Nat.lt_of_lt_of_le hl1 hb2.out.size
    have hbc := hbW.trans (hb2.out.mono hsz')
    have Q0 := Lib.hid q0
    have Q1 := Lib.hid q1
    have Q2 := Lib.hid q2
    have Q3 := Lib.hid q3
    have HBC := Lib.hid hbc
    have d0 := tcell q1 0 (.int .i64 c.kind) rfl
    have d4 := tcell q1 4 (.string ⟨c.content.toArray⟩) rfl
    have hbeW : w.heap.size + 1 + 1 + 1 < be := by omega
    clear q0 q1 q2 q3 HQ hbc
    go_upto_region 2 with (fail)
    have hEP : (recE s c).path.length ≤ 16777216 := by
      unfold recE
      split <;> exact hP
    have hET : (recE s c).target.length ≤ 16777216 := by
      unfold recE
      split <;> exact hT
    by_cases hk : c.kind = 1
    · have hE : recE s c = ⟨c.kind, c.path, c.attrs, c.target, c.content.length, Blk.sum c.content, (Top.put Blk.sum s c.content).2.1⟩ := by
        unfold recE
        rw [if_pos hk, if_pos hcc]
      have hS : recS s c = (Top.put Blk.sum s c.content).1 := if_pos ⟨hk, hcc⟩
      have HE := Lib.hid hE
      have HS := Lib.hid hS
      have HDK := Lib.hid d0
      have n6 : ((c.content.length : Nat) : Int) ≤ 65536 := by omega
      have HFC := Lib.hid (HFL.out.below HBC.out)
      have hhk : ((c.kind == 1) = true) := beq_iff_eq.2 hk
      clear hE hS hk
      generalize hck : c.kind = ck at *
      clear hck
      generalize wc = w0 at *
      go_upto_region 3 with (fail)
      have hbd := hbe.out
      have hlbe := (Array.getElem?_eq_some_iff.1 hbd).1
      have hneb : w.heap.size + 1 ≠ be := by omega
      have HSU := Lib.hid (sum_new c.content w0.drew (by omega))
      have x4 : w0.drew.cell? ⟨w.heap.size + 1, 4, none⟩ = some (.string ⟨c.content.toArray⟩) := d4
      have ra4 : (w0.drew.alloc (.cells #[.string ⟨c.content.toArray⟩] 9)).cell? ⟨w.heap.size + 1, 4, none⟩ = some (.string ⟨c.content.toArray⟩) := (((Below.refl _ w0.drew).alloc (Nat.le_refl _) (.cells #[.string ⟨c.content.toArray⟩] 9)).cell (p := ⟨w.heap.size + 1, 4, none⟩) hlc).trans d4
      have HBE := Lib.hid hbd
      clear hbd d0
      go_cut [] (fun wx => Hid (wx.heap[be]? = some (.cells #[.int .i64 ck, .string ⟨c.path.toArray⟩, .slice na c.attrs.length nc, .string ⟨c.target.toArray⟩, .int .i64 c.content.length, .string ⟨(Blk.sum c.content).toArray⟩, .slice none 0 0] 43 (0, 0))) ∧ Hid (Oth be w0 wx) ∧ Hid (Below w.heap.size w wx))
      case first =>
        go_region_held3 (fun w' => w'.cell? ⟨w.heap.size + 1, 4, none⟩ = some (.string ⟨c.content.toArray⟩)) (first | with_reducible exact x4 | with_reducible exact ra4 | with_reducible exact p4 | with_reducible exact r4 | with_reducible exact r5 | go_keep) ((go_at_call 65; refine HSU.out.mono ?_; rintro e v1 ⟨rfl, hv1⟩; have p4 := cell_on hv1 hlc d4; have hz := (hv1.block be hlbe).trans HBE.out; have y4 := tcell hz 4 (.int .i64 0) rfl; have y5 := tcell hz 5 (.string ⟨#[]⟩) rfl; have z4 := tfree hz 4; have z5 := tfree hz 5; have r4 := (cell_set_other (w := v1) hneb 4 4 (.int .i64 c.content.length)).trans p4; have r5 := (cell_set_other (w := v1.setCell ⟨be, 4, none⟩ (.int .i64 c.content.length)) hneb 5 4 (.string ⟨(Blk.sum c.content).toArray⟩)).trans r4))
        all_goals
          go_wp2_with fail
          go_meet
          have t1 : ((v1.setCell ⟨be, 4, none⟩ (.int .i64 c.content.length)).setCell ⟨be, 5, none⟩ (.string ⟨(Blk.sum c.content).toArray⟩)).heap[be]? = some (.cells #[.int .i64 ck, .string ⟨c.path.toArray⟩, .slice na c.attrs.length nc, .string ⟨c.target.toArray⟩, .int .i64 c.content.length, .string ⟨(Blk.sum c.content).toArray⟩, .slice none 0 0] 43 (0, 0)) := by
            rw [tset (tset hz _) _]
            simp
          have sg := set_grown (w := v1) (b := be) [(4, .int .i64 c.content.length), (5, .string ⟨(Blk.sum c.content).toArray⟩)]
          have hv0 : Below w0.heap.size w0 v1 := ((Below.refl _ w0).drew).trans hv1
          have hbv := HBC.out.trans (hv0.mono HBC.out.size)
          exact ⟨Lib.hid t1, Lib.hid ((Oth.of_below hv0).trans (Oth.of_grown sg)), Lib.hid (hbv.grown sg hbv.size (fun k hk => by injection hk with hk; omega))⟩
      case rest =>
        obtain ⟨hbe3, hoth, hbc3⟩ := hcut
        have hO := hoth.out
        have q0 := hO.get Q0.out (by omega)
        have q1 := hO.get Q1.out (by omega)
        have q2 := hO.get Q2.out (by omega)
        have q3 := hO.get Q3.out (by omega)
        have hbd := hbe3.out
        have k0 := tcell q0 0 (.slice ca s.chunks.length cc) rfl
        have k1 := tcell q0 1 (.int .i64 s.ses) rfl
        have k2 := tcell q0 2 (.string ⟨s.stream.toArray⟩) rfl
        have d4 := tcell q1 4 (.string ⟨c.content.toArray⟩) rfl
        have hfc := HFL.out.below hbc3.out
        have HPU := Lib.hid (put_any _ s c.content N wc ⟨ca, cc, rfl, hfc⟩ HOK.out hN (by omega))
        have hown3 : OwnA wc W.heap.size (.slice na c.attrs.length nc) c.attrs := OwnF.keepC hown.out (hO.keepC (Ts := [43]) HBE.out (by simp)) (by decide)
        have HOW3 := Lib.hid hown3
        have Q0 := Lib.hid q0
        have Q2 := Lib.hid q2
        have Q3 := Lib.hid q3
        have hl0 : w.heap.size < wc.heap.size := (Array.getElem?_eq_some_iff.1 q0).1
        have hl2 : w.heap.size + 1 + 1 < wc.heap.size := (Array.getElem?_eq_some_iff.1 q2).1
        have hl3 : w.heap.size + 1 + 1 + 1 < wc.heap.size := (Array.getElem?_eq_some_iff.1 q3).1
        have hlbe3 := (Array.getElem?_eq_some_iff.1 hbd).1
        clear hO q0 q1 q2 q3 hfc hown3 x4 ra4 HSU hbd hlbe hlc
        go_wp2_with fail
        refine HPU.out.mono ?_
        rintro e w5 ⟨v', xv, rfl, ⟨pa, pc, rfl, hfp⟩, hfx, hb5⟩
        obtain ⟨xa, xc, rfl, _, _⟩ := hfx.form
        have HPR : Hid (StoV w5 _ _) := Lib.hid ⟨pa, pc, rfl, hfp⟩
        generalize hPT : Top.put Blk.sum s c.content = PT at *
        have q0 := (hb5.block _ hl0).trans Q0.out
        have q2 := (hb5.block _ hl2).trans Q2.out
        have q3 := (hb5.block _ hl3).trans Q3.out
        have hbd := (hb5.block _ hlbe3).trans hbe3.out
        obtain ⟨t1, t2⟩ := set3 q0 (.slice pa PT.1.chunks.length pc) (.int .i64 PT.1.ses) (.string ⟨PT.1.stream.toArray⟩)
        have hbd2 := (t2.block be (Array.getElem?_eq_some_iff.1 hbd).1 (fun e => by injection e; omega)).trans hbd
        have y0 := tcell q0 0 (.slice ca s.chunks.length cc) rfl
        have y1 := tcell q0 1 (.int .i64 s.ses) rfl
        have y2 := tcell q0 2 (.string ⟨s.stream.toArray⟩) rfl
        have z0 := tfree q0 0
        have z1 := tfree q0 1
        have z2 := tfree q0 2
        have y6 := tcell hbd2 6 (.slice none 0 0) rfl
        have z6 := tfree hbd2 6
        have hbd3 : ((((w5.setCell ⟨w.heap.size, 0, none⟩ (.slice pa PT.1.chunks.length pc)).setCell ⟨w.heap.size, 1, none⟩ (.int .i64 PT.1.ses)).setCell ⟨w.heap.size, 2, none⟩ (.string ⟨PT.1.stream.toArray⟩)).setCell ⟨be, 6, none⟩ (.slice xa PT.2.1.length xc)).heap[be]? = some (.cells #[.int .i64 ck, .string ⟨c.path.toArray⟩, .slice na c.attrs.length nc, .string ⟨c.target.toArray⟩, .int .i64 c.content.length, .string ⟨(Blk.sum c.content).toArray⟩, .slice xa PT.2.1.length xc] 43 (0, 0)) := by
          rw [tset hbd2]
          simp
        have t3 := set_grown (w := (((w5.setCell ⟨w.heap.size, 0, none⟩ (.slice pa PT.1.chunks.length pc)).setCell ⟨w.heap.size, 1, none⟩ (.int .i64 PT.1.ses)).setCell ⟨w.heap.size, 2, none⟩ (.string ⟨PT.1.stream.toArray⟩))) (b := be) [(6, .slice xa PT.2.1.length xc)]
        have hR : RecF w be (w.heap.size) (w.heap.size + 1 + 1) (w.heap.size + 1 + 1 + 1) s c ((((w5.setCell ⟨w.heap.size, 0, none⟩ (.slice pa PT.1.chunks.length pc)).setCell ⟨w.heap.size, 1, none⟩ (.int .i64 PT.1.ses)).setCell ⟨w.heap.size, 2, none⟩ (.string ⟨PT.1.stream.toArray⟩)).setCell ⟨be, 6, none⟩ (.slice xa PT.2.1.length xc)) := by
          unfold RecF
          rw [HE.out, HS.out]
          have hbw := (hbc3.out.trans (hb5.mono hbc3.out.size))
          have hbw2 := (hbw.grown t2 hbw.size (fun k hk => by injection hk with hk; omega)).grown t3 (Nat.le_trans hbw.size t2.size) (fun k hk => by injection hk with hk; omega)
          have k5 : KeepC [43, 66] wc w5 := KeepC.of_below hb5
          have k6 : KeepC [43, 66] w5 _ := (Oth.of_grown t2).keepC q0 (by simp)
          have k7 := (Oth.of_grown t3).keepC (Ts := [43, 66]) hbd2 (by simp)
          exact ⟨na, nc, xa, xc, pa, pc, hbd3, (t3.block _ (Array.getElem?_eq_some_iff.1 t1).1 (fun e => by injection e; omega)).trans t1,
            ((Oth.of_grown t2).trans' (Oth.of_grown t3) q2 (by omega) (by omega)), ((Oth.of_grown t2).trans' (Oth.of_grown t3) q3 (by omega) (by omega)),
            (OwnF.keepC HOW3.out ((k5.trans k6).trans k7) (by decide)).flat attrC_len,
            exts_apart (exts_apart hfx q0 (show ¬ ([0, 0, 0] : List Nat) <:+: [2, 0, 1] from by decide) t2) hbd2 (show ¬ ([0, 0, 0] : List Nat) <:+: [0, 1, 2, 1, 0, 1, 2] from by decide) t3, chunks_apart (chunks_apart hfp q0 (show ¬ ([1, 0, 0, 0] : List Nat) <:+: [2, 0, 1] from by decide) t2) hbd2 (show ¬ ([1, 0, 0, 0] : List Nat) <:+: [0, 1, 2, 1, 0, 1, 2] from by decide) t3, hbw2⟩
        have HR := Lib.hid hR
        clear hR hbd3 t3
        go_wp2_with fail
        generalize ((((w5.setCell ⟨w.heap.size, 0, none⟩ (.slice pa PT.1.chunks.length pc)).setCell ⟨w.heap.size, 1, none⟩ (.int .i64 PT.1.ses)).setCell ⟨w.heap.size, 2, none⟩ (.string ⟨PT.1.stream.toArray⟩)).setCell ⟨be, 6, none⟩ (.slice xa PT.2.1.length xc)) = w9 at *
        obtain ⟨xa, xac, xe, xec, sa, sac, r1, r2, r3, r4, r5, r6, r7, r8⟩ := HR.out
        have HCK := Lib.hid (check_any _ (recE s c) w9.drew ⟨xa, xac, xe, xec, rfl, r5, r6⟩ (HG.out.below r8.drew) hEP hET)
        generalize hee : recE s c = e at *
        generalize htt : recS s c = t at *
        have HEE := Lib.hid hee
        have HTT := Lib.hid htt
        clear hee htt
        have x1 : w9.drew.heap[be]? = _ := r1
        have x2 : w9.drew.heap[w.heap.size]? = _ := r2
        have a0 : w9.drew.cell? ⟨be, 0, none⟩ = some (.int .i64 e.kind) := tcell r1 0 (.int .i64 e.kind) rfl
        have a1 : w9.drew.cell? ⟨be, 1, none⟩ = some (.string ⟨e.path.toArray⟩) := tcell r1 1 (.string ⟨e.path.toArray⟩) rfl
        have a2 : w9.drew.cell? ⟨be, 2, none⟩ = some (.slice xa e.attrs.length xac) := tcell r1 2 (.slice xa e.attrs.length xac) rfl
        have a3 : w9.drew.cell? ⟨be, 3, none⟩ = some (.string ⟨e.target.toArray⟩) := tcell r1 3 (.string ⟨e.target.toArray⟩) rfl
        have a4 : w9.drew.cell? ⟨be, 4, none⟩ = some (.int .i64 e.size) := tcell r1 4 (.int .i64 e.size) rfl
        have a5 : w9.drew.cell? ⟨be, 5, none⟩ = some (.string ⟨e.digest.toArray⟩) := tcell r1 5 (.string ⟨e.digest.toArray⟩) rfl
        have a6 : w9.drew.cell? ⟨be, 6, none⟩ = some (.slice xe e.exts.length xec) := tcell r1 6 (.slice xe e.exts.length xec) rfl
        have a7 : w9.drew.cell? ⟨w.heap.size, 0, none⟩ = some (.slice sa t.chunks.length sac) := tcell r2 0 (.slice sa t.chunks.length sac) rfl
        have a8 : w9.drew.cell? ⟨w.heap.size, 1, none⟩ = some (.int .i64 t.ses) := tcell r2 1 (.int .i64 t.ses) rfl
        have a9 : w9.drew.cell? ⟨w.heap.size, 2, none⟩ = some (.string ⟨t.stream.toArray⟩) := tcell r2 2 (.string ⟨t.stream.toArray⟩) rfl
        have hl1 := (Array.getElem?_eq_some_iff.1 r1).1
        have hl2 := (Array.getElem?_eq_some_iff.1 r2).1
        have hl3 := (Array.getElem?_eq_some_iff.1 r3).1
        have hl4 := (Array.getElem?_eq_some_iff.1 r4).1
        have hne2 : be ≠ w.heap.size + 1 + 1 := by omega
        have hne3 : be ≠ w.heap.size + 1 + 1 + 1 := by omega
        have hne02 : w.heap.size ≠ w.heap.size + 1 + 1 := by omega
        have hne03 : w.heap.size ≠ w.heap.size + 1 + 1 + 1 := by omega
        have hne32 : w.heap.size + 1 + 1 + 1 ≠ w.heap.size + 1 + 1 := by omega
        have R1 := Lib.hid r1
        have R2 := Lib.hid r2
        have R3 := Lib.hid r3
        have R4 := Lib.hid r4
        have R5 := Lib.hid r5
        have R6 := Lib.hid r6
        have R7 := Lib.hid r7
        have R8 := Lib.hid r8
        clear r1 r2 r3 r4 r5 r6 r7 r8 x1 x2
        go_region_held3 (fun w' => w'.cell? ⟨be, 0, none⟩ = some (.int .i64 e.kind) ∧ w'.cell? ⟨be, 1, none⟩ = some (.string ⟨e.path.toArray⟩) ∧ w'.cell? ⟨be, 2, none⟩ = some (.slice xa e.attrs.length xac) ∧ w'.cell? ⟨be, 3, none⟩ = some (.string ⟨e.target.toArray⟩) ∧ w'.cell? ⟨be, 4, none⟩ = some (.int .i64 e.size) ∧ w'.cell? ⟨be, 5, none⟩ = some (.string ⟨e.digest.toArray⟩) ∧ w'.cell? ⟨be, 6, none⟩ = some (.slice xe e.exts.length xec) ∧ w'.cell? ⟨w.heap.size, 0, none⟩ = some (.slice sa t.chunks.length sac) ∧ w'.cell? ⟨w.heap.size, 1, none⟩ = some (.int .i64 t.ses) ∧ w'.cell? ⟨w.heap.size, 2, none⟩ = some (.string ⟨t.stream.toArray⟩)) (first | with_reducible exact ⟨a0, a1, a2, a3, a4, a5, a6, a7, a8, a9⟩ | with_reducible exact ⟨b0, b1, b2, b3, b4, b5, b6, b7, b8, b9⟩ | with_reducible exact ⟨c0, c1, c2, c3, c4, c5, c6, c7, c8, c9⟩ | with_reducible exact ⟨d0, d1, d2, d3, d4, d5, d6, d7, d8, d9⟩ | go_keep) ((go_at_call 85; refine HCK.out.mono ?_; rintro en w10 ⟨rfl, hb10⟩; have m1 := (hb10.block _ hl1).trans R1.out; have m2 := (hb10.block _ hl2).trans R2.out; have m3 := (hb10.block _ hl3).trans R3.out; have m4 := (hb10.block _ hl4).trans R4.out; have b0 := tcell m1 0 (.int .i64 e.kind) rfl; have b1 := tcell m1 1 (.string ⟨e.path.toArray⟩) rfl; have b2 := tcell m1 2 (.slice xa e.attrs.length xac) rfl; have b3 := tcell m1 3 (.string ⟨e.target.toArray⟩) rfl; have b4 := tcell m1 4 (.int .i64 e.size) rfl; have b5 := tcell m1 5 (.string ⟨e.digest.toArray⟩) rfl; have b6 := tcell m1 6 (.slice xe e.exts.length xec) rfl; have b7 := tcell m2 0 (.slice sa t.chunks.length sac) rfl; have b8 := tcell m2 1 (.int .i64 t.ses) rfl; have b9 := tcell m2 2 (.string ⟨t.stream.toArray⟩) rfl; have c0 := (far7 (w := w10) hne2 (.int .i64 e.kind) (.string ⟨e.path.toArray⟩) (.slice xa e.attrs.length xac) (.string ⟨e.target.toArray⟩) (.int .i64 e.size) (.string ⟨e.digest.toArray⟩) (.slice xe e.exts.length xec) 0).trans b0; have c1 := (far7 (w := w10) hne2 (.int .i64 e.kind) (.string ⟨e.path.toArray⟩) (.slice xa e.attrs.length xac) (.string ⟨e.target.toArray⟩) (.int .i64 e.size) (.string ⟨e.digest.toArray⟩) (.slice xe e.exts.length xec) 1).trans b1; have c2 := (far7 (w := w10) hne2 (.int .i64 e.kind) (.string ⟨e.path.toArray⟩) (.slice xa e.attrs.length xac) (.string ⟨e.target.toArray⟩) (.int .i64 e.size) (.string ⟨e.digest.toArray⟩) (.slice xe e.exts.length xec) 2).trans b2; have c3 := (far7 (w := w10) hne2 (.int .i64 e.kind) (.string ⟨e.path.toArray⟩) (.slice xa e.attrs.length xac) (.string ⟨e.target.toArray⟩) (.int .i64 e.size) (.string ⟨e.digest.toArray⟩) (.slice xe e.exts.length xec) 3).trans b3; have c4 := (far7 (w := w10) hne2 (.int .i64 e.kind) (.string ⟨e.path.toArray⟩) (.slice xa e.attrs.length xac) (.string ⟨e.target.toArray⟩) (.int .i64 e.size) (.string ⟨e.digest.toArray⟩) (.slice xe e.exts.length xec) 4).trans b4; have c5 := (far7 (w := w10) hne2 (.int .i64 e.kind) (.string ⟨e.path.toArray⟩) (.slice xa e.attrs.length xac) (.string ⟨e.target.toArray⟩) (.int .i64 e.size) (.string ⟨e.digest.toArray⟩) (.slice xe e.exts.length xec) 5).trans b5; have c6 := (far7 (w := w10) hne2 (.int .i64 e.kind) (.string ⟨e.path.toArray⟩) (.slice xa e.attrs.length xac) (.string ⟨e.target.toArray⟩) (.int .i64 e.size) (.string ⟨e.digest.toArray⟩) (.slice xe e.exts.length xec) 6).trans b6; have c7 := (far7 (w := w10) hne02 (.int .i64 e.kind) (.string ⟨e.path.toArray⟩) (.slice xa e.attrs.length xac) (.string ⟨e.target.toArray⟩) (.int .i64 e.size) (.string ⟨e.digest.toArray⟩) (.slice xe e.exts.length xec) 0).trans b7; have c8 := (far7 (w := w10) hne02 (.int .i64 e.kind) (.string ⟨e.path.toArray⟩) (.slice xa e.attrs.length xac) (.string ⟨e.target.toArray⟩) (.int .i64 e.size) (.string ⟨e.digest.toArray⟩) (.slice xe e.exts.length xec) 1).trans b8; have c9 := (far7 (w := w10) hne02 (.int .i64 e.kind) (.string ⟨e.path.toArray⟩) (.slice xa e.attrs.length xac) (.string ⟨e.target.toArray⟩) (.int .i64 e.size) (.string ⟨e.digest.toArray⟩) (.slice xe e.exts.length xec) 2).trans b9; have d0 := (far3 (w := (((((((w10.setCell ⟨w.heap.size + 1 + 1, 0, none⟩ (.int .i64 e.kind)).setCell ⟨w.heap.size + 1 + 1, 1, none⟩ (.string ⟨e.path.toArray⟩)).setCell ⟨w.heap.size + 1 + 1, 2, none⟩ (.slice xa e.attrs.length xac)).setCell ⟨w.heap.size + 1 + 1, 3, none⟩ (.string ⟨e.target.toArray⟩)).setCell ⟨w.heap.size + 1 + 1, 4, none⟩ (.int .i64 e.size)).setCell ⟨w.heap.size + 1 + 1, 5, none⟩ (.string ⟨e.digest.toArray⟩)).setCell ⟨w.heap.size + 1 + 1, 6, none⟩ (.slice xe e.exts.length xec))) hne3 0 1 2 (.slice sa t.chunks.length sac) (.int .i64 t.ses) (.string ⟨t.stream.toArray⟩) 0).trans c0; have d1 := (far3 (w := (((((((w10.setCell ⟨w.heap.size + 1 + 1, 0, none⟩ (.int .i64 e.kind)).setCell ⟨w.heap.size + 1 + 1, 1, none⟩ (.string ⟨e.path.toArray⟩)).setCell ⟨w.heap.size + 1 + 1, 2, none⟩ (.slice xa e.attrs.length xac)).setCell ⟨w.heap.size + 1 + 1, 3, none⟩ (.string ⟨e.target.toArray⟩)).setCell ⟨w.heap.size + 1 + 1, 4, none⟩ (.int .i64 e.size)).setCell ⟨w.heap.size + 1 + 1, 5, none⟩ (.string ⟨e.digest.toArray⟩)).setCell ⟨w.heap.size + 1 + 1, 6, none⟩ (.slice xe e.exts.length xec))) hne3 0 1 2 (.slice sa t.chunks.length sac) (.int .i64 t.ses) (.string ⟨t.stream.toArray⟩) 1).trans c1; have d2 := (far3 (w := (((((((w10.setCell ⟨w.heap.size + 1 + 1, 0, none⟩ (.int .i64 e.kind)).setCell ⟨w.heap.size + 1 + 1, 1, none⟩ (.string ⟨e.path.toArray⟩)).setCell ⟨w.heap.size + 1 + 1, 2, none⟩ (.slice xa e.attrs.length xac)).setCell ⟨w.heap.size + 1 + 1, 3, none⟩ (.string ⟨e.target.toArray⟩)).setCell ⟨w.heap.size + 1 + 1, 4, none⟩ (.int .i64 e.size)).setCell ⟨w.heap.size + 1 + 1, 5, none⟩ (.string ⟨e.digest.toArray⟩)).setCell ⟨w.heap.size + 1 + 1, 6, none⟩ (.slice xe e.exts.length xec))) hne3 0 1 2 (.slice sa t.chunks.length sac) (.int .i64 t.ses) (.string ⟨t.stream.toArray⟩) 2).trans c2; have d3 := (far3 (w := (((((((w10.setCell ⟨w.heap.size + 1 + 1, 0, none⟩ (.int .i64 e.kind)).setCell ⟨w.heap.size + 1 + 1, 1, none⟩ (.string ⟨e.path.toArray⟩)).setCell ⟨w.heap.size + 1 + 1, 2, none⟩ (.slice xa e.attrs.length xac)).setCell ⟨w.heap.size + 1 + 1, 3, none⟩ (.string ⟨e.target.toArray⟩)).setCell ⟨w.heap.size + 1 + 1, 4, none⟩ (.int .i64 e.size)).setCell ⟨w.heap.size + 1 + 1, 5, none⟩ (.string ⟨e.digest.toArray⟩)).setCell ⟨w.heap.size + 1 + 1, 6, none⟩ (.slice xe e.exts.length xec))) hne3 0 1 2 (.slice sa t.chunks.length sac) (.int .i64 t.ses) (.string ⟨t.stream.toArray⟩) 3).trans c3; have d4 := (far3 (w := (((((((w10.setCell ⟨w.heap.size + 1 + 1, 0, none⟩ (.int .i64 e.kind)).setCell ⟨w.heap.size + 1 + 1, 1, none⟩ (.string ⟨e.path.toArray⟩)).setCell ⟨w.heap.size + 1 + 1, 2, none⟩ (.slice xa e.attrs.length xac)).setCell ⟨w.heap.size + 1 + 1, 3, none⟩ (.string ⟨e.target.toArray⟩)).setCell ⟨w.heap.size + 1 + 1, 4, none⟩ (.int .i64 e.size)).setCell ⟨w.heap.size + 1 + 1, 5, none⟩ (.string ⟨e.digest.toArray⟩)).setCell ⟨w.heap.size + 1 + 1, 6, none⟩ (.slice xe e.exts.length xec))) hne3 0 1 2 (.slice sa t.chunks.length sac) (.int .i64 t.ses) (.string ⟨t.stream.toArray⟩) 4).trans c4; have d5 := (far3 (w := (((((((w10.setCell ⟨w.heap.size + 1 + 1, 0, none⟩ (.int .i64 e.kind)).setCell ⟨w.heap.size + 1 + 1, 1, none⟩ (.string ⟨e.path.toArray⟩)).setCell ⟨w.heap.size + 1 + 1, 2, none⟩ (.slice xa e.attrs.length xac)).setCell ⟨w.heap.size + 1 + 1, 3, none⟩ (.string ⟨e.target.toArray⟩)).setCell ⟨w.heap.size + 1 + 1, 4, none⟩ (.int .i64 e.size)).setCell ⟨w.heap.size + 1 + 1, 5, none⟩ (.string ⟨e.digest.toArray⟩)).setCell ⟨w.heap.size + 1 + 1, 6, none⟩ (.slice xe e.exts.length xec))) hne3 0 1 2 (.slice sa t.chunks.length sac) (.int .i64 t.ses) (.string ⟨t.stream.toArray⟩) 5).trans c5; have d6 := (far3 (w := (((((((w10.setCell ⟨w.heap.size + 1 + 1, 0, none⟩ (.int .i64 e.kind)).setCell ⟨w.heap.size + 1 + 1, 1, none⟩ (.string ⟨e.path.toArray⟩)).setCell ⟨w.heap.size + 1 + 1, 2, none⟩ (.slice xa e.attrs.length xac)).setCell ⟨w.heap.size + 1 + 1, 3, none⟩ (.string ⟨e.target.toArray⟩)).setCell ⟨w.heap.size + 1 + 1, 4, none⟩ (.int .i64 e.size)).setCell ⟨w.heap.size + 1 + 1, 5, none⟩ (.string ⟨e.digest.toArray⟩)).setCell ⟨w.heap.size + 1 + 1, 6, none⟩ (.slice xe e.exts.length xec))) hne3 0 1 2 (.slice sa t.chunks.length sac) (.int .i64 t.ses) (.string ⟨t.stream.toArray⟩) 6).trans c6; have d7 := (far3 (w := (((((((w10.setCell ⟨w.heap.size + 1 + 1, 0, none⟩ (.int .i64 e.kind)).setCell ⟨w.heap.size + 1 + 1, 1, none⟩ (.string ⟨e.path.toArray⟩)).setCell ⟨w.heap.size + 1 + 1, 2, none⟩ (.slice xa e.attrs.length xac)).setCell ⟨w.heap.size + 1 + 1, 3, none⟩ (.string ⟨e.target.toArray⟩)).setCell ⟨w.heap.size + 1 + 1, 4, none⟩ (.int .i64 e.size)).setCell ⟨w.heap.size + 1 + 1, 5, none⟩ (.string ⟨e.digest.toArray⟩)).setCell ⟨w.heap.size + 1 + 1, 6, none⟩ (.slice xe e.exts.length xec))) hne03 0 1 2 (.slice sa t.chunks.length sac) (.int .i64 t.ses) (.string ⟨t.stream.toArray⟩) 0).trans c7; have d8 := (far3 (w := (((((((w10.setCell ⟨w.heap.size + 1 + 1, 0, none⟩ (.int .i64 e.kind)).setCell ⟨w.heap.size + 1 + 1, 1, none⟩ (.string ⟨e.path.toArray⟩)).setCell ⟨w.heap.size + 1 + 1, 2, none⟩ (.slice xa e.attrs.length xac)).setCell ⟨w.heap.size + 1 + 1, 3, none⟩ (.string ⟨e.target.toArray⟩)).setCell ⟨w.heap.size + 1 + 1, 4, none⟩ (.int .i64 e.size)).setCell ⟨w.heap.size + 1 + 1, 5, none⟩ (.string ⟨e.digest.toArray⟩)).setCell ⟨w.heap.size + 1 + 1, 6, none⟩ (.slice xe e.exts.length xec))) hne03 0 1 2 (.slice sa t.chunks.length sac) (.int .i64 t.ses) (.string ⟨t.stream.toArray⟩) 1).trans c8; have d9 := (far3 (w := (((((((w10.setCell ⟨w.heap.size + 1 + 1, 0, none⟩ (.int .i64 e.kind)).setCell ⟨w.heap.size + 1 + 1, 1, none⟩ (.string ⟨e.path.toArray⟩)).setCell ⟨w.heap.size + 1 + 1, 2, none⟩ (.slice xa e.attrs.length xac)).setCell ⟨w.heap.size + 1 + 1, 3, none⟩ (.string ⟨e.target.toArray⟩)).setCell ⟨w.heap.size + 1 + 1, 4, none⟩ (.int .i64 e.size)).setCell ⟨w.heap.size + 1 + 1, 5, none⟩ (.string ⟨e.digest.toArray⟩)).setCell ⟨w.heap.size + 1 + 1, 6, none⟩ (.slice xe e.exts.length xec))) hne03 0 1 2 (.slice sa t.chunks.length sac) (.int .i64 t.ses) (.string ⟨t.stream.toArray⟩) 2).trans c9; obtain ⟨y0, y1, y2, y3, y4, y5, y6, z0, z1, z2, z3, z4, z5, z6⟩ := row7 m3; have u0 := tcell m4 0 (.slice none 0 0) rfl; have u1 := tcell m4 1 (.int .i64 0) rfl; have u2 := tcell m4 2 (.string ⟨#[]⟩) rfl; have f0 := tfree m4 0; have f1 := tfree m4 1; have f2 := tfree m4 2))
        all_goals
          go_wp2_with fail
          have g7 : w10.grownBy (((((((w10.setCell ⟨w.heap.size + 1 + 1, 0, none⟩ (.int .i64 e.kind)).setCell ⟨w.heap.size + 1 + 1, 1, none⟩ (.string ⟨e.path.toArray⟩)).setCell ⟨w.heap.size + 1 + 1, 2, none⟩ (.slice xa e.attrs.length xac)).setCell ⟨w.heap.size + 1 + 1, 3, none⟩ (.string ⟨e.target.toArray⟩)).setCell ⟨w.heap.size + 1 + 1, 4, none⟩ (.int .i64 e.size)).setCell ⟨w.heap.size + 1 + 1, 5, none⟩ (.string ⟨e.digest.toArray⟩)).setCell ⟨w.heap.size + 1 + 1, 6, none⟩ (.slice xe e.exts.length xec)) (some (w.heap.size + 1 + 1)) := set_grown (w := w10) (b := w.heap.size + 1 + 1) [(0, .int .i64 e.kind), (1, .string ⟨e.path.toArray⟩), (2, .slice xa e.attrs.length xac), (3, .string ⟨e.target.toArray⟩), (4, .int .i64 e.size), (5, .string ⟨e.digest.toArray⟩), (6, .slice xe e.exts.length xec)]
          have s7 := (set7 m3 (Nat.le_refl _) (.int .i64 e.kind) (.string ⟨e.path.toArray⟩) (.slice xa e.attrs.length xac) (.string ⟨e.target.toArray⟩) (.int .i64 e.size) (.string ⟨e.digest.toArray⟩) (.slice xe e.exts.length xec)).1
          generalize (((((((w10.setCell ⟨w.heap.size + 1 + 1, 0, none⟩ (.int .i64 e.kind)).setCell ⟨w.heap.size + 1 + 1, 1, none⟩ (.string ⟨e.path.toArray⟩)).setCell ⟨w.heap.size + 1 + 1, 2, none⟩ (.slice xa e.attrs.length xac)).setCell ⟨w.heap.size + 1 + 1, 3, none⟩ (.string ⟨e.target.toArray⟩)).setCell ⟨w.heap.size + 1 + 1, 4, none⟩ (.int .i64 e.size)).setCell ⟨w.heap.size + 1 + 1, 5, none⟩ (.string ⟨e.digest.toArray⟩)).setCell ⟨w.heap.size + 1 + 1, 6, none⟩ (.slice xe e.exts.length xec)) = w11 at *
          have m4' := (g7.block (w.heap.size + 1 + 1 + 1) (Array.getElem?_eq_some_iff.1 m4).1 (fun e => by injection e; omega)).trans m4
          obtain ⟨t1, t2⟩ := set3 m4' (.slice sa t.chunks.length sac) (.int .i64 t.ses) (.string ⟨t.stream.toArray⟩)
          have s7' := (t2.block (w.heap.size + 1 + 1) (Array.getElem?_eq_some_iff.1 s7).1 (fun e => by injection e; omega)).trans s7
          have h9 : Below w9.heap.size w9 w10 := ((Below.refl _ w9).drew).trans hb10
          have h9w := R8.out.trans (h9.mono R8.out.size)
          have h10 := (h9w.grown g7 h9w.size (fun k hk => by injection hk with hk; omega)).grown t2 (Nat.le_trans h9w.size g7.size) (fun k hk => by injection hk with hk; omega)
          have A1 := attrs_apart (attrs_apart (R5.out.below h9) m3 (show ¬ ([1, 1] : List Nat) <:+: [0, 1, 2, 1, 0, 1, 2] from by decide) g7) m4' (show ¬ ([1, 1] : List Nat) <:+: [2, 0, 1] from by decide) t2
          have A2 := exts_apart (exts_apart (R6.out.below h9) m3 (show ¬ ([0, 0, 0] : List Nat) <:+: [0, 1, 2, 1, 0, 1, 2] from by decide) g7) m4' (show ¬ ([0, 0, 0] : List Nat) <:+: [2, 0, 1] from by decide) t2
          have A3 := chunks_apart (chunks_apart (R7.out.below h9) m3 (show ¬ ([1, 0, 0, 0] : List Nat) <:+: [0, 1, 2, 1, 0, 1, 2] from by decide) g7) m4' (show ¬ ([1, 0, 0, 0] : List Nat) <:+: [2, 0, 1] from by decide) t2
          refine bodyPost_ret (v := .tuple #[.agg #[.int .i64 e.kind, .string ⟨e.path.toArray⟩, .slice xa e.attrs.length xac, .string ⟨e.target.toArray⟩, .int .i64 e.size, .string ⟨e.digest.toArray⟩, .slice xe e.exts.length xec], .agg #[.slice sa t.chunks.length sac, .int .i64 t.ses, .string ⟨t.stream.toArray⟩], .int .i64 (entErr e)]) ?_ ?_ ?_
          · refine results_row2_tmp (p := 4) (u := 5) (v := 6) (ty := 43) (ty' := 66) (by kernel_rfl) _ _ (w.heap.size + 1 + 1) (w.heap.size + 1 + 1 + 1) 43 66 _ _ (0, 0) (0, 0) _ _ ?_ ?_ s7' t1 Tryz.underlying43 Tryz.underlying66 (by kernel_rfl) (by kernel_rfl) (by kernel_rfl) (by kernel_rfl)
            · kernel_rfl
            · kernel_rfl
          · kernel_rfl
          · rw [HEE.out, HTT.out]; exact ⟨_, _, rfl, ⟨xa, xac, xe, xec, rfl, A1, A2⟩, ⟨sa, sac, rfl, A3⟩, by first | exact h10 | exact h10.drew | exact h10.drew.drew⟩
    · have hE : recE s c = ⟨c.kind, c.path, c.attrs, c.target, 0, [], []⟩ := if_neg hk
      have hS : recS s c = s := if_neg (fun h => hk h.1)
      have HE := Lib.hid hE
      have HS := Lib.hid hS
      have HFC := Lib.hid (HFL.out.below HBC.out)
      clear hE hS
      have hR : RecF w be (w.heap.size) (w.heap.size + 1 + 1) (w.heap.size + 1 + 1 + 1) s c wc := by
        unfold RecF
        rw [HE.out, HS.out]
        exact ⟨na, nc, none, 0, ca, cc, hbe.out, Q0.out, Q2.out, Q3.out, hown.out.flat attrC_len, Flat.nil _ _ _, HFC.out, HBC.out⟩
      have HR := Lib.hid hR
      clear hR
      go_wp2_with fail
      generalize wc = w9 at *
      obtain ⟨xa, xac, xe, xec, sa, sac, r1, r2, r3, r4, r5, r6, r7, r8⟩ := HR.out
      have HCK := Lib.hid (check_any _ (recE s c) w9.drew ⟨xa, xac, xe, xec, rfl, r5, r6⟩ (HG.out.below r8.drew) hEP hET)
      generalize hee : recE s c = e at *
      generalize htt : recS s c = t at *
      have HEE := Lib.hid hee
      have HTT := Lib.hid htt
      clear hee htt
      have x1 : w9.drew.heap[be]? = _ := r1
      have x2 : w9.drew.heap[w.heap.size]? = _ := r2
      have a0 : w9.drew.cell? ⟨be, 0, none⟩ = some (.int .i64 e.kind) := tcell r1 0 (.int .i64 e.kind) rfl
      have a1 : w9.drew.cell? ⟨be, 1, none⟩ = some (.string ⟨e.path.toArray⟩) := tcell r1 1 (.string ⟨e.path.toArray⟩) rfl
      have a2 : w9.drew.cell? ⟨be, 2, none⟩ = some (.slice xa e.attrs.length xac) := tcell r1 2 (.slice xa e.attrs.length xac) rfl
      have a3 : w9.drew.cell? ⟨be, 3, none⟩ = some (.string ⟨e.target.toArray⟩) := tcell r1 3 (.string ⟨e.target.toArray⟩) rfl
      have a4 : w9.drew.cell? ⟨be, 4, none⟩ = some (.int .i64 e.size) := tcell r1 4 (.int .i64 e.size) rfl
      have a5 : w9.drew.cell? ⟨be, 5, none⟩ = some (.string ⟨e.digest.toArray⟩) := tcell r1 5 (.string ⟨e.digest.toArray⟩) rfl
      have a6 : w9.drew.cell? ⟨be, 6, none⟩ = some (.slice xe e.exts.length xec) := tcell r1 6 (.slice xe e.exts.length xec) rfl
      have a7 : w9.drew.cell? ⟨w.heap.size, 0, none⟩ = some (.slice sa t.chunks.length sac) := tcell r2 0 (.slice sa t.chunks.length sac) rfl
      have a8 : w9.drew.cell? ⟨w.heap.size, 1, none⟩ = some (.int .i64 t.ses) := tcell r2 1 (.int .i64 t.ses) rfl
      have a9 : w9.drew.cell? ⟨w.heap.size, 2, none⟩ = some (.string ⟨t.stream.toArray⟩) := tcell r2 2 (.string ⟨t.stream.toArray⟩) rfl
      have hl1 := (Array.getElem?_eq_some_iff.1 r1).1
      have hl2 := (Array.getElem?_eq_some_iff.1 r2).1
      have hl3 := (Array.getElem?_eq_some_iff.1 r3).1
      have hl4 := (Array.getElem?_eq_some_iff.1 r4).1
      have hne2 : be ≠ w.heap.size + 1 + 1 := by omega
      have hne3 : be ≠ w.heap.size + 1 + 1 + 1 := by omega
      have hne02 : w.heap.size ≠ w.heap.size + 1 + 1 := by omega
      have hne03 : w.heap.size ≠ w.heap.size + 1 + 1 + 1 := by omega
      have hne32 : w.heap.size + 1 + 1 + 1 ≠ w.heap.size + 1 + 1 := by omega
      have R1 := Lib.hid r1
      have R2 := Lib.hid r2
      have R3 := Lib.hid r3
      have R4 := Lib.hid r4
      have R5 := Lib.hid r5
      have R6 := Lib.hid r6
      have R7 := Lib.hid r7
      have R8 := Lib.hid r8
      clear r1 r2 r3 r4 r5 r6 r7 r8 x1 x2
      go_region_held3 (fun w' => w'.cell? ⟨be, 0, none⟩ = some (.int .i64 e.kind) ∧ w'.cell? ⟨be, 1, none⟩ = some (.string ⟨e.path.toArray⟩) ∧ w'.cell? ⟨be, 2, none⟩ = some (.slice xa e.attrs.length xac) ∧ w'.cell? ⟨be, 3, none⟩ = some (.string ⟨e.target.toArray⟩) ∧ w'.cell? ⟨be, 4, none⟩ = some (.int .i64 e.size) ∧ w'.cell? ⟨be, 5, none⟩ = some (.string ⟨e.digest.toArray⟩) ∧ w'.cell? ⟨be, 6, none⟩ = some (.slice xe e.exts.length xec) ∧ w'.cell? ⟨w.heap.size, 0, none⟩ = some (.slice sa t.chunks.length sac) ∧ w'.cell? ⟨w.heap.size, 1, none⟩ = some (.int .i64 t.ses) ∧ w'.cell? ⟨w.heap.size, 2, none⟩ = some (.string ⟨t.stream.toArray⟩)) (first | with_reducible exact ⟨a0, a1, a2, a3, a4, a5, a6, a7, a8, a9⟩ | with_reducible exact ⟨b0, b1, b2, b3, b4, b5, b6, b7, b8, b9⟩ | with_reducible exact ⟨c0, c1, c2, c3, c4, c5, c6, c7, c8, c9⟩ | with_reducible exact ⟨d0, d1, d2, d3, d4, d5, d6, d7, d8, d9⟩ | go_keep) ((go_at_call 85; refine HCK.out.mono ?_; rintro en w10 ⟨rfl, hb10⟩; have m1 := (hb10.block _ hl1).trans R1.out; have m2 := (hb10.block _ hl2).trans R2.out; have m3 := (hb10.block _ hl3).trans R3.out; have m4 := (hb10.block _ hl4).trans R4.out; have b0 := tcell m1 0 (.int .i64 e.kind) rfl; have b1 := tcell m1 1 (.string ⟨e.path.toArray⟩) rfl; have b2 := tcell m1 2 (.slice xa e.attrs.length xac) rfl; have b3 := tcell m1 3 (.string ⟨e.target.toArray⟩) rfl; have b4 := tcell m1 4 (.int .i64 e.size) rfl; have b5 := tcell m1 5 (.string ⟨e.digest.toArray⟩) rfl; have b6 := tcell m1 6 (.slice xe e.exts.length xec) rfl; have b7 := tcell m2 0 (.slice sa t.chunks.length sac) rfl; have b8 := tcell m2 1 (.int .i64 t.ses) rfl; have b9 := tcell m2 2 (.string ⟨t.stream.toArray⟩) rfl; have c0 := (far7 (w := w10) hne2 (.int .i64 e.kind) (.string ⟨e.path.toArray⟩) (.slice xa e.attrs.length xac) (.string ⟨e.target.toArray⟩) (.int .i64 e.size) (.string ⟨e.digest.toArray⟩) (.slice xe e.exts.length xec) 0).trans b0; have c1 := (far7 (w := w10) hne2 (.int .i64 e.kind) (.string ⟨e.path.toArray⟩) (.slice xa e.attrs.length xac) (.string ⟨e.target.toArray⟩) (.int .i64 e.size) (.string ⟨e.digest.toArray⟩) (.slice xe e.exts.length xec) 1).trans b1; have c2 := (far7 (w := w10) hne2 (.int .i64 e.kind) (.string ⟨e.path.toArray⟩) (.slice xa e.attrs.length xac) (.string ⟨e.target.toArray⟩) (.int .i64 e.size) (.string ⟨e.digest.toArray⟩) (.slice xe e.exts.length xec) 2).trans b2; have c3 := (far7 (w := w10) hne2 (.int .i64 e.kind) (.string ⟨e.path.toArray⟩) (.slice xa e.attrs.length xac) (.string ⟨e.target.toArray⟩) (.int .i64 e.size) (.string ⟨e.digest.toArray⟩) (.slice xe e.exts.length xec) 3).trans b3; have c4 := (far7 (w := w10) hne2 (.int .i64 e.kind) (.string ⟨e.path.toArray⟩) (.slice xa e.attrs.length xac) (.string ⟨e.target.toArray⟩) (.int .i64 e.size) (.string ⟨e.digest.toArray⟩) (.slice xe e.exts.length xec) 4).trans b4; have c5 := (far7 (w := w10) hne2 (.int .i64 e.kind) (.string ⟨e.path.toArray⟩) (.slice xa e.attrs.length xac) (.string ⟨e.target.toArray⟩) (.int .i64 e.size) (.string ⟨e.digest.toArray⟩) (.slice xe e.exts.length xec) 5).trans b5; have c6 := (far7 (w := w10) hne2 (.int .i64 e.kind) (.string ⟨e.path.toArray⟩) (.slice xa e.attrs.length xac) (.string ⟨e.target.toArray⟩) (.int .i64 e.size) (.string ⟨e.digest.toArray⟩) (.slice xe e.exts.length xec) 6).trans b6; have c7 := (far7 (w := w10) hne02 (.int .i64 e.kind) (.string ⟨e.path.toArray⟩) (.slice xa e.attrs.length xac) (.string ⟨e.target.toArray⟩) (.int .i64 e.size) (.string ⟨e.digest.toArray⟩) (.slice xe e.exts.length xec) 0).trans b7; have c8 := (far7 (w := w10) hne02 (.int .i64 e.kind) (.string ⟨e.path.toArray⟩) (.slice xa e.attrs.length xac) (.string ⟨e.target.toArray⟩) (.int .i64 e.size) (.string ⟨e.digest.toArray⟩) (.slice xe e.exts.length xec) 1).trans b8; have c9 := (far7 (w := w10) hne02 (.int .i64 e.kind) (.string ⟨e.path.toArray⟩) (.slice xa e.attrs.length xac) (.string ⟨e.target.toArray⟩) (.int .i64 e.size) (.string ⟨e.digest.toArray⟩) (.slice xe e.exts.length xec) 2).trans b9; have d0 := (far3 (w := (((((((w10.setCell ⟨w.heap.size + 1 + 1, 0, none⟩ (.int .i64 e.kind)).setCell ⟨w.heap.size + 1 + 1, 1, none⟩ (.string ⟨e.path.toArray⟩)).setCell ⟨w.heap.size + 1 + 1, 2, none⟩ (.slice xa e.attrs.length xac)).setCell ⟨w.heap.size + 1 + 1, 3, none⟩ (.string ⟨e.target.toArray⟩)).setCell ⟨w.heap.size + 1 + 1, 4, none⟩ (.int .i64 e.size)).setCell ⟨w.heap.size + 1 + 1, 5, none⟩ (.string ⟨e.digest.toArray⟩)).setCell ⟨w.heap.size + 1 + 1, 6, none⟩ (.slice xe e.exts.length xec))) hne3 0 1 2 (.slice sa t.chunks.length sac) (.int .i64 t.ses) (.string ⟨t.stream.toArray⟩) 0).trans c0; have d1 := (far3 (w := (((((((w10.setCell ⟨w.heap.size + 1 + 1, 0, none⟩ (.int .i64 e.kind)).setCell ⟨w.heap.size + 1 + 1, 1, none⟩ (.string ⟨e.path.toArray⟩)).setCell ⟨w.heap.size + 1 + 1, 2, none⟩ (.slice xa e.attrs.length xac)).setCell ⟨w.heap.size + 1 + 1, 3, none⟩ (.string ⟨e.target.toArray⟩)).setCell ⟨w.heap.size + 1 + 1, 4, none⟩ (.int .i64 e.size)).setCell ⟨w.heap.size + 1 + 1, 5, none⟩ (.string ⟨e.digest.toArray⟩)).setCell ⟨w.heap.size + 1 + 1, 6, none⟩ (.slice xe e.exts.length xec))) hne3 0 1 2 (.slice sa t.chunks.length sac) (.int .i64 t.ses) (.string ⟨t.stream.toArray⟩) 1).trans c1; have d2 := (far3 (w := (((((((w10.setCell ⟨w.heap.size + 1 + 1, 0, none⟩ (.int .i64 e.kind)).setCell ⟨w.heap.size + 1 + 1, 1, none⟩ (.string ⟨e.path.toArray⟩)).setCell ⟨w.heap.size + 1 + 1, 2, none⟩ (.slice xa e.attrs.length xac)).setCell ⟨w.heap.size + 1 + 1, 3, none⟩ (.string ⟨e.target.toArray⟩)).setCell ⟨w.heap.size + 1 + 1, 4, none⟩ (.int .i64 e.size)).setCell ⟨w.heap.size + 1 + 1, 5, none⟩ (.string ⟨e.digest.toArray⟩)).setCell ⟨w.heap.size + 1 + 1, 6, none⟩ (.slice xe e.exts.length xec))) hne3 0 1 2 (.slice sa t.chunks.length sac) (.int .i64 t.ses) (.string ⟨t.stream.toArray⟩) 2).trans c2; have d3 := (far3 (w := (((((((w10.setCell ⟨w.heap.size + 1 + 1, 0, none⟩ (.int .i64 e.kind)).setCell ⟨w.heap.size + 1 + 1, 1, none⟩ (.string ⟨e.path.toArray⟩)).setCell ⟨w.heap.size + 1 + 1, 2, none⟩ (.slice xa e.attrs.length xac)).setCell ⟨w.heap.size + 1 + 1, 3, none⟩ (.string ⟨e.target.toArray⟩)).setCell ⟨w.heap.size + 1 + 1, 4, none⟩ (.int .i64 e.size)).setCell ⟨w.heap.size + 1 + 1, 5, none⟩ (.string ⟨e.digest.toArray⟩)).setCell ⟨w.heap.size + 1 + 1, 6, none⟩ (.slice xe e.exts.length xec))) hne3 0 1 2 (.slice sa t.chunks.length sac) (.int .i64 t.ses) (.string ⟨t.stream.toArray⟩) 3).trans c3; have d4 := (far3 (w := (((((((w10.setCell ⟨w.heap.size + 1 + 1, 0, none⟩ (.int .i64 e.kind)).setCell ⟨w.heap.size + 1 + 1, 1, none⟩ (.string ⟨e.path.toArray⟩)).setCell ⟨w.heap.size + 1 + 1, 2, none⟩ (.slice xa e.attrs.length xac)).setCell ⟨w.heap.size + 1 + 1, 3, none⟩ (.string ⟨e.target.toArray⟩)).setCell ⟨w.heap.size + 1 + 1, 4, none⟩ (.int .i64 e.size)).setCell ⟨w.heap.size + 1 + 1, 5, none⟩ (.string ⟨e.digest.toArray⟩)).setCell ⟨w.heap.size + 1 + 1, 6, none⟩ (.slice xe e.exts.length xec))) hne3 0 1 2 (.slice sa t.chunks.length sac) (.int .i64 t.ses) (.string ⟨t.stream.toArray⟩) 4).trans c4; have d5 := (far3 (w := (((((((w10.setCell ⟨w.heap.size + 1 + 1, 0, none⟩ (.int .i64 e.kind)).setCell ⟨w.heap.size + 1 + 1, 1, none⟩ (.string ⟨e.path.toArray⟩)).setCell ⟨w.heap.size + 1 + 1, 2, none⟩ (.slice xa e.attrs.length xac)).setCell ⟨w.heap.size + 1 + 1, 3, none⟩ (.string ⟨e.target.toArray⟩)).setCell ⟨w.heap.size + 1 + 1, 4, none⟩ (.int .i64 e.size)).setCell ⟨w.heap.size + 1 + 1, 5, none⟩ (.string ⟨e.digest.toArray⟩)).setCell ⟨w.heap.size + 1 + 1, 6, none⟩ (.slice xe e.exts.length xec))) hne3 0 1 2 (.slice sa t.chunks.length sac) (.int .i64 t.ses) (.string ⟨t.stream.toArray⟩) 5).trans c5; have d6 := (far3 (w := (((((((w10.setCell ⟨w.heap.size + 1 + 1, 0, none⟩ (.int .i64 e.kind)).setCell ⟨w.heap.size + 1 + 1, 1, none⟩ (.string ⟨e.path.toArray⟩)).setCell ⟨w.heap.size + 1 + 1, 2, none⟩ (.slice xa e.attrs.length xac)).setCell ⟨w.heap.size + 1 + 1, 3, none⟩ (.string ⟨e.target.toArray⟩)).setCell ⟨w.heap.size + 1 + 1, 4, none⟩ (.int .i64 e.size)).setCell ⟨w.heap.size + 1 + 1, 5, none⟩ (.string ⟨e.digest.toArray⟩)).setCell ⟨w.heap.size + 1 + 1, 6, none⟩ (.slice xe e.exts.length xec))) hne3 0 1 2 (.slice sa t.chunks.length sac) (.int .i64 t.ses) (.string ⟨t.stream.toArray⟩) 6).trans c6; have d7 := (far3 (w := (((((((w10.setCell ⟨w.heap.size + 1 + 1, 0, none⟩ (.int .i64 e.kind)).setCell ⟨w.heap.size + 1 + 1, 1, none⟩ (.string ⟨e.path.toArray⟩)).setCell ⟨w.heap.size + 1 + 1, 2, none⟩ (.slice xa e.attrs.length xac)).setCell ⟨w.heap.size + 1 + 1, 3, none⟩ (.string ⟨e.target.toArray⟩)).setCell ⟨w.heap.size + 1 + 1, 4, none⟩ (.int .i64 e.size)).setCell ⟨w.heap.size + 1 + 1, 5, none⟩ (.string ⟨e.digest.toArray⟩)).setCell ⟨w.heap.size + 1 + 1, 6, none⟩ (.slice xe e.exts.length xec))) hne03 0 1 2 (.slice sa t.chunks.length sac) (.int .i64 t.ses) (.string ⟨t.stream.toArray⟩) 0).trans c7; have d8 := (far3 (w := (((((((w10.setCell ⟨w.heap.size + 1 + 1, 0, none⟩ (.int .i64 e.kind)).setCell ⟨w.heap.size + 1 + 1, 1, none⟩ (.string ⟨e.path.toArray⟩)).setCell ⟨w.heap.size + 1 + 1, 2, none⟩ (.slice xa e.attrs.length xac)).setCell ⟨w.heap.size + 1 + 1, 3, none⟩ (.string ⟨e.target.toArray⟩)).setCell ⟨w.heap.size + 1 + 1, 4, none⟩ (.int .i64 e.size)).setCell ⟨w.heap.size + 1 + 1, 5, none⟩ (.string ⟨e.digest.toArray⟩)).setCell ⟨w.heap.size + 1 + 1, 6, none⟩ (.slice xe e.exts.length xec))) hne03 0 1 2 (.slice sa t.chunks.length sac) (.int .i64 t.ses) (.string ⟨t.stream.toArray⟩) 1).trans c8; have d9 := (far3 (w := (((((((w10.setCell ⟨w.heap.size + 1 + 1, 0, none⟩ (.int .i64 e.kind)).setCell ⟨w.heap.size + 1 + 1, 1, none⟩ (.string ⟨e.path.toArray⟩)).setCell ⟨w.heap.size + 1 + 1, 2, none⟩ (.slice xa e.attrs.length xac)).setCell ⟨w.heap.size + 1 + 1, 3, none⟩ (.string ⟨e.target.toArray⟩)).setCell ⟨w.heap.size + 1 + 1, 4, none⟩ (.int .i64 e.size)).setCell ⟨w.heap.size + 1 + 1, 5, none⟩ (.string ⟨e.digest.toArray⟩)).setCell ⟨w.heap.size + 1 + 1, 6, none⟩ (.slice xe e.exts.length xec))) hne03 0 1 2 (.slice sa t.chunks.length sac) (.int .i64 t.ses) (.string ⟨t.stream.toArray⟩) 2).trans c9; obtain ⟨y0, y1, y2, y3, y4, y5, y6, z0, z1, z2, z3, z4, z5, z6⟩ := row7 m3; have u0 := tcell m4 0 (.slice none 0 0) rfl; have u1 := tcell m4 1 (.int .i64 0) rfl; have u2 := tcell m4 2 (.string ⟨#[]⟩) rfl; have f0 := tfree m4 0; have f1 := tfree m4 1; have f2 := tfree m4 2))
      all_goals
        go_wp2_with fail
        have g7 : w10.grownBy (((((((w10.setCell ⟨w.heap.size + 1 + 1, 0, none⟩ (.int .i64 e.kind)).setCell ⟨w.heap.size + 1 + 1, 1, none⟩ (.string ⟨e.path.toArray⟩)).setCell ⟨w.heap.size + 1 + 1, 2, none⟩ (.slice xa e.attrs.length xac)).setCell ⟨w.heap.size + 1 + 1, 3, none⟩ (.string ⟨e.target.toArray⟩)).setCell ⟨w.heap.size + 1 + 1, 4, none⟩ (.int .i64 e.size)).setCell ⟨w.heap.size + 1 + 1, 5, none⟩ (.string ⟨e.digest.toArray⟩)).setCell ⟨w.heap.size + 1 + 1, 6, none⟩ (.slice xe e.exts.length xec)) (some (w.heap.size + 1 + 1)) := set_grown (w := w10) (b := w.heap.size + 1 + 1) [(0, .int .i64 e.kind), (1, .string ⟨e.path.toArray⟩), (2, .slice xa e.attrs.length xac), (3, .string ⟨e.target.toArray⟩), (4, .int .i64 e.size), (5, .string ⟨e.digest.toArray⟩), (6, .slice xe e.exts.length xec)]
        have s7 := (set7 m3 (Nat.le_refl _) (.int .i64 e.kind) (.string ⟨e.path.toArray⟩) (.slice xa e.attrs.length xac) (.string ⟨e.target.toArray⟩) (.int .i64 e.size) (.string ⟨e.digest.toArray⟩) (.slice xe e.exts.length xec)).1
        generalize (((((((w10.setCell ⟨w.heap.size + 1 + 1, 0, none⟩ (.int .i64 e.kind)).setCell ⟨w.heap.size + 1 + 1, 1, none⟩ (.string ⟨e.path.toArray⟩)).setCell ⟨w.heap.size + 1 + 1, 2, none⟩ (.slice xa e.attrs.length xac)).setCell ⟨w.heap.size + 1 + 1, 3, none⟩ (.string ⟨e.target.toArray⟩)).setCell ⟨w.heap.size + 1 + 1, 4, none⟩ (.int .i64 e.size)).setCell ⟨w.heap.size + 1 + 1, 5, none⟩ (.string ⟨e.digest.toArray⟩)).setCell ⟨w.heap.size + 1 + 1, 6, none⟩ (.slice xe e.exts.length xec)) = w11 at *
        have m4' := (g7.block (w.heap.size + 1 + 1 + 1) (Array.getElem?_eq_some_iff.1 m4).1 (fun e => by injection e; omega)).trans m4
        obtain ⟨t1, t2⟩ := set3 m4' (.slice sa t.chunks.length sac) (.int .i64 t.ses) (.string ⟨t.stream.toArray⟩)
        have s7' := (t2.block (w.heap.size + 1 + 1) (Array.getElem?_eq_some_iff.1 s7).1 (fun e => by injection e; omega)).trans s7
        have h9 : Below w9.heap.size w9 w10 := ((Below.refl _ w9).drew).trans hb10
        have h9w := R8.out.trans (h9.mono R8.out.size)
        have h10 := (h9w.grown g7 h9w.size (fun k hk => by injection hk with hk; omega)).grown t2 (Nat.le_trans h9w.size g7.size) (fun k hk => by injection hk with hk; omega)
        have A1 := attrs_apart (attrs_apart (R5.out.below h9) m3 (show ¬ ([1, 1] : List Nat) <:+: [0, 1, 2, 1, 0, 1, 2] from by decide) g7) m4' (show ¬ ([1, 1] : List Nat) <:+: [2, 0, 1] from by decide) t2
        have A2 := exts_apart (exts_apart (R6.out.below h9) m3 (show ¬ ([0, 0, 0] : List Nat) <:+: [0, 1, 2, 1, 0, 1, 2] from by decide) g7) m4' (show ¬ ([0, 0, 0] : List Nat) <:+: [2, 0, 1] from by decide) t2
        have A3 := chunks_apart (chunks_apart (R7.out.below h9) m3 (show ¬ ([1, 0, 0, 0] : List Nat) <:+: [0, 1, 2, 1, 0, 1, 2] from by decide) g7) m4' (show ¬ ([1, 0, 0, 0] : List Nat) <:+: [2, 0, 1] from by decide) t2
        refine bodyPost_ret (v := .tuple #[.agg #[.int .i64 e.kind, .string ⟨e.path.toArray⟩, .slice xa e.attrs.length xac, .string ⟨e.target.toArray⟩, .int .i64 e.size, .string ⟨e.digest.toArray⟩, .slice xe e.exts.length xec], .agg #[.slice sa t.chunks.length sac, .int .i64 t.ses, .string ⟨t.stream.toArray⟩], .int .i64 (entErr e)]) ?_ ?_ ?_
        · refine results_row2_tmp (p := 4) (u := 5) (v := 6) (ty := 43) (ty' := 66) (by kernel_rfl) _ _ (w.heap.size + 1 + 1) (w.heap.size + 1 + 1 + 1) 43 66 _ _ (0, 0) (0, 0) _ _ ?_ ?_ s7' t1 Tryz.underlying43 Tryz.underlying66 (by kernel_rfl) (by kernel_rfl) (by kernel_rfl) (by kernel_rfl)
          · kernel_rfl
          · kernel_rfl
        · kernel_rfl
        · rw [HEE.out, HTT.out]; exact ⟨_, _, rfl, ⟨xa, xac, xe, xec, rfl, A1, A2⟩, ⟨sa, sac, rfl, A3⟩, by first | exact h10 | exact h10.drew | exact h10.drew.drew⟩
end Go.Proofs.YtbhmdcdhklgomaaGreatDoor
