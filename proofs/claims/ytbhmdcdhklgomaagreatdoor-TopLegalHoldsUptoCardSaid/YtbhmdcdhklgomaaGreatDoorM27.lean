/-
  session.previous; slices.Clone of sessions.
-/
import Derived.Test.YtbhmdcdhklgomaaGreatDoorM26
namespace Go.Proofs.YtbhmdcdhklgomaaGreatDoor
open Go.RowKit Top

set_option maxHeartbeats 2000000 in
set_option maxRecDepth 100000 in
theorem previous_any (v : Value) (l : List Ses) (w : World) (hv : ArcV w v l) (hg : Ground w) (hok : ∀ s ∈ l, SesOk s) :
    Calls Tryz.prog 56 #[v] w fun e w' => e = .returned (.string ⟨(prevB l).toArray⟩) ∧ Below w.heap.size w w' := by
  obtain ⟨id, da, sp, sa, sc, rfl, hs⟩ := hv
  obtain ⟨W, hW, hbW, hzW, hblk, d0, d1, d2, d3⟩ := arcbox w id da sp (.slice sa l.length sc)
  have HS := Lib.hid (hs.below hbW)
  have HG := Lib.hid (hg.below hbW)
  have hl2 : l.length ≤ 9223372036854775807 := by
    obtain ⟨_, _, e, h1, h2⟩ := hs.form
    omega
  clear hs hblk hg hzW
  go_enter Tryz.func56, Tryz.ntmps56
  go_upto_region 1 with (fail)
  try rw [hW]
  clear hW
  rcases list_end l with rfl | ⟨r, y, rfl⟩
  · go_wp2_with fail
    go_ret
    exact ⟨rfl, hbW⟩
  · have hln : (r ++ [y]).length = r.length + 1 := by simp
    have HLD := Lib.hid (prevB_snoc r y)
    have hoy := hok y (by simp)
    rw [hln] at HS d3 hl2 ⊢
    obtain ⟨bk, o, ea, ec, hoo, hen, c0, c1, c2, c3, c4, c5⟩ := (HS.out).get (j := r.length) (x := y) (by simp)
    subst hoo
    have HD := Lib.hid (digest_any (.agg #[.int .i64 y.num, .int .i64 y.date, .string ⟨y.prev.toArray⟩, .slice ea y.entries.length ec, .string ⟨y.stream.toArray⟩, .string ⟨y.sign.toArray⟩]) y W ⟨ea, ec, rfl, hen⟩ HG.out hoy)
    clear hln hoy hen hok
    go_wp2_with fail
    refine HD.out.mono ?_
    rintro e w2 ⟨rfl, hb2⟩
    go_wp2_with fail
    go_ret
    rw [HLD.out]
    exact ⟨rfl, hbW.trans (hb2.mono hbW.size)⟩

theorem info_ses : (Tryz.prog.info? 39).map (fun i => (i.zero, i.size, i.bytes)) = some (some (.agg #[.int .i64 0, .int .i64 0, .string ByteArray.empty, .slice none 0 0, .string ByteArray.empty, .string ByteArray.empty]), 6, 88) := by kernel_rfl
theorem eql_nil_ses (w : World) (a : Option Addr) (n c n' c' : Nat) : (binOp .eql 28 (.slice a n c) (.slice none n' c')).run Tryz.prog w = .ok (.bool a.isNone) w := Lib.run_eql_slice_nil w _ _ a n c n' c' Tryz.underlying28
set_option maxHeartbeats 2000000 in
set_option maxRecDepth 100000 in
theorem clone_ses (ao : Option Addr) (n c : Nat) (vss : List (List Value)) (w : World) (hr : Raw w ao 6 vss) (hn : n = vss.length) (h1 : ∀ vs ∈ vss, ∀ u ∈ vs, u.oneCell' = true) (hlen : n ≤ 65536) :
    Calls Tryz.prog 63 #[.slice ao n c] w fun e w' => ∃ v, e = .returned v ∧ w'.ownsRow w.heap.size 39 6 v n vss.flatten ∧ Below w.heap.size w w' := by
  have qT := eql_nil_ses
  rcases ao with _ | ad
  · obtain rfl : vss = [] := by
      cases vss with
      | nil => rfl
      | cons y r =>
        obtain ⟨_, bk, o, e, _⟩ := hr 0 y rfl
        cases e
    obtain rfl : n = 0 := hn
    clear hr h1
    go_enter Tryz.func63, Tryz.ntmps63
    go_wp2_with fail
    go_ret
    exact ⟨_, rfl, World.ownsRow_nil _ _ _ _, Below.refl _ _⟩
  · have hbA := (Below.refl w.heap.size w).alloc (Nat.le_refl _) (.cells #[] 39)
    have HR := Lib.hid (hr.below hbA)
    have HM := Lib.hid (World.ownsRow_made (base := w.heap.size) (e := 39) (size := 6) w #[] 0 (Nat.le_refl _) (by simp [maxLen]) rfl)
    have HN := Lib.hid hn
    have HBA := Lib.hid hbA
    have hsz : w.heap.size ≤ (w.alloc (.cells #[] 39)).heap.size := by simp
    clear hr hbA hn
    go_enter Tryz.func63, Tryz.ntmps63
    go_wp2_with (at_builtin; refine wpList_appRaw 39 28 6 88 _ info_ses Tryz.underlying28 rfl (by decide) (by decide) rfl (.tmp 5) (.tmp 6) rfl w.heap.size _ 0 [] rfl HM.out _ _ _ vss rfl HR.out HN.out h1 (by omega) hsz ?_; intro v' w' ho hb _)
    go_ret
    rw [Nat.zero_add, List.nil_append] at ho
    exact ⟨_, rfl, ho, HBA.out.trans hb⟩
/-- A row of sessions of the call's own. -/
def OwnSess (R w : World) (B : Nat) (v : Value) (l : List Ses) : Prop := ∃ vss, w.ownsRow B 39 6 v l.length vss.flatten ∧ All2 (SesC R) vss l
end Go.Proofs.YtbhmdcdhklgomaaGreatDoor

/-
  session.forbidden.
-/
namespace Go.Proofs.YtbhmdcdhklgomaaGreatDoor
open Go.RowKit Top

/-- A box of nine cells. -/
theorem box9 (w : World) (v0 v1 v2 v3 v4 v5 v6 v7 v8 : Value) (E : TypeId) : ∃ W, w.alloc (.cells #[v0, v1, v2, v3, v4, v5, v6, v7, v8] E) = W ∧ Below w.heap.size w W ∧ w.heap.size < W.heap.size ∧ W.heap[w.heap.size]? = some (.cells #[v0, v1, v2, v3, v4, v5, v6, v7, v8] E (0, 0)) := by
  have h := heap_alloc_new w (.cells #[v0, v1, v2, v3, v4, v5, v6, v7, v8] E)
  exact ⟨_, rfl, (Below.refl _ w).alloc (Nat.le_refl _) _, by simp, h⟩

set_option maxHeartbeats 2000000 in
set_option maxRecDepth 100000 in
theorem forbidden_any (v ev : Value) (d : Draft) (e : Ent) (w : World) (hd : DraV w v d) (hev : EntV w ev e) (hn : d.holds.length ≤ 16777216) (hf : FitH d.holds) (hP : e.path.length ≤ 16777216) :
    Calls Tryz.prog 60 #[v, ev] w fun en w' => en = .returned (.int .i64 (forbid d e)) ∧ Below w.heap.size w w' := by
  obtain ⟨da, dc, ca, cc, ta, tc, ha, hc, rfl, h2, h3, h4, h5⟩ := hd
  have KG := Lib.hid (fun X (hX : Below w.heap.size w X) => get_any _ d.tree e.path X (h4.below hX))
  have KL := Lib.hid (fun X (hX : Below w.heap.size w X) => allowH_any _ ev d.holds e d.date X (h5.below hX) hn hf (hev.below hX) hP)
  obtain ⟨aa, ac, ea, ec, rfl, _, _⟩ := hev
  obtain ⟨W, hW, hbW, hzW, qD⟩ := box9 w (.int .i64 d.num) (.int .i64 d.date) (.string ⟨d.prev.toArray⟩) (.slice da d.entries.length dc) (.slice ca d.store.chunks.length cc) (.int .i64 d.store.ses) (.string ⟨d.store.stream.toArray⟩) (.slice ta d.tree.length tc) (.slice ha d.holds.length hc) 68
  obtain ⟨V, hV, hbV, _, e0, e1, e2, e3, e4, e5, e6⟩ := ebox W e (.slice aa e.attrs.length ac) (.slice ea e.exts.length ec)
  have hbWV := hbW.trans (hbV.mono hbW.size)
  have hqD := (hbV.block w.heap.size hzW).trans qD
  have d1 := tcell hqD 1 (.int .i64 d.date) rfl
  have d7 := tcell hqD 7 (.slice ta d.tree.length tc) rfl
  have d8 := tcell hqD 8 (.slice ha d.holds.length hc) rfl
  have KG := Lib.hid (KG.out V hbWV)
  have hlV : w.heap.size < V.heap.size := Nat.lt_of_lt_of_le hzW hbV.size
  have hlE : W.heap.size < V.heap.size := World.block_lt_of_cell? _ _ e0
  have HF : Hid (forbid d e = if (Top.get d.tree e.path).isSome = false ∧ 1 ≤ e.kind ∧ e.kind ≤ 3 then 0 else allowed d.holds e d.date) := Lib.hid rfl
  generalize forbid d e = res at *
  generalize (Top.get d.tree e.path).isSome = hs at *
  generalize allowed d.holds e d.date = al at *
  clear h2 h3 h4 h5 hqD qD hn hf
  go_enter Tryz.func60, Tryz.ntmps60
  go_upto_region 1 with (fail)
  try rw [hW]
  try rw [hV]
  clear hW hV
  go_wp2_with fail
  refine KG.out.mono ?_
  rintro en w1 ⟨yv, rfl, hyv, hb1⟩
  obtain ⟨ya, yac, ye, yec, rfl, _, _⟩ := hyv
  obtain ⟨U, hU, hbU, _, _⟩ := ebox w1 (getE d.tree e.path) (.slice ya (getE d.tree e.path).attrs.length yac) (.slice ye (getE d.tree e.path).exts.length yec)
  have hb1U : Below V.heap.size V U := hb1.trans (hbU.mono hb1.size)
  have hbU2 := hbWV.trans (hb1U.mono hbWV.size)
  have d1 := (hb1U.cell (p := ⟨w.heap.size, 1, none⟩) hlV).trans d1
  have d8 := (hb1U.cell (p := ⟨w.heap.size, 8, none⟩) hlV).trans d8
  have e0 := (hb1U.cell (p := ⟨W.heap.size, 0, none⟩) hlE).trans e0
  have e1 := (hb1U.cell (p := ⟨W.heap.size, 1, none⟩) hlE).trans e1
  have e2 := (hb1U.cell (p := ⟨W.heap.size, 2, none⟩) hlE).trans e2
  have e3 := (hb1U.cell (p := ⟨W.heap.size, 3, none⟩) hlE).trans e3
  have e4 := (hb1U.cell (p := ⟨W.heap.size, 4, none⟩) hlE).trans e4
  have e5 := (hb1U.cell (p := ⟨W.heap.size, 5, none⟩) hlE).trans e5
  have e6 := (hb1U.cell (p := ⟨W.heap.size, 6, none⟩) hlE).trans e6
  have KL := Lib.hid (KL.out U hbU2)
  have HU := Lib.hid hU
  clear hU
  go_upto_region 2 with (fail)
  try rw [HU.out]
  have hfin := fun (w2 : World) (h : Below U.heap.size U w2) => hbU2.trans (h.mono hbU2.size)
  cases hs
  · by_cases k1 : 1 ≤ e.kind
    · by_cases k3 : e.kind ≤ 3
      · have HR : Hid (res = 0) := by
          show _ = _
          rw [HF.out, if_pos ⟨rfl, k1, k3⟩]
        go_wp2_with fail
        go_ret
        exact ⟨(by rw [HR.out]; try rfl), hbU2⟩
      · have HR : Hid (res = al) := by
          show _ = _
          rw [HF.out, if_neg (fun h => k3 h.2.2)]
        go_wp2_with fail
        refine KL.out.mono ?_
        rintro en w2 ⟨rfl, hb2⟩
        go_wp2_with fail
        go_ret
        exact ⟨(by rw [HR.out]; try rfl), hfin _ hb2⟩
    · have HR : Hid (res = al) := by
        show _ = _
        rw [HF.out, if_neg (fun h => k1 h.2.1)]
      go_wp2_with fail
      refine KL.out.mono ?_
      rintro en w2 ⟨rfl, hb2⟩
      go_wp2_with fail
      go_ret
      exact ⟨(by rw [HR.out]; try rfl), hfin _ hb2⟩
  · have HR : Hid (res = al) := by
      show _ = _
      rw [HF.out, if_neg (by simp)]
    go_wp2_with fail
    refine KL.out.mono ?_
    rintro en w2 ⟨rfl, hb2⟩
    go_wp2_with fail
    go_ret
    exact ⟨(by rw [HR.out]; try rfl), hfin _ hb2⟩
end Go.Proofs.YtbhmdcdhklgomaaGreatDoor

/-
  chunkstore.Put: the steps of its rounds, on the world. No walk.
-/
namespace Go.Proofs.YtbhmdcdhklgomaaGreatDoor
open Go.RowKit Go.Shelf Top

/-- The state of Put's loops. -/
def PutI (w0 : World) (b kb cb N : Nat) (ses : Int) (s : PutS) (wr : World) : Prop :=
  ∃ na nc ov n, wr.heap[b]? = some (.cells #[.slice na s.chunks.length nc, .int .i64 ses, .string ⟨s.stream.toArray⟩] 66 (0, 0)) ∧ OwnK wr w0.heap.size (.slice na s.chunks.length nc) s.chunks ∧ MapK wr kb n s.known ∧
    Boxed wr cb 41 ov ∧ OwnX wr w0.heap.size ov s.out ∧ Below w0.heap.size w0 wr ∧ n ≤ N ∧ PutOk N s
theorem PutI.mono {w0 wr : World} {b kb cb N M : Nat} {ses : Int} {s : PutS} (h : PutI w0 b kb cb N ses s wr) (hM : N ≤ M) : PutI w0 b kb cb M ses s wr := by
  obtain ⟨na, nc, ov, n, h1, h2, h3, h4, h5, h6, h7, h8⟩ := h
  exact ⟨na, nc, ov, n, h1, h2, h3, h4, h5, h6, Nat.le_trans h7 hM, h8.mono hM⟩
/-- A row of other cells, behind a round. -/
abbrev putTs : List TypeId := [66, 160, 41, 93]
theorem coll_step {w0 V w' : World} {b kb cb N n n2 : Nat} {ses : Int} {kn : Known} {ch : List Chunk} {st : Bs} {out : List Ext} {x : Ext} {na : Option Addr} {nc : Nat} {ov v' : Value}
    (hn2 : n2 = ch.length) (h1 : V.heap[b]? = some (.cells #[.slice na n2 nc, .int .i64 ses, .string ⟨st.toArray⟩] 66 (0, 0))) (h2 : OwnK V w0.heap.size (.slice na n2 nc) ch) (h3 : MapK V kb n kn)
    (h4 : Boxed V cb 41 ov) (h5 : OwnX V w0.heap.size ov out) (h6 : Below w0.heap.size w0 V) (hn : n ≤ N) (hok : PutOk N ⟨kn, ch, st, Top.add out x⟩)
    (g1 : Boxed w' cb 41 v') (g2 : OwnX w' w0.heap.size v' (Top.add out x)) (g3 : CollP V w' cb ov) (g4 : Below w0.heap.size V w') :
    PutI w0 b kb cb N ses ⟨kn, ch, st, Top.add out x⟩ w' ∧ KeepC putTs V w' := by
  subst hn2
  have hs := g3.same h4 h5
  refine ⟨⟨na, nc, v', n, hs.keep.2 _ _ _ _ h1 (by decide), OwnF.keepC h2 hs.keep (by decide), h3.sameT hs, g1, g2, h6.trans g4, hn, hok⟩, hs.keep.mono ?_⟩
  intro T hT
  simp only [List.mem_cons, List.not_mem_nil, or_false] at hT ⊢
  rcases hT with rfl | rfl <;> simp
theorem put_map {w0 V w1 : World} {b kb cb n : Nat} {ses : Int} {kn : Known} {ch : List Chunk} {st : Bs} {out : List Ext} {na : Option Addr} {nc : Nat} {ov : Value}
    (h1 : V.heap[b]? = some (.cells #[.slice na ch.length nc, .int .i64 ses, .string ⟨st.toArray⟩] 66 (0, 0))) (h2 : OwnK V w0.heap.size (.slice na ch.length nc) ch) (h3 : MapK V kb n kn)
    (h4 : Boxed V cb 41 ov) (h5 : OwnX V w0.heap.size ov out) (h6 : Below w0.heap.size w0 V) (hkb : w0.heap.size ≤ kb) (g2 : V.grownBy w1 (some kb)) :
    w1.heap[b]? = some (.cells #[.slice na ch.length nc, .int .i64 ses, .string ⟨st.toArray⟩] 66 (0, 0)) ∧ OwnK w1 w0.heap.size (.slice na ch.length nc) ch ∧
    Boxed w1 cb 41 ov ∧ OwnX w1 w0.heap.size ov out ∧ Below w0.heap.size w0 w1 ∧ KeepC [] V w1 := by
  have hk : KeepC [] V w1 := KeepC.of_map g2 h3.noCells
  exact ⟨hk.2 _ _ _ _ h1 (by simp), OwnF.keepC h2 hk (by simp), Boxed.keepC h4 hk (by simp), OwnF.keepC h5 hk (by simp), h6.grown g2 h6.size (fun k e => by injection e with e; omega), hk⟩
theorem put_row {w0 V w1 w2 : World} {b kb cb n : Nat} {ses : Int} {kn : Known} {ch ch2 : List Chunk} {st st2 : Bs} {out : List Ext} {na na2 : Option Addr} {nc nc2 n2 : Nat} {ov : Value}
    (h1 : w1.heap[b]? = some (.cells #[.slice na ch.length nc, .int .i64 ses, .string ⟨st.toArray⟩] 66 (0, 0))) (h2 : OwnK w1 w0.heap.size (.slice na ch.length nc) ch) (h3 : MapK w1 kb n kn)
    (h4 : Boxed w1 cb 41 ov) (h5 : OwnX w1 w0.heap.size ov out) (h6 : Below w0.heap.size w0 w1) (h7 : KeepC [] V w1) (hb : w0.heap.size ≤ b)
    (g1 : OwnK w2 w0.heap.size (.slice na2 n2 nc2) ch2) (g2 : w1.grownBy w2 (Value.slice na ch.length nc).ownBlock) :
    w2.heap[b]? = some (.cells #[.slice na ch.length nc, .int .i64 ses, .string ⟨st.toArray⟩] 66 (0, 0)) ∧
    (w2.setCell ⟨b, 0, none⟩ (.slice na2 n2 nc2)).heap[b]? = some (.cells #[.slice na2 n2 nc2, .int .i64 ses, .string ⟨st.toArray⟩] 66 (0, 0)) ∧
    ((w2.setCell ⟨b, 0, none⟩ (.slice na2 n2 nc2)).setCell ⟨b, 2, none⟩ (.string ⟨st2.toArray⟩)).heap[b]? = some (.cells #[.slice na2 n2 nc2, .int .i64 ses, .string ⟨st2.toArray⟩] 66 (0, 0)) ∧
    OwnK ((w2.setCell ⟨b, 0, none⟩ (.slice na2 n2 nc2)).setCell ⟨b, 2, none⟩ (.string ⟨st2.toArray⟩)) w0.heap.size (.slice na2 n2 nc2) ch2 ∧
    MapK ((w2.setCell ⟨b, 0, none⟩ (.slice na2 n2 nc2)).setCell ⟨b, 2, none⟩ (.string ⟨st2.toArray⟩)) kb n kn ∧
    Boxed ((w2.setCell ⟨b, 0, none⟩ (.slice na2 n2 nc2)).setCell ⟨b, 2, none⟩ (.string ⟨st2.toArray⟩)) cb 41 ov ∧
    OwnX ((w2.setCell ⟨b, 0, none⟩ (.slice na2 n2 nc2)).setCell ⟨b, 2, none⟩ (.string ⟨st2.toArray⟩)) w0.heap.size ov out ∧
    Below w0.heap.size w0 ((w2.setCell ⟨b, 0, none⟩ (.slice na2 n2 nc2)).setCell ⟨b, 2, none⟩ (.string ⟨st2.toArray⟩)) ∧
    KeepC [66, 160] V ((w2.setCell ⟨b, 0, none⟩ (.slice na2 n2 nc2)).setCell ⟨b, 2, none⟩ (.string ⟨st2.toArray⟩)) := by
  have hs : SameT [66, 160] w1 w2 := SameT.of_row h2 g2 (by simp)
  have b2 : w2.heap[b]? = some (.cells #[.slice na ch.length nc, .int .i64 ses, .string ⟨st.toArray⟩] 66 (0, 0)) := (SameT.of_row (Ts := [160]) h2 g2 (by simp)).keep.2 _ _ _ _ h1 (by decide)
  have b3 : (w2.setCell ⟨b, 0, none⟩ (.slice na2 n2 nc2)).heap[b]? = some (.cells #[.slice na2 n2 nc2, .int .i64 ses, .string ⟨st.toArray⟩] 66 (0, 0)) := by
    rw [tset b2]
    simp
  have b4 : ((w2.setCell ⟨b, 0, none⟩ (.slice na2 n2 nc2)).setCell ⟨b, 2, none⟩ (.string ⟨st2.toArray⟩)).heap[b]? = some (.cells #[.slice na2 n2 nc2, .int .i64 ses, .string ⟨st2.toArray⟩] 66 (0, 0)) := by
    rw [tset b3]
    simp
  have hg : w2.grownBy ((w2.setCell ⟨b, 0, none⟩ (.slice na2 n2 nc2)).setCell ⟨b, 2, none⟩ (.string ⟨st2.toArray⟩)) (some b) := ⟨rfl, rfl, rfl, by simp, fun k _ hk => by
    have hk : k ≠ b := fun e => hk (by rw [e])
    exact (heap_setCell_other _ ⟨b, 2, none⟩ k _ hk).trans (heap_setCell_other _ ⟨b, 0, none⟩ k _ hk)⟩
  generalize (w2.setCell ⟨b, 0, none⟩ (.slice na2 n2 nc2)).setCell ⟨b, 2, none⟩ (.string ⟨st2.toArray⟩) = w3 at *
  have hs3 : SameT [66] w2 w3 := SameT.of_grown hg b2 (by simp)
  have hs4 : SameT [66, 160] w2 w3 := SameT.of_grown hg b2 (by simp)
  have hk : KeepC [66, 160] w1 w3 := hs.keep.trans hs4.keep
  refine ⟨b2, b3, b4, OwnF.keepC g1 hs3.keep (by decide), (h3.sameT hs).sameT hs4, Boxed.keepC h4 hk (by decide), OwnF.keepC h5 hk (by decide), ?_, (h7.mono (fun T hT => by cases hT)).trans hk⟩
  refine (h6.grown g2 h6.size (fun k e => ?_)).grown hg (Nat.le_trans h6.size g2.size) (fun k e => by injection e with e; omega)
  exact (h2.lt k e).1
theorem PutI.at {w0 wr V : World} {b kb cb N : Nat} {ses : Int} {s : PutS} (h : PutI w0 b kb cb N ses s wr) (hb : Below wr.heap.size wr V) : PutI w0 b kb cb N ses s V := by
  obtain ⟨na, nc, ov, n, h1, h2, h3, h4, h5, h6, h7, h8⟩ := h
  have hk : SameT [] wr V := SameT.of_below hb
  exact ⟨na, nc, ov, n, hk.keep.2 _ _ _ _ h1 (by simp), OwnF.keepC h2 hk.keep (by simp), h3.sameT hk, Boxed.keepC h4 hk.keep (by simp), OwnF.keepC h5 hk.keep (by simp), h6.trans (hb.mono h6.size), h7, h8⟩
/-- Three results, the first a struct in a variable of its own. -/
theorem results_row_tmp2 {P : Program} {fn : Func} {p u v : Tmp} {ty : TypeId} (h : fn.results = #[.cell p ty, .tmp u, .tmp v]) (tmps : Array Value) (w : World) (g : Nat) (t : TypeId) (cs : Array Value) (fr : Nat × Nat) (d : TypeDesc)
    (hp : tmps.getD p undef = .pointer (some ⟨g, 0, none⟩)) (hg : w.heap[g]? = some (.cells cs t fr)) (hu : P.underlying ty = some d) (hd : (match d with | .struct _ | .array _ _ => true | _ => false) = true) (hi : (P.info? ty).map (·.size) = some cs.size) :
    (results fn tmps).run P w = .ok (.tuple #[.agg cs, tmps.getD u undef, tmps.getD v undef]) w := by
  have e : (results fn tmps).run P w = ((asAddr (tmps.getD p undef)).run P w).andThen fun a w₁ => ((loadVar ty a).run P w₁).andThen fun x w₂ => .ok (.tuple #[x, tmps.getD u undef, tmps.getD v undef]) w₂ := by
    simp only [results, h]
    simp [Sem.run_bind, Result.andThen]
  rw [e, hp]
  simp [asAddr, run_loadVar_row w g t ty cs fr d hg hu hd hi, Result.andThen]
/-- A box with a segment. -/
theorem sbox (w : World) (g : Seg) : ∃ W, w.alloc (.cells #[.int .i64 g.len, .string ⟨g.data.toArray⟩] 199) = W ∧ Below w.heap.size w W ∧ W.heap.size = w.heap.size + 1 ∧
    W.cell? ⟨w.heap.size, 0, none⟩ = some (.int .i64 g.len) ∧ W.cell? ⟨w.heap.size, 1, none⟩ = some (.string ⟨g.data.toArray⟩) := by
  have e := heap_alloc_new w (.cells #[.int .i64 g.len, .string ⟨g.data.toArray⟩] 199)
  exact ⟨_, rfl, (Below.refl _ w).alloc (Nat.le_refl _) _, by simp, tcell e 0 _ rfl, tcell e 1 _ rfl⟩
theorem take_fold {α β : Type} (f : β → α → β) {l : List α} {k : Nat} {x : α} (s : β) (h : l[k]? = some x) : (l.take (k + 1)).foldl f s = f ((l.take k).foldl f s) x := by
  rw [List.take_add_one, h, Option.toList_some, List.foldl_append]
  rfl
theorem take_sum {l : List Nat} {k x : Nat} (h : l[k]? = some x) : (l.take (k + 1)).sum = (l.take k).sum + x := by
  rw [List.take_add_one, h, Option.toList_some, List.sum_append]
  simp
theorem take_le (l : List Nat) (k : Nat) : (l.take k).sum ≤ l.sum := by
  conv => rhs; rw [← List.take_append_drop k l]
  rw [List.sum_append]
  omega
end Go.Proofs.YtbhmdcdhklgomaaGreatDoor
