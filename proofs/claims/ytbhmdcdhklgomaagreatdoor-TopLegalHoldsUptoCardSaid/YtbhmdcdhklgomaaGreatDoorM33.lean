/-
  history.entries' iterator.
-/
import Derived.Test.YtbhmdcdhklgomaaGreatDoorM32
namespace Go.Proofs.YtbhmdcdhklgomaaGreatDoor
open Go.RowKit Go.Shelf Top

set_option maxHeartbeats 4000000 in
set_option maxRecDepth 100000 in
theorem entries_box (n : Nat) (hn : 1 ≤ n) (b B : Nat) (l : List Ses) (f : Hdr) (sa : Option Addr) (sc : Nat) (R w : World) (hR : Below R.heap.size R w) (hRb : R.heap.size ≤ b) (hbw : b < w.heap.size) (hc : w.cell? ⟨B, 0, none⟩ = some (.slice sa l.length sc))
    (hS : ∀ k s, l[k]? = some s → SesAt R sa f k s) (hE : ∀ k s m e, l[k]? = some s → s.entries[m]? = some e → EntAt R f k m e) (hl : l.length ≤ 1000000) (hle : ∀ s ∈ l, s.entries.length ≤ 1000000) :
    SeqNB Fence.wide n Tryz.prog 87 #[.pointer (some ⟨B, 0, none⟩)] (encW f) (KeptC b) (listE 0 l) w := fun lp J W hW hJ hY h0 => by
  have hc0 := (hW.cell (p := ⟨B, 0, none⟩) (World.block_lt_of_cell? _ _ hc)).trans hc
  have HC : Hid (∀ wr, KeptC b W wr → ∀ p u, R.cell? p = some u → wr.cell? p = some u) := Lib.hid (fun wr hk p u hp => by
    have hlt := World.block_lt_of_cell? _ _ hp
    exact hk.cell ((hW.cell (Nat.lt_of_lt_of_le hlt hR.size)).trans ((hR.cell hlt).trans hp)) (by omega))
  have hWs : b < W.heap.size := Nat.lt_of_lt_of_le hbw hW.size
  have HY := Lib.hid hY
  have HJ := Lib.hid hJ
  have HS := Lib.hid hS
  have HE := Lib.hid hE
  have HLE := Lib.hid hle
  have H0 : Hid (listE 0 l = [] ++ listE 0 (l.drop 0)) := rfl
  clear hY hc hW hJ hS hE hle
  refine callsIn_of_wp Tryz.func87 rfl trivial ?_ rfl
  simp only [Tryz.ntmps87, List.size_toArray, List.length_cons, List.length_nil, Nat.reduceAdd, Nat.reduceSub, Array.replicate_succ, Array.replicate_zero, List.push_toArray, List.append_toArray, List.nil_append, List.cons_append]
  gi_wp2
  gi_loopw [9] (fun i wr => ∃ (k : Nat) (pre : List IT), k ≤ l.length ∧ i = .int .i64 k ∧ Hid (listE 0 l = pre ++ listE k (l.drop k)) ∧ J pre wr ∧ KeptC b W wr) (fun i _ => l.length - (intOf i).toNat)
  case atStart => exact ⟨0, [], Nat.zero_le _, rfl, H0, h0, KeptC.refl _ _⟩
  case round =>
    obtain ⟨k, pre, hk, rfl, hls, hJr, hkb⟩ := hrel
    by_cases hlt : k < l.length
    · obtain ⟨s, hs⟩ : ∃ s, l[k]? = some s := ⟨_, List.getElem?_eq_getElem hlt⟩
      have hl2 := hls.out
      rw [drop_at hs, listE] at hl2
      obtain ⟨bk, o, hoo, _, c0, c1, c2, c3, c4, c5⟩ := HS.out k s hs
      subst hoo
      have cc := HC.out wr hkb
      have c0 := cc _ _ c0
      have c1 := cc _ _ c1
      have c2 := cc _ _ c2
      have c3 := cc _ _ c3
      have c4 := cc _ _ c4
      have c5 := cc _ _ c5
      have hsl := HLE.out s (List.mem_of_getElem? hs)
      obtain ⟨V, hV, hbV, hzV, hblk, b0, b1, b2, b3, b4, b5⟩ := box6 wr (.int .i64 s.num) (.int .i64 s.date) (.string ⟨s.prev.toArray⟩) (.slice (f.ea k).1 s.entries.length (f.ea k).2) (.string ⟨s.stream.toArray⟩) (.string ⟨s.sign.toArray⟩) 39
      have hJV : J pre V := by
        rw [← hV]
        exact HJ.out _ _ _ _ hJr (World.grownBy_alloc wr _ none) (fun r e => by cases e)
      have hkV : KeptC b W V := hkb.trans (KeptC.of_below hbV)
      have hl3 : listE 0 l = pre ++ (entsE k s 0 (s.entries.drop 0) ++ listE (k + 1) (l.drop (k + 1))) := hl2
      have HL3 := Lib.hid hl3
      have HSK := Lib.hid hs
      have hVB : wr.heap.size < V.heap.size := by omega
      clear hl2 hl3 hs hzV cc
      have HBK : Hid (V.heap[wr.heap.size]? = some (.cells #[.int .i64 s.num, .int .i64 s.date, .string ⟨s.prev.toArray⟩, .slice (f.ea k).1 s.entries.length (f.ea k).2, .string ⟨s.stream.toArray⟩, .string ⟨s.sign.toArray⟩] 39 (0, 0))) := Lib.hid hblk
      have hne : wr.heap.size ≠ b := by have := hkb.1; omega
      clear hblk
      gi_wp2
      generalize wr.heap.size = SB at *
      generalize hfa : (f.ea k).1 = fa at *
      have HFA := Lib.hid hfa
      clear hfa
      gi_loopw [16] (fun i wx => ∃ (m : Nat) (pre2 : List IT), m ≤ s.entries.length ∧ i = .int .i64 m ∧ Hid (listE 0 l = pre2 ++ (entsE k s m (s.entries.drop m) ++ listE (k + 1) (l.drop (k + 1)))) ∧ J pre2 wx ∧ KeptC b W wx ∧ Hid (wx.heap[SB]? = some (.cells #[.int .i64 s.num, .int .i64 s.date, .string ⟨s.prev.toArray⟩, .slice fa s.entries.length (f.ea k).2, .string ⟨s.stream.toArray⟩, .string ⟨s.sign.toArray⟩] 39 (0, 0)))) (fun i _ => s.entries.length - (intOf i).toNat)
      case atStart => exact ⟨0, pre, Nat.zero_le _, rfl, HL3, hJV, hkV, HBK⟩
      case round =>
        obtain ⟨m, pre2, hm, rfl, hl4, hJm, hkm, hbm⟩ := hrel
        by_cases hml : m < s.entries.length
        · obtain ⟨e, he⟩ : ∃ e, s.entries[m]? = some e := ⟨_, List.getElem?_eq_getElem hml⟩
          have hl5 := hl4.out
          rw [drop_at he, entsE, List.cons_append] at hl5
          obtain ⟨ek, eo, heo, _, _, g0, g1, g2, g3, g4, g5, g6⟩ := HE.out k s m e HSK.out he
          rw [HFA.out] at heo
          subst heo
          have cc := HC.out _ hkm
          have g0 := cc _ _ g0
          have g1 := cc _ _ g1
          have g2 := cc _ _ g2
          have g3 := cc _ _ g3
          have g4 := cc _ _ g4
          have g5 := cc _ _ g5
          have g6 := cc _ _ g6
          have hel := HLE.out s (List.mem_of_getElem? HSK.out)
          obtain ⟨U, hU, hbU, hzU, e0, e1, e2, e3, e4, e5, e6⟩ := ebox wr e (.slice (f.en (k, m)).1.1 e.attrs.length (f.en (k, m)).1.2) (.slice (f.en (k, m)).2.1 e.exts.length (f.en (k, m)).2.2)
          have hJU : J pre2 U := by
            rw [← hU]
            exact HJ.out _ _ _ _ hJm (World.grownBy_alloc wr _ none) (fun r e => by cases e)
          have hkU : KeptC b W U := hkm.trans (KeptC.of_below hbU)
          have hbmU := (hbU.block _ (Array.getElem?_eq_some_iff.1 hbm.out).1).trans hbm.out
          have b0 := tcell hbmU 0 (.int .i64 s.num) rfl
          have b1 := tcell hbmU 1 (.int .i64 s.date) rfl
          have b2 := tcell hbmU 2 (.string ⟨s.prev.toArray⟩) rfl
          have b3 := tcell hbmU 3 (.slice (some ⟨ek, eo, none⟩) s.entries.length (f.ea k).2) rfl
          have b4 := tcell hbmU 4 (.string ⟨s.stream.toArray⟩) rfl
          have b5 := tcell hbmU 5 (.string ⟨s.sign.toArray⟩) rfl
          have HBU := Lib.hid hbmU
          obtain ⟨fn, tmps, assign, body, hy, hR⟩ := HY.out pre2 (k, m, s, e) _ U hl5 hJU
          have hew : encW f (k, m, s, e) = #[.agg #[.int .i64 s.num, .int .i64 s.date, .string ⟨s.prev.toArray⟩, .slice (f.ea k).1 s.entries.length (f.ea k).2, .string ⟨s.stream.toArray⟩, .string ⟨s.sign.toArray⟩], entW f k m e] := rfl
          rw [hew, HFA.out] at hy
          clear hew
          replace hy : (Instr.yield lp #[.agg #[.int .i64 s.num, .int .i64 s.date, .string ⟨s.prev.toArray⟩, .slice (some ⟨ek, eo, none⟩) s.entries.length (f.ea k).2, .string ⟨s.stream.toArray⟩, .string ⟨s.sign.toArray⟩], .agg #[.int .i64 e.kind, .string ⟨e.path.toArray⟩, .slice (f.en (k, m)).1.1 e.attrs.length (f.en (k, m)).1.2, .string ⟨e.target.toArray⟩, .int .i64 e.size, .string ⟨e.digest.toArray⟩, .slice (f.en (k, m)).2.1 e.exts.length (f.en (k, m)).2.2]]).run Tryz.prog U = _ := hy
          have hl6 : listE 0 l = (pre2 ++ [(k, m, s, e)]) ++ (entsE k s (m + 1) (s.entries.drop (m + 1)) ++ listE (k + 1) (l.drop (k + 1))) := by
            rw [hl5, List.append_assoc]
            rfl
          have HL6 := Lib.hid hl6
          have HRR := Lib.hid hR
          clear hl5 hl6 hbmU hzU he hR cc
          gi_wp2
          refine HRR.out.mono ?_
          rintro e' W3 ⟨rfl, hJ3, hk3⟩
          have hb3 := hk3.2 _ _ HBU.out rfl hne
          have HB3 := Lib.hid hb3
          have hk4 := hkU.trans hk3
          clear hb3
          gi_wp2
          go_roundw
          case rel => exact ⟨m + 1, pre2 ++ [(k, m, s, e)], by omega, by go_num, HL6, hJ3, hk4, HB3⟩
          case measure => simp [intOf]; omega
        · obtain rfl : m = s.entries.length := by omega
          have hl5 := hl4.out
          rw [List.drop_length, entsE, List.nil_append] at hl5
          have HL5 := Lib.hid hl5
          clear hl5
          gi_wp2
          go_roundw
          case rel => exact ⟨k + 1, pre2, by omega, by go_num, HL5, hJm, hkm⟩
          case measure => simp [intOf]; omega
    · obtain rfl : k = l.length := by omega
      have hfin := hls.out
      rw [List.drop_length, listE, List.append_nil] at hfin
      have HF := Lib.hid hfin
      clear hfin
      gi_wp2
      go_end0
      rw [HF.out]
      exact ⟨⟨_, rfl⟩, hJr⟩
end Go.Proofs.YtbhmdcdhklgomaaGreatDoor

/-
  A range over a function whose variables are boxes that each round makes anew. (After XTRange's law.)
-/
namespace Go.Proofs.YtbhmdcdhklgomaaGreatDoor
open Go.RowKit Go.Shelf Top

theorem wpIn_rangeFunc_boxA {F : Fence} {n : Nat} {P : Program} {α : Type} {g : Operand} {ps : Array Tmp} {assign body : Code} {Q : Exit → Act → World → Prop} {a : Act} {w : World}
    (hro : F.round = none) (h1 : 1 ≤ n) {gf : Nat} {lb : Array Value} (hg : a.eval g = .func (.func gf) #[] lb) (hFg : F.fn gf) (eg : ∀ args w, (callFunc gf args).run P w = .ok (.enter gf args) w)
    {encs : α → Array Value} {Kp : World → World → Prop} {xs : List α} {w0 : World} (hseq : SeqNB F (n - 1) P gf lb encs Kp xs w0)
    (hKt : ∀ {A B C : World}, Kp A B → Kp B C → Kp A C) (hKb : ∀ (W : World) (l : Nat) (o o' : Obj), w.heap.size ≤ l → W.heap[l]? = some o → o.isCells = false → o.isWalk = false → Kp W (W.putObj l o')) (hb0 : Below w0.heap.size w0 w) (hps : ∀ x, (encs x).size = ps.size)
    (I : List α → World → Prop) (hI : OwnFrom w.heap.size I) (h0 : I [] w) (A : α → Act → World → Prop) (hAo : ∀ (x : α) (a : Act) (W : World) (l : Nat) (o o' : Obj), A x a W → W.heap[l]? = some o → o.isCells = false → A x a (W.putObj l o'))
    (hassign : ∀ (l : Nat) (pre : List α) (x : α) (rest : List α) (W : World) (K : Act → World → Prop), xs = pre ++ x :: rest → I pre W → (∀ (a' : Act) (W' : World), KeepsOthers W W' → Kp W W' → I pre W' → A x a' W' → K a' W') →
      assign.wpIn (F.inRound l) (n - 1 - 1) P (Exit.then K (fun _ _ _ => False)) { tmps := (ps.zip (encs x)).foldl (fun t (p, v) => t.setIfInBounds p v) a.tmps, defers := [] } W)
    (hbody : ∀ (l : Nat) (pre : List α) (x : α) (rest : List α) (a' : Act) (W : World), xs = pre ++ x :: rest → I pre W → A x a' W → body.wpIn (F.inRound l) (n - 1 - 1) P (postB Kp I (pre ++ [x]) W) a' W)
    (hdone : ∀ (D : Nat) (W : World), w.heap.size ≤ D → I xs W → W.heap[D]? = some (.deferred (some [])) → Q .normal { a with defers := { target := .collected D, args := #[] } :: a.defers } W) :
    (Code.rangeFunc g ps assign body).wpIn F n P Q a w := by
  refine wpIn_rangeFunc ?_
  intro fn hfn
  rw [hro]
  obtain ⟨rec, hrec⟩ : ∃ rec : LoopState → Option Code → Loop, rec = fun st pe => { state := st, pending := pe, fn, tmps := a.tmps, params := ps, assign, body, defers := w.heap.size } := ⟨_, rfl⟩
  obtain ⟨W1, hW1⟩ : ∃ W1, (w.alloc (.deferred (some []))).alloc (.loop (rec .ready none)) = W1 := ⟨_, rfl⟩
  have hL1 : W1.heap[w.heap.size + 1]? = some (.loop (rec .ready none)) := by
    rw [← hW1]; have := World.alloc_heap_new (w.alloc (.deferred (some []))) (.loop (rec .ready none)); rwa [World.size_alloc] at this
  have hK1 : W1.heap[w.heap.size]? = some (.deferred (some [])) := by
    rw [← hW1]; exact (Below.heap_alloc _ _ _ (by simp)).trans (World.alloc_heap_new w _)
  have hI1 : I [] W1 := by rw [← hW1]; exact hI.alloc _ (hI.alloc _ h0)
  have hb1 : Below w0.heap.size w0 W1 := by
    rw [← hW1]; exact hb0.trans ((((Below.refl _ w).alloc (Nat.le_refl _) _).alloc (by simp) _).mono hb0.size)
  refine ⟨w.heap.size + 1, [{ target := .collected w.heap.size, args := #[] }], W1, { target := .fn (.func gf) lb, args := #[.func (.yield (w.heap.size + 1)) #[] #[]] }, W1, gf,
    #[.func (.yield (w.heap.size + 1)) #[] #[]] ++ lb, W1, ?_, ?_, ?_, ?_, fun _ => h1, ?_⟩
  · rw [← hW1, hrec]; exact run_enterLoop_outer _ _ _ _ _
  · simp only [resolve, hg]
    simp [go_sem]
  · intro f' hf'; simp [Target.leads] at hf'; subst hf'; exact hFg
  · simp [invoke, go_sem, eg]
  · have hnw : ∀ {A B : World} {row : Option Nat}, (∀ r, row = some r → W1.heap.size ≤ r ∧ ∃ o : Obj, A.heap[r]? = some o ∧ o.isWalk = true) → (∀ r, row = some r → w.heap.size ≤ r ∧ ∃ o : Obj, A.heap[r]? = some o ∧ o.isCells = false) :=
      fun hr r e => by obtain ⟨hB, o, ho, hw⟩ := hr r e; exact ⟨by rw [← hW1] at hB; simp at hB; omega, o, ho, Obj.not_cells_of_walk hw⟩
    refine (hseq (w.heap.size + 1)
      (fun pre W => I pre W ∧ W.heap[w.heap.size + 1]? = some (.loop (rec .ready none)) ∧ W.heap[w.heap.size]? = some (.deferred (some [])))
      W1 hb1
      (fun s A B row hs hg' hr => ⟨hI s A B row hs.1 hg' (hnw (B := B) hr), (grownBy_keeps hg' (fun r e => (hr r e).2) hs.2.1 rfl).trans hs.2.1, (grownBy_keeps hg' (fun r e => (hr r e).2) hs.2.2 rfl).trans hs.2.2⟩)
      ?_ ⟨hI1, hL1, hK1⟩).mono ?_
    · rintro pre x rest W0 hxs ⟨hi0, hl0, hk0⟩
      have hlt0 : w.heap.size + 1 < W0.heap.size := (Array.getElem?_eq_some_iff.1 hl0).1
      have hy := run_yield (P := P) (args := encs x) hl0 (by rw [hrec]; exact hps x)
      rw [hrec] at hy
      refine ⟨fn, _, assign, body, hy, roundIn_of_wpIn hfn (hassign _ pre x rest W0 _ hxs hi0 (fun a' W hko hkp0 hi hA => ?_))⟩
      have hl : W.heap[w.heap.size + 1]? = some (.loop (rec .ready none)) := hko.same _ _ hl0 rfl
      have hk : W.heap[w.heap.size]? = some (.deferred (some [])) := hko.same _ _ hk0 rfl
      have hlt : w.heap.size + 1 < W.heap.size := (Array.getElem?_eq_some_iff.1 hl).1
      refine ⟨_, run_beginRound hl (by rw [hrec]), ?_⟩
      have hl2 : (W.putObj (w.heap.size + 1) (.loop { rec .ready none with state := .busy })).heap[w.heap.size + 1]? = some (.loop { rec .ready none with state := .busy }) := World.putObj_heap_same hlt
      have hk2 : (W.putObj (w.heap.size + 1) (.loop { rec .ready none with state := .busy })).heap[w.heap.size]? = some (.deferred (some [])) := (World.putObj_heap_other (by omega)).trans hk
      have hw2 : Kp W0 (W.putObj (w.heap.size + 1) (.loop { rec .ready none with state := .busy })) := hKt hkp0 (hKb _ _ _ _ (by omega) hl rfl rfl)
      refine wpIn_mono (hbody _ pre x rest a' _ hxs (hI.putObj _ hi (by omega) hl rfl) (hAo _ _ _ _ _ _ hA hl rfl)) ?_
      have fin : ∀ (jump : Option Code) (W3 : World), KeepsOthers (W.putObj (w.heap.size + 1) (.loop { rec .ready none with state := .busy })) W3 →
          (Instr.endRound (w.heap.size + 1) jump).run P W3 = .ok (.bool jump.isNone) (W3.putObj (w.heap.size + 1) (.loop (rec (if jump.isNone then .ready else .done) jump))) ∧
          W3.heap[w.heap.size + 1]? = some (.loop { rec .ready none with state := .busy }) ∧
          (W3.putObj (w.heap.size + 1) (.loop (rec (if jump.isNone then .ready else .done) jump))).heap[w.heap.size + 1]? = some (.loop (rec (if jump.isNone then .ready else .done) jump)) ∧
          (W3.putObj (w.heap.size + 1) (.loop (rec (if jump.isNone then .ready else .done) jump))).heap[w.heap.size]? = some (.deferred (some [])) := fun jump W3 hk3 => by
        have hl3 := hk3.same _ _ hl2 rfl
        have := run_endRound (P := P) jump hl3
        rw [hrec] at this ⊢
        exact ⟨this, by rw [hrec] at hl3; exact hl3, World.putObj_heap_same (Array.getElem?_eq_some_iff.1 hl3).1, (World.putObj_heap_other (by omega)).trans (hk3.same _ _ hk2 rfl)⟩
      rintro e a3 W3 hp
      cases e with
      | normal =>
        obtain ⟨hk3, hkp3, hi3⟩ := hp
        obtain ⟨hr, hl3, hl4, hk4⟩ := fin none W3 hk3
        exact ⟨_, _, hr, rfl, ⟨hI.putObj _ hi3 (by omega) hl3 rfl, hl4, hk4⟩, hKt (hKt hw2 hkp3) (hKb _ _ _ _ (by omega) hl3 rfl rfl)⟩
      | ret => exact hp.elim
      | exit id => exact hp.elim
      | goto t => exact hp.elim
      | panic ch => exact hp.elim
      | outgrown => exact hp.elim
    · rintro e W2 ⟨⟨v, rfl⟩, hi, hl, hk⟩
      exact ⟨none, _, by have := run_endLoop (P := P) hl (by rw [hrec]; simp); rw [hrec] at this; exact this, hdone _ _ (Nat.le_refl _) (hI.putObj _ hi (by omega) hl rfl) ((World.putObj_heap_other (by omega)).trans hk)⟩

end Go.Proofs.YtbhmdcdhklgomaaGreatDoor

/-
  history.after.
-/
namespace Go.Proofs.YtbhmdcdhklgomaaGreatDoor
open Go.RowKit Go.Shelf Top
attribute [local go_sem] Oper.semAt_some

structure StOk (n : Nat) (s : St) : Prop where
  tree : s.tree.length ≤ 5000
  paths : FitP s.tree
  holds : s.holds.length ≤ n
  fits : FitH s.holds
theorem stOk_empty : StOk 0 Top.empty := ⟨Nat.zero_le _, fun _ hx => (List.not_mem_nil hx).elim, Nat.le_refl _, fun _ hx => (List.not_mem_nil hx).elim⟩
theorem StOk.mono {n m : Nat} {s : St} (h : StOk n s) (hm : n ≤ m) : StOk m s := ⟨h.tree, h.paths, Nat.le_trans h.holds hm, h.fits⟩
theorem applyS_ok {n : Nat} {s : St} (h : StOk n s) {e : Ent} (he : entErr e = 0) (d : Int) : StOk (n + 1) (applyS s e d).2 := by
  have hp : e.path.length ≤ 16777216 := by have := (valid he).path; omega
  have h' := h.mono (Nat.le_succ n)
  unfold applyS
  split
  · exact h'
  · split
    · exact h'
    · split
      · exact h'
      · have := h.holds
        exact ⟨(applyT_ok h.tree h.paths hp).1, (applyT_ok h.tree h.paths hp).2, Nat.le_trans (applyH_ok h.fits hp).1 (by omega), (applyH_ok h.fits hp).2⟩
theorem foldS_ok : ∀ (l : List (Int × Ent)) {n : Nat} {s : St}, StOk n s → (∀ x ∈ l, entErr x.2 = 0) → StOk (n + l.length) (foldS s l)
  | [], _, _, h, _ => h
  | x :: l, n, s, h, hl => by
    have := foldS_ok l (applyS_ok h (hl x (by simp)) x.1) (fun y hy => hl y (by simp [hy]))
    rw [List.length_cons, show n + (l.length + 1) = n + 1 + l.length by omega]
    exact this
theorem foldS_snoc (s : St) (l : List (Int × Ent)) (x : Int × Ent) : foldS s (l ++ [x]) = (applyS (foldS s l) x.2 x.1).2 := by
  rw [foldS_append]
  rfl

/-- Every block of cells is as it was. -/
def KC (A B : World) : Prop := A.heap.size ≤ B.heap.size ∧ ∀ (j : Nat) (o : Obj), A.heap[j]? = some o → o.isCells = true → B.heap[j]? = some o
theorem KC.cell {A B : World} (h : KC A B) {p : Addr} {u : Value} (hp : A.cell? p = some u) : B.cell? p = some u := by
  obtain ⟨o, h1, h2⟩ := cells_of_cell hp
  exact (World.cell?_of_block ((h.2 _ _ h1 h2).trans h1.symm)).trans hp
theorem KC.flat {A B : World} (h : KC A B) {α : Type} {c : α → List Value} {k : Nat} {v : Value} {l : List α} (hf : Flat c k A v l) : Flat c k B v l := by
  obtain ⟨ao, cap, h1, h2, h3, h4⟩ := hf
  refine ⟨ao, cap, h1, h2, h3, fun j vs hj => ?_⟩
  obtain ⟨g1, bk, o, g2, g3⟩ := h4 j vs hj
  exact ⟨g1, bk, o, g2, fun i v hi => h.cell (g3 i v hi)⟩
theorem KC.ents {A B : World} (h : KC A B) {v : Value} {l : List Ent} (hf : Ents A v l) : Ents B v l := by
  obtain ⟨ao, cap, vss, h1, h2, h3, h4, h5, h6⟩ := hf
  refine ⟨ao, cap, vss, h1, h2, h3, fun j vs hj => ?_, h5, fun j x y hx hy => ?_⟩
  · obtain ⟨g1, bk, o, g2, g3⟩ := h4 j vs hj
    exact ⟨g1, bk, o, g2, fun i v hi => h.cell (g3 i v hi)⟩
  · obtain ⟨aa, ac, ea, ec, k1, k2, k3⟩ := h6 j x y hx hy
    exact ⟨aa, ac, ea, ec, k1, h.flat k2, h.flat k3⟩
theorem KC.putObj (W : World) (l : Nat) (o o' : Obj) (h : W.heap[l]? = some o) (hc : o.isCells = false) : KC W (W.putObj l o') :=
  ⟨(grownBy_putObj' W l o').size, fun j oj hj hjc => by
    have hne : j ≠ l := by
      rintro rfl
      rw [h] at hj
      injection hj with hj
      subst hj
      rw [hc] at hjc
      cases hjc
    exact ((grownBy_putObj' W l o').block j (Array.getElem?_eq_some_iff.1 hj).1 (fun e => hne (by injection e))).trans hj⟩
/-- The state in its box. -/
def StI (w : World) (b1 b : Nat) (s : St) (X : World) : Prop := ∃ ta tc ha hc, X.heap[b]? = some (.cells #[.slice ta s.tree.length tc, .slice ha s.holds.length hc] 83 (0, 0)) ∧ X.heap[b1]? = some (.cells #[.slice none 0 0, .slice none 0 0] 83 (0, 0)) ∧
  Ents X (.slice ta s.tree.length tc) s.tree ∧ Holds X (.slice ha s.holds.length hc) s.holds ∧ Below w.heap.size w X ∧ w.heap.size ≤ b ∧ w.heap.size ≤ b1 ∧ b1 ≠ b
theorem StI.own (w : World) (b1 b N : Nat) (hN : w.heap.size ≤ N) (g : List IT → St) : OwnFrom N (fun pre X => StI w b1 b (g pre) X) := fun pre A B row h hg hr => by
  obtain ⟨ta, tc, ha, hc, h1, h2, h3, h4, h5, h6⟩ := h
  have hk : KC A B := ⟨hg.size, fun j o hj hc => by
    have hne : row ≠ some j := fun e => by
      obtain ⟨_, o', ho', hc'⟩ := hr j e
      rw [hj] at ho'
      injection ho' with ho'
      subst ho'
      rw [hc] at hc'
      cases hc'
    exact (hg.block j (Array.getElem?_eq_some_iff.1 hj).1 (fun e => hne e.symm)).trans hj⟩
  exact ⟨ta, tc, ha, hc, hk.2 _ _ h1 rfl, hk.2 _ _ h2 rfl, hk.ents h3, hk.flat h4, h5.grown hg h5.size (fun r e => Nat.le_trans hN (hr r e).1), h6⟩
theorem StI.below {w X Y : World} {b1 b : Nat} {s : St} (h : StI w b1 b s X) (hb : Below X.heap.size X Y) : StI w b1 b s Y := by
  obtain ⟨ta, tc, ha, hc, h1, h2, h3, h4, h5, h6⟩ := h
  exact ⟨ta, tc, ha, hc, (hb.block _ (Array.getElem?_eq_some_iff.1 h1).1).trans h1, (hb.block _ (Array.getElem?_eq_some_iff.1 h2).1).trans h2, h3.below hb, h4.below hb, h5.trans (hb.mono h5.size), h6⟩
def itE (x : IT) : Int × Ent := (x.2.2.1.date, x.2.2.2)
/-- The round's variables. -/
def AftA (w : World) (sa : Option Addr) (n sc B b : Nat) (f : Hdr) (x : IT) (a : Act) (X : World) : Prop := ∃ sb eb, a = { tmps := #[.slice sa n sc, undef, .pointer (some ⟨w.heap.size, 0, none⟩), .pointer (some ⟨b, 0, none⟩), .pointer (some ⟨sb, 0, none⟩), .pointer (some ⟨eb, 0, none⟩), .slice sa n sc, .func (.func 87) #[] #[.pointer (some ⟨B, 0, none⟩)], .agg #[.int .i64 x.2.2.1.num, .int .i64 x.2.2.1.date, .string ⟨x.2.2.1.prev.toArray⟩, .slice (f.ea x.1).1 x.2.2.1.entries.length (f.ea x.1).2, .string ⟨x.2.2.1.stream.toArray⟩, .string ⟨x.2.2.1.sign.toArray⟩], .agg #[.int .i64 x.2.2.2.kind, .string ⟨x.2.2.2.path.toArray⟩, .slice (f.en (x.1, x.2.1)).1.1 x.2.2.2.attrs.length (f.en (x.1, x.2.1)).1.2, .string ⟨x.2.2.2.target.toArray⟩, .int .i64 x.2.2.2.size, .string ⟨x.2.2.2.digest.toArray⟩, .slice (f.en (x.1, x.2.1)).2.1 x.2.2.2.exts.length (f.en (x.1, x.2.1)).2.2], undef, undef, undef, undef, undef, undef, undef, undef, undef], defers := [] } ∧
  X.heap[sb]? = some (.cells #[.int .i64 x.2.2.1.num, .int .i64 x.2.2.1.date, .string ⟨x.2.2.1.prev.toArray⟩, .slice (f.ea x.1).1 x.2.2.1.entries.length (f.ea x.1).2, .string ⟨x.2.2.1.stream.toArray⟩, .string ⟨x.2.2.1.sign.toArray⟩] 39 (0, 0)) ∧ X.heap[eb]? = some (.cells #[.int .i64 x.2.2.2.kind, .string ⟨x.2.2.2.path.toArray⟩, .slice (f.en (x.1, x.2.1)).1.1 x.2.2.2.attrs.length (f.en (x.1, x.2.1)).1.2, .string ⟨x.2.2.2.target.toArray⟩, .int .i64 x.2.2.2.size, .string ⟨x.2.2.2.digest.toArray⟩, .slice (f.en (x.1, x.2.1)).2.1 x.2.2.2.exts.length (f.en (x.1, x.2.1)).2.2] 43 (0, 0)) ∧ sb ≠ b ∧ eb ≠ b
set_option maxHeartbeats 4000000 in
set_option maxRecDepth 100000 in
theorem after_any (sa : Option Addr) (sc : Nat) (l : List Ses) (w : World) (hs : Sess w (.slice sa l.length sc) l) (hg : Ground w) (hok : ∀ s ∈ l, ∀ e ∈ s.entries, entErr e = 0) (hc : (listE 0 l).length ≤ 60000) (hl : l.length ≤ 1000000) (hle : ∀ s ∈ l, s.entries.length ≤ 1000000) :
    Calls Tryz.prog 29 #[.slice sa l.length sc] w fun en w' => ∃ v', en = .returned v' ∧ StV w' v' (afterS l) ∧ Below w.heap.size w w' := by
  obtain ⟨f, hS, hE⟩ := hdr_of hs
  obtain ⟨W, hW, hbW, hzW, hB0, _, _⟩ := box2 w (.slice none 0 0) (.slice none 0 0) 83
  obtain ⟨V, hV, hbV, hzV, hB1, b0, b1⟩ := box2 W (.slice none 0 0) (.slice none 0 0) 83
  refine (callsIn_wide (n := 5)).1 ?_
  refine callsIn_of_wp_marks Tryz.func29 rfl trivial ?_ rfl
  simp only [Tryz.ntmps29, List.size_toArray, List.length_cons, List.length_nil, Nat.reduceAdd, Nat.reduceSub, Array.replicate_succ, Array.replicate_zero, List.push_toArray, List.append_toArray, List.nil_append, List.cons_append]
  gi_wp2
  refine ⟨trivial, ?_⟩
  refine (callsIn_wide.2 (entries_any _ _ _ _)).mono ?_
  rintro e w2 ⟨rfl, rfl⟩
  have hST0 : StI w w.heap.size W.heap.size Top.empty V := ⟨none, 0, none, 0, hB1, (hbV.block _ hzW).trans hB0, Ents.nil _, Flat.nil _ _ _, hbW.trans (hbV.mono hbW.size), hbW.size, Nat.le_refl _, by omega⟩
  have hb2 : Below V.heap.size V (V.alloc (.cells #[.slice sa l.length sc] 28)) := (Below.refl _ V).alloc (Nat.le_refl _) _
  have hwV := hbW.trans (hbV.mono hbW.size)
  have hw2 := hwV.trans (hb2.mono hwV.size)
  have hcB : (V.alloc (.cells #[.slice sa l.length sc] 28)).cell? ⟨V.heap.size, 0, none⟩ = some (.slice sa l.length sc) := tcell (heap_alloc_new V _) 0 _ rfl
  have hseq := entries_box 4 (by omega) W.heap.size V.heap.size l f sa sc w _ hw2 hbW.size (by simp; omega) hcB hS hE hl hle
  have hST2 := hST0.below hb2
  have HOK := Lib.hid hok
  have HG := Lib.hid hg
  have HSS := Lib.hid hS
  have HEE := Lib.hid hE
  have HC := Lib.hid hc
  have hwW := hbW.size
  generalize V.heap.size = Bn at *
  generalize V.alloc (.cells #[.slice sa l.length sc] 28) = w2 at *
  clear hs hg hok hS hE hc hB0 hB1 b0 b1 hST0
  gi_wp2
  refine wpIn_rangeFunc_boxA rfl (by omega) (gf := 87) (lb := #[.pointer (some ⟨Bn, 0, none⟩)]) rfl trivial (enters_of Tryz.func87 (by kernel_rfl) rfl)
    hseq (fun h k => h.trans k) (fun X l o o' _ h1 h2 _ => keptC_b X l o o' h1 h2) (Below.refl _ _) (fun _ => rfl)
    (fun pre X => StI w w.heap.size W.heap.size (foldS Top.empty (pre.map itE)) X) (StI.own w _ _ _ hw2.size _) hST2
    (AftA w sa l.length sc Bn W.heap.size f) ?ao ?assign ?body ?done
  case ao =>
    rintro x a X lp o o' ⟨sb, eb, rfl, h1, h2, h3⟩ hlo hco
    have hk := keptC_b (b := lp) X lp o o' hlo hco
    refine ⟨sb, eb, rfl, hk.2 _ _ h1 rfl (fun e => ?_), hk.2 _ _ h2 rfl (fun e => ?_), h3⟩
    · subst e
      rw [hlo] at h1
      injection h1 with h1
      subst h1
      cases hco
    · subst e
      rw [hlo] at h2
      injection h2 with h2
      subst h2
      cases hco
  case assign =>
    intro lp pre x rest X K hxs hI hK
    have hew : encW f x = #[.agg #[.int .i64 x.2.2.1.num, .int .i64 x.2.2.1.date, .string ⟨x.2.2.1.prev.toArray⟩, .slice (f.ea x.1).1 x.2.2.1.entries.length (f.ea x.1).2, .string ⟨x.2.2.1.stream.toArray⟩, .string ⟨x.2.2.1.sign.toArray⟩], .agg #[.int .i64 x.2.2.2.kind, .string ⟨x.2.2.2.path.toArray⟩, .slice (f.en (x.1, x.2.1)).1.1 x.2.2.2.attrs.length (f.en (x.1, x.2.1)).1.2, .string ⟨x.2.2.2.target.toArray⟩, .int .i64 x.2.2.2.size, .string ⟨x.2.2.2.digest.toArray⟩, .slice (f.en (x.1, x.2.1)).2.1 x.2.2.2.exts.length (f.en (x.1, x.2.1)).2.2]] := rfl
    rw [hew]
    clear hew
    obtain ⟨V1, hV1, hbV1, hzV1, hk1, _⟩ := box6 X (.int .i64 x.2.2.1.num) (.int .i64 x.2.2.1.date) (.string ⟨x.2.2.1.prev.toArray⟩) (.slice (f.ea x.1).1 x.2.2.1.entries.length (f.ea x.1).2) (.string ⟨x.2.2.1.stream.toArray⟩) (.string ⟨x.2.2.1.sign.toArray⟩) 39
    obtain ⟨V2, hV2, hbV2, _⟩ := ebox V1 x.2.2.2 (.slice (f.en (x.1, x.2.1)).1.1 x.2.2.2.attrs.length (f.en (x.1, x.2.1)).1.2) (.slice (f.en (x.1, x.2.1)).2.1 x.2.2.2.exts.length (f.en (x.1, x.2.1)).2.2)
    have hk2 : V2.heap[V1.heap.size]? = some (.cells #[.int .i64 x.2.2.2.kind, .string ⟨x.2.2.2.path.toArray⟩, .slice (f.en (x.1, x.2.1)).1.1 x.2.2.2.attrs.length (f.en (x.1, x.2.1)).1.2, .string ⟨x.2.2.2.target.toArray⟩, .int .i64 x.2.2.2.size, .string ⟨x.2.2.2.digest.toArray⟩, .slice (f.en (x.1, x.2.1)).2.1 x.2.2.2.exts.length (f.en (x.1, x.2.1)).2.2] 43 (0, 0)) := by
      rw [← hV2]
      exact heap_alloc_new V1 _
    have hlX : W.heap.size < X.heap.size := by
      obtain ⟨_, _, _, _, g1, _⟩ := hI
      exact (Array.getElem?_eq_some_iff.1 g1).1
    have hb12 : Below X.heap.size X V2 := hbV1.trans (hbV2.mono hbV1.size)
    have hk1' := (hbV2.block _ (by omega)).trans hk1
    have hs1 := hbV1.size
    have HK1 := Lib.hid hk1'
    have HK2 := Lib.hid hk2
    clear hzV1 hk1 hk1' hk2
    gi_wp2
    refine hK _ _ ⟨hb12.size, fun j o hj _ => (hb12.block j (Array.getElem?_eq_some_iff.1 hj).1).trans hj⟩ (KeptC.of_below hb12) (hI.below hb12) ⟨X.heap.size, V1.heap.size, rfl, HK1.out, HK2.out, by omega, by omega⟩
  case body =>
    rintro lp pre x rest a' X hxs hI ⟨sb, eb, rfl, h1, h2, h3, h4⟩
    have hmem : x ∈ listE 0 l := by rw [hxs]; simp
    obtain ⟨i, hi1, hi2, hi3⟩ := listE_mem l 0 x hmem
    rw [Nat.zero_add] at hi1
    have hen := HOK.out _ (List.mem_of_getElem? hi2) _ (List.mem_of_getElem? hi3)
    have hvx := valid hen
    have hvp := hvx.path
    have hvt := hvx.target
    have hfo := foldS_ok (pre.map itE) stOk_empty (fun y hy => by
      obtain ⟨z, hz, rfl⟩ := List.mem_map.1 hy
      have hz' : z ∈ listE 0 l := by rw [hxs]; simp [hz]
      obtain ⟨i, _, g2, g3⟩ := listE_mem l 0 z hz'
      exact HOK.out _ (List.mem_of_getElem? g2) _ (List.mem_of_getElem? g3))
    have hlen : pre.length ≤ 60000 := by
      have := HC.out
      rw [hxs, List.length_append] at this
      omega
    rw [Nat.zero_add, List.length_map] at hfo
    have hsn : foldS Top.empty ((pre ++ [x]).map itE) = (applyS (foldS Top.empty (pre.map itE)) x.2.2.2 x.2.2.1.date).2 := by
      rw [List.map_append, List.map_singleton, foldS_snoc]
      rfl
    have HSN := Lib.hid hsn
    obtain ⟨ta, tc, ha, hc', k1, k2, k3, k4, k5, k6⟩ := hI
    obtain ⟨_, _, _, ef1, ef2, _⟩ := HEE.out x.1 x.2.2.1 x.2.1 x.2.2.2 (by rw [hi1]; exact hi2) hi3
    have hevX : EntV X (.agg #[.int .i64 x.2.2.2.kind, .string ⟨x.2.2.2.path.toArray⟩, .slice (f.en (x.1, x.2.1)).1.1 x.2.2.2.attrs.length (f.en (x.1, x.2.1)).1.2, .string ⟨x.2.2.2.target.toArray⟩, .int .i64 x.2.2.2.size, .string ⟨x.2.2.2.digest.toArray⟩, .slice (f.en (x.1, x.2.1)).2.1 x.2.2.2.exts.length (f.en (x.1, x.2.1)).2.2]) x.2.2.2 := ⟨_, _, _, _, rfl, ef1.below k5, ef2.below k5⟩
    generalize foldS Top.empty (pre.map itE) = S at *
    have hho := hfo.holds
    have HSA := Lib.hid (sapply_any _ _ S x.2.2.2 x.2.2.1.date X ⟨ta, tc, ha, hc', rfl, k3, k4⟩ hevX (HG.out.below k5) (by have := hfo.tree; omega) (by omega) hfo.paths hfo.fits (by omega) (by omega))
    have y0 := tcell k1 0 (.slice ta S.tree.length tc) rfl
    have y1 := tcell k1 1 (.slice ha S.holds.length hc') rfl
    have s0 := tcell h1 0 (.int .i64 x.2.2.1.num) rfl
    have s1 := tcell h1 1 (.int .i64 x.2.2.1.date) rfl
    have s2 := tcell h1 2 (.string ⟨x.2.2.1.prev.toArray⟩) rfl
    have s3 := tcell h1 3 (.slice (f.ea x.1).1 x.2.2.1.entries.length (f.ea x.1).2) rfl
    have s4 := tcell h1 4 (.string ⟨x.2.2.1.stream.toArray⟩) rfl
    have s5 := tcell h1 5 (.string ⟨x.2.2.1.sign.toArray⟩) rfl
    have e0 := tcell h2 0 (.int .i64 x.2.2.2.kind) rfl
    have e1 := tcell h2 1 (.string ⟨x.2.2.2.path.toArray⟩) rfl
    have e2 := tcell h2 2 (.slice (f.en (x.1, x.2.1)).1.1 x.2.2.2.attrs.length (f.en (x.1, x.2.1)).1.2) rfl
    have e3 := tcell h2 3 (.string ⟨x.2.2.2.target.toArray⟩) rfl
    have e4 := tcell h2 4 (.int .i64 x.2.2.2.size) rfl
    have e5 := tcell h2 5 (.string ⟨x.2.2.2.digest.toArray⟩) rfl
    have e6 := tcell h2 6 (.slice (f.en (x.1, x.2.1)).2.1 x.2.2.2.exts.length (f.en (x.1, x.2.1)).2.2) rfl
    have hlb := (Array.getElem?_eq_some_iff.1 k1).1
    have hlb1 := (Array.getElem?_eq_some_iff.1 k2).1
    have K1 := Lib.hid k1
    have K2 := Lib.hid k2
    have K5 := Lib.hid k5
    clear hsn ef1 ef2 hevX hfo hvx hen hi1 hi2 hi3 hmem k1 k2 k3 k4 k5 h1 h2
    gi_wp2
    refine ⟨trivial, ?_⟩
    refine (callsIn_wide.2 HSA.out).mono ?_
    rintro en X2 ⟨v', rfl, ⟨ta2, tc2, ha2, hc2, rfl, m1, m2⟩, hb2⟩
    have k1 := (hb2.block _ hlb).trans K1.out
    have k2 := (hb2.block _ hlb1).trans K2.out
    have y0 := tcell k1 0 (.slice ta S.tree.length tc) rfl
    have y1 := tcell k1 1 (.slice ha S.holds.length hc') rfl
    have z0 := tfree k1 0
    have z1 := tfree k1 1
    generalize hAS : (applyS S x.2.2.2 x.2.2.1.date).2 = S2 at *
    obtain ⟨t1, t2⟩ := set2 k1 (.slice ta2 S2.tree.length tc2) (.slice ha2 S2.holds.length hc2)
    have HN := Lib.hid (And.intro k1 (And.intro t1 t2))
    have HM := Lib.hid (And.intro m1 m2)
    clear m1 m2 t1 t2
    gi_wp2
    obtain ⟨g1, g2, g3⟩ := HN.out
    obtain ⟨m1, m2⟩ := HM.out
    have kk : KeptC W.heap.size X ((X2.setCell ⟨W.heap.size, 0, none⟩ (.slice ta2 S2.tree.length tc2)).setCell ⟨W.heap.size, 1, none⟩ (.slice ha2 S2.holds.length hc2)) := (KeptC.of_below hb2).trans (KeptC.of_grown g3)
    have hbX := K5.out.trans (hb2.mono K5.out.size)
    refine ⟨⟨kk.1, fun j o hj hc => ?_⟩, kk, ?_⟩
    · have e1 := (hb2.block j (Array.getElem?_eq_some_iff.1 hj).1).trans hj
      refine (g3.block j (Array.getElem?_eq_some_iff.1 e1).1 (fun e => ?_)).trans e1
      injection e with e
      subst e
      rw [g1] at e1
      injection e1 with e1
      subst e1
      cases hc
    · show StI w w.heap.size W.heap.size (foldS Top.empty ((pre ++ [x]).map itE)) _
      rw [HSN.out]
      exact ⟨ta2, tc2, ha2, hc2, g2, kk.2 _ _ K2.out rfl (by omega), m1.apart g1 (show ¬ ([1, 1] : List Nat) <:+: [2, 2] from by decide) (show ¬ ([0, 0, 0] : List Nat) <:+: [2, 2] from by decide) (show ¬ ([0, 1, 2, 1, 0, 1, 2] : List Nat) <:+: [2, 2] from by decide) g3, holds_apart m2 g1 (show ¬ ([1, 0] : List Nat) <:+: [2, 2] from by decide) g3, hbX.grown g3 hbX.size (fun k e => by injection e with e; omega), k6⟩
  case done =>
    rintro D X hD ⟨ta, tc, ha, hc', k1, k2, k3, k4, k5, k6⟩ hK
    have hfin : foldS Top.empty ((listE 0 l).map itE) = afterS l := by
      show foldS Top.empty ((listE 0 l).map fun x => (x.2.2.1.date, x.2.2.2)) = _
      rw [listE_map]
      rfl
    rw [hfin] at k1 k3 k4
    generalize hAS : afterS l = S at *
    have HAS := Lib.hid hAS
    clear hAS
    have y0 := tcell k1 0 (.slice ta S.tree.length tc) rfl
    have y1 := tcell k1 1 (.slice ha S.holds.length hc') rfl
    have u0 := tcell k2 0 (.slice none 0 0) rfl
    have u1 := tcell k2 1 (.slice none 0 0) rfl
    have z0 := tfree k2 0
    have z1 := tfree k2 1
    obtain ⟨t1, t2⟩ := set2 k2 (.slice ta S.tree.length tc) (.slice ha S.holds.length hc')
    have HN := Lib.hid (And.intro k2 (And.intro t1 t2))
    have HM := Lib.hid (And.intro k3 (And.intro k4 k5))
    have HK := Lib.hid hK
    clear k1 k2 k3 k4 k5 t1 t2 hfin
    have hwD : w.heap.size ≤ D := Nat.le_trans hw2.size hD
    gi_wp2
    obtain ⟨g1, g2, g3⟩ := HN.out
    obtain ⟨m1, m2, m3⟩ := HM.out
    have hK2 : ((X.setCell ⟨w.heap.size, 0, none⟩ (.slice ta S.tree.length tc)).setCell ⟨w.heap.size, 1, none⟩ (.slice ha S.holds.length hc')).heap[D]? = some (.deferred (some [])) := by
      refine (g3.block D (Array.getElem?_eq_some_iff.1 HK.out).1 (fun e => ?_)).trans HK.out
      injection e with e
      have := HK.out
      rw [e, g1] at this
      cases this
    have n1 := m1.apart g1 (show ¬ ([1, 1] : List Nat) <:+: [2, 2] from by decide) (show ¬ ([0, 0, 0] : List Nat) <:+: [2, 2] from by decide) (show ¬ ([0, 1, 2, 1, 0, 1, 2] : List Nat) <:+: [2, 2] from by decide) g3
    have n2 := holds_apart m2 g1 (show ¬ ([1, 0] : List Nat) <:+: [2, 2] from by decide) g3
    have n3 := m3.grown g3 m3.size (fun k e => by injection e with e; omega)
    generalize (X.setCell ⟨w.heap.size, 0, none⟩ (.slice ta S.tree.length tc)).setCell ⟨w.heap.size, 1, none⟩ (.slice ha S.holds.length hc') = Y at *
    refine ⟨by simp, .inl ⟨_, _, rfl, run_takeDeferred hK2, ?_⟩⟩
    have hkc := fun o' => KC.putObj Y D _ o' hK2 rfl
    refine ⟨_, results_cell_row (p := 2) (ty := 83) (by kernel_rfl) _ _ w.heap.size 83 _ (0, 0) _ (by kernel_rfl) ((hkc _).2 _ _ g2 rfl) Tryz.underlying83 (by kernel_rfl) (by kernel_rfl), _, rfl, ?_, n3.trans (belowK_b (w := w) (Nat.le_refl _) Y D _ _ hwD hK2 rfl rfl)⟩
    rw [HAS.out]
    exact ⟨ta, tc, ha, hc', rfl, (hkc _).ents n1, (hkc _).flat n2⟩
end Go.Proofs.YtbhmdcdhklgomaaGreatDoor
