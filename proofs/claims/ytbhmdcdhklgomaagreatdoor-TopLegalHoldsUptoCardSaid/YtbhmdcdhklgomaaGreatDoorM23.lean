/-
  Sessions, archives and drafts in memory.
-/
import Derived.Test.YtbhmdcdhklgomaaGreatDoorM22
import Derived.Test.YtbhmdcdhklgomaaGreatDoorM03
import Derived.RangeFuncFrom
import Derived.RangeFuncNested
import Derived.RangeFuncBox
import Derived.LoopIn
import Derived.RangeFuncBound
import Derived.RangeFuncCalls
import Derived.RangeFuncLeaves
import Derived.Shelf.Abstract
import Derived.Shelf.RegionOpen
import Derived.OwnWalkIn
import Derived.TacticsInMore
import Derived.LoopNIn
import Derived.WalkSmall
namespace Go.Proofs.YtbhmdcdhklgomaaGreatDoor
open Go.RowKit Top

def sesL (s : Ses) (ev : Value) : List Value := [.int .i64 s.num, .int .i64 s.date, .string ⟨s.prev.toArray⟩, ev, .string ⟨s.stream.toArray⟩, .string ⟨s.sign.toArray⟩]
def SesC (w : World) (vs : List Value) (s : Ses) : Prop := ∃ ea ec, vs = sesL s (.slice ea s.entries.length ec) ∧ Ents w (.slice ea s.entries.length ec) s.entries
theorem SesC.below {w w' : World} {vs : List Value} {s : Ses} (h : SesC w vs s) (hb : Below w.heap.size w w') : SesC w' vs s := by
  obtain ⟨ea, ec, h1, h2⟩ := h
  exact ⟨ea, ec, h1, h2.below hb⟩
theorem sesC_len {w : World} {vs : List Value} {s : Ses} (h : SesC w vs s) : vs.length = 6 := by
  obtain ⟨ea, ec, rfl, _⟩ := h
  rfl
theorem sesC_one {w : World} {vs : List Value} {s : Ses} (h : SesC w vs s) : ∀ u ∈ vs, u.oneCell' = true := by
  obtain ⟨ea, ec, rfl, _⟩ := h
  intro u hu
  simp only [sesL, List.mem_cons, List.not_mem_nil, or_false] at hu
  rcases hu with rfl | rfl | rfl | rfl | rfl | rfl <;> rfl
/-- A session as a value. -/
def SesV (w : World) (v : Value) (s : Ses) : Prop := ∃ ea ec, v = .agg #[.int .i64 s.num, .int .i64 s.date, .string ⟨s.prev.toArray⟩, .slice ea s.entries.length ec, .string ⟨s.stream.toArray⟩, .string ⟨s.sign.toArray⟩] ∧ Ents w (.slice ea s.entries.length ec) s.entries
theorem SesV.below {w w' : World} {v : Value} {s : Ses} (h : SesV w v s) (hb : Below w.heap.size w w') : SesV w' v s := by
  obtain ⟨ea, ec, h1, h2⟩ := h
  exact ⟨ea, ec, h1, h2.below hb⟩
/-- A slice of sessions. -/
def Sess (w : World) (v : Value) (l : List Ses) : Prop :=
  ∃ ao cap vss, v = .slice ao l.length cap ∧ l.length ≤ cap ∧ cap ≤ 9223372036854775807 ∧ Raw w ao 6 vss ∧ All2 (SesC w) vss l
section
variable {w w' : World} {v : Value} {l : List Ses}
theorem Sess.below (h : Sess w v l) (hb : Below w.heap.size w w') : Sess w' v l := by
  obtain ⟨ao, cap, vss, h1, h2, h3, h4, h5, h6⟩ := h
  exact ⟨ao, cap, vss, h1, h2, h3, h4.below hb, h5, fun j x y hx hy => (h6 j x y hx hy).below hb⟩
theorem Sess.nil (w : World) : Sess w (.slice none 0 0) [] := ⟨none, 0, [], rfl, by simp, by simp, Raw.nil _ _ _, rfl, fun j x y h => by simp at h⟩
theorem Sess.form (h : Sess w v l) : ∃ ao cap, v = .slice ao l.length cap ∧ l.length ≤ cap ∧ cap ≤ 9223372036854775807 := by
  obtain ⟨ao, cap, _, h1, h2, h3, _⟩ := h
  exact ⟨ao, cap, h1, h2, h3⟩
theorem Sess.get {ao : Option Addr} {n cap : Nat} (h : Sess w (.slice ao n cap) l) {j : Nat} {x : Ses} (hj : l[j]? = some x) : ∃ bk o ea ec, ao = some ⟨bk, o, none⟩ ∧ Ents w (.slice ea x.entries.length ec) x.entries ∧
    w.cell? ⟨bk, o + j * 6, none⟩ = some (.int .i64 x.num) ∧ w.cell? ⟨bk, o + j * 6 + 1, none⟩ = some (.int .i64 x.date) ∧ w.cell? ⟨bk, o + j * 6 + 2, none⟩ = some (.string ⟨x.prev.toArray⟩) ∧ w.cell? ⟨bk, o + j * 6 + 3, none⟩ = some (.slice ea x.entries.length ec) ∧
    w.cell? ⟨bk, o + j * 6 + 4, none⟩ = some (.string ⟨x.stream.toArray⟩) ∧ w.cell? ⟨bk, o + j * 6 + 5, none⟩ = some (.string ⟨x.sign.toArray⟩) := by
  obtain ⟨ao', cap', vss, h1, h2, h3, h4, h5, h6⟩ := h
  injection h1 with h1 _ _
  subst h1
  have hjl := (List.getElem?_eq_some_iff.1 hj).1
  obtain ⟨vs, hv⟩ : ∃ vs, vss[j]? = some vs := ⟨_, List.getElem?_eq_getElem (by omega)⟩
  obtain ⟨_, bk, o, e, hc⟩ := h4 j vs hv
  obtain ⟨ea, ec, rfl, he⟩ := h6 j vs x hv hj
  exact ⟨bk, o, ea, ec, e, he, hc 0 _ rfl, hc 1 _ rfl, hc 2 _ rfl, hc 3 _ rfl, hc 4 _ rfl, hc 5 _ rfl⟩
end
/-- An archive as a value. -/
def ArcV (w : World) (v : Value) (l : List Ses) : Prop := ∃ id da sp sa sc, v = .agg #[.int .u32 id, .int .i64 da, .int .i64 sp, .slice sa l.length sc] ∧ Sess w (.slice sa l.length sc) l
theorem ArcV.below {w w' : World} {v : Value} {l : List Ses} (h : ArcV w v l) (hb : Below w.heap.size w w') : ArcV w' v l := by
  obtain ⟨id, da, sp, sa, sc, h1, h2⟩ := h
  exact ⟨id, da, sp, sa, sc, h1, h2.below hb⟩
/-- A draft as a value. -/
def DraV (w : World) (v : Value) (d : Draft) : Prop := ∃ ea ec ca cc ta tc ha hc,
  v = .agg #[.int .i64 d.num, .int .i64 d.date, .string ⟨d.prev.toArray⟩, .slice ea d.entries.length ec, .slice ca d.store.chunks.length cc, .int .i64 d.store.ses, .string ⟨d.store.stream.toArray⟩, .slice ta d.tree.length tc, .slice ha d.holds.length hc] ∧
  Ents w (.slice ea d.entries.length ec) d.entries ∧ Flat chunkC 4 w (.slice ca d.store.chunks.length cc) d.store.chunks ∧ Ents w (.slice ta d.tree.length tc) d.tree ∧ Holds w (.slice ha d.holds.length hc) d.holds
theorem DraV.below {w w' : World} {v : Value} {d : Draft} (h : DraV w v d) (hb : Below w.heap.size w w') : DraV w' v d := by
  obtain ⟨ea, ec, ca, cc, ta, tc, ha, hc, h1, h2, h3, h4, h5⟩ := h
  exact ⟨ea, ec, ca, cc, ta, tc, ha, hc, h1, h2.below hb, h3.below hb, h4.below hb, h5.below hb⟩
/-- A box of four cells, of six cells. -/
theorem box4 (w : World) (a b c d : Value) (E : TypeId) : ∃ W, w.alloc (.cells #[a, b, c, d] E) = W ∧ Below w.heap.size w W ∧ W.heap.size = w.heap.size + 1 ∧ W.heap[w.heap.size]? = some (.cells #[a, b, c, d] E (0, 0)) ∧
    W.cell? ⟨w.heap.size, 0, none⟩ = some a ∧ W.cell? ⟨w.heap.size, 1, none⟩ = some b ∧ W.cell? ⟨w.heap.size, 2, none⟩ = some c ∧ W.cell? ⟨w.heap.size, 3, none⟩ = some d := by
  have e := heap_alloc_new w (.cells #[a, b, c, d] E)
  exact ⟨_, rfl, (Below.refl _ w).alloc (Nat.le_refl _) _, by simp, e, tcell e 0 _ rfl, tcell e 1 _ rfl, tcell e 2 _ rfl, tcell e 3 _ rfl⟩
theorem box6 (w : World) (a b c d e f : Value) (E : TypeId) : ∃ W, w.alloc (.cells #[a, b, c, d, e, f] E) = W ∧ Below w.heap.size w W ∧ W.heap.size = w.heap.size + 1 ∧ W.heap[w.heap.size]? = some (.cells #[a, b, c, d, e, f] E (0, 0)) ∧
    W.cell? ⟨w.heap.size, 0, none⟩ = some a ∧ W.cell? ⟨w.heap.size, 1, none⟩ = some b ∧ W.cell? ⟨w.heap.size, 2, none⟩ = some c ∧ W.cell? ⟨w.heap.size, 3, none⟩ = some d ∧ W.cell? ⟨w.heap.size, 4, none⟩ = some e ∧ W.cell? ⟨w.heap.size, 5, none⟩ = some f := by
  have h := heap_alloc_new w (.cells #[a, b, c, d, e, f] E)
  exact ⟨_, rfl, (Below.refl _ w).alloc (Nat.le_refl _) _, by simp, h, tcell h 0 _ rfl, tcell h 1 _ rfl, tcell h 2 _ rfl, tcell h 3 _ rfl, tcell h 4 _ rfl, tcell h 5 _ rfl⟩
end Go.Proofs.YtbhmdcdhklgomaaGreatDoor

/-
  A range over a function whose iterator writes a box of its own between the rounds; no early end. The list that it yields is fixed.
  (The law's proof follows the library's wpIn_rangeFunc_ownK.)
-/
namespace Go.Proofs.YtbhmdcdhklgomaaGreatDoor
open Go.RowKit Top

def SeqBox {α : Type} (F : Fence) (n : Nat) (P : Program) (g : Nat) (lb : Array Value) (encs : α → Array Value) (Kp : World → World → Prop) (b : Nat) (xs : List α) (w : World) : Prop :=
  ∀ (l : Nat) (J : List α → World → Prop) (W : World), Below w.heap.size w W → AbidesFrom W.heap.size J → (∀ s A B, J s A → A.grownBy B (some b) → J s B) →
    (∀ pre x rest W1, xs = pre ++ x :: rest → J pre W1 → YieldAt F (n - 1) P l (encs x) W1 fun e W' => e = .returned (.bool true) ∧ J (pre ++ [x]) W' ∧ Kp W1 W') →
    J [] W →
    CallsIn F n P g (#[.func (.yield l) #[] #[]] ++ lb) W fun e W' => (∃ v, e = .returned v) ∧ J xs W'

def postB {α : Type} (Kp : World → World → Prop) (I : List α → World → Prop) (xs : List α) (W : World) : Exit → Act → World → Prop
  | .normal, _, W' => KeepsOthers W W' ∧ Kp W W' ∧ I xs W'
  | _, _, _ => False

theorem wpIn_rangeFunc_box {F : Fence} {n : Nat} {P : Program} {α : Type} {g : Operand} {ps : Array Tmp} {assign body : Code} {Q : Exit → Act → World → Prop} {a : Act} {w : World}
    (hro : F.round = none) (h1 : 1 ≤ n) {gf : Nat} {lb : Array Value} (hg : a.eval g = .func (.func gf) #[] lb) (hFg : F.fn gf) (eg : ∀ args w, (callFunc gf args).run P w = .ok (.enter gf args) w)
    {encs : α → Array Value} {Kp : World → World → Prop} {b : Nat} {xs : List α} {w0 : World} (hseq : SeqBox F (n - 1) P gf lb encs Kp b xs w0)
    (hKt : ∀ {A B C : World}, Kp A B → Kp B C → Kp A C) (hKb : ∀ (W : World) (l : Nat) (o o' : Obj), w.heap.size ≤ l → W.heap[l]? = some o → o.isCells = false → o.isWalk = false → Kp W (W.putObj l o')) (hb0 : Below w0.heap.size w0 w) (hbw : b < w.heap.size) (hps : ∀ x, (encs x).size = ps.size)
    (I : List α → World → Prop) (hI : OwnFrom w.heap.size I) (hIb : ∀ s A B, I s A → A.grownBy B (some b) → I s B) (h0 : I [] w) (a₁ : α → Act)
    (hassign : ∀ (l : Nat) (x : α) (W : World) (K : Act → World → Prop), K (a₁ x) W →
      assign.wpIn (F.inRound l) (n - 1 - 1) P (Exit.then K (fun _ _ _ => False)) { tmps := (ps.zip (encs x)).foldl (fun t (p, v) => t.setIfInBounds p v) a.tmps, defers := [] } W)
    (hbody : ∀ (l : Nat) (pre : List α) (x : α) (rest : List α) (W : World), xs = pre ++ x :: rest → I pre W → body.wpIn (F.inRound l) (n - 1 - 1) P (postB Kp I (pre ++ [x]) W) (a₁ x) W)
    (hdone : ∀ (D : Nat) (W : World), w.heap.size ≤ D → I xs W → W.heap[D]? = some (.deferred (some [])) → Q .normal { a with defers := { target := .collected D, args := #[] } :: a.defers } W) :
    (Code.rangeFunc g ps assign body).wpIn F n P Q a w := by
  refine wpIn_rangeFunc ?_
  intro fn hfn
  rw [hro]
  obtain ⟨rec, hrec⟩ : ∃ rec : LoopState → Option Code → Loop, rec = fun st pe => { state := st, pending := pe, fn, tmps := a.tmps, params := ps, assign, body, defers := w.heap.size } := ⟨_, rfl⟩
  obtain ⟨W1, hW1⟩ : ∃ W1, (w.alloc (.deferred (some []))).alloc (.loop (rec .ready none)) = W1 := ⟨_, rfl⟩
  have hL1 : W1.heap[w.heap.size + 1]? = some (.loop (rec .ready none)) := by
    rw [← hW1]; have := World.alloc_heap_new (w.alloc (.deferred (some []))) (.loop (rec .ready none)); rwa [World.size_alloc] at this
  have hK1 : W1.heap[w.heap.size]? = some (.deferred (some [])) := by
    rw [← hW1]; exact (Below.heap_alloc _ _ _ (by simp)).trans (World.alloc_heap_new w _)
  have hI1 : I [] W1 := by rw [← hW1]; exact hI.alloc _ (hI.alloc _ h0)
  have hb1 : Below w0.heap.size w0 W1 := by
    rw [← hW1]; exact hb0.trans ((((Below.refl _ w).alloc (Nat.le_refl _) _).alloc (by simp) _).mono hb0.size)
  refine ⟨w.heap.size + 1, [{ target := .collected w.heap.size, args := #[] }], W1, { target := .fn (.func gf) lb, args := #[.func (.yield (w.heap.size + 1)) #[] #[]] }, W1, gf,
    #[.func (.yield (w.heap.size + 1)) #[] #[]] ++ lb, W1, ?_, ?_, ?_, ?_, fun _ => h1, ?_⟩
  · rw [← hW1, hrec]; exact run_enterLoop_outer _ _ _ _ _
  · simp only [resolve, hg]
    simp [go_sem]
  · intro f' hf'; simp [Target.leads] at hf'; subst hf'; exact hFg
  · simp [invoke, go_sem, eg]
  · have hnw : ∀ {A B : World} {row : Option Nat}, (∀ r, row = some r → W1.heap.size ≤ r ∧ ∃ o : Obj, A.heap[r]? = some o ∧ o.isWalk = true) → (∀ r, row = some r → w.heap.size ≤ r ∧ ∃ o : Obj, A.heap[r]? = some o ∧ o.isCells = false) :=
      fun hr r e => by obtain ⟨hB, o, ho, hw⟩ := hr r e; exact ⟨by rw [← hW1] at hB; simp at hB; omega, o, ho, Obj.not_cells_of_walk hw⟩
    refine (hseq (w.heap.size + 1)
      (fun pre W => I pre W ∧ W.heap[w.heap.size + 1]? = some (.loop (rec .ready none)) ∧ W.heap[w.heap.size]? = some (.deferred (some [])))
      W1 hb1
      (fun s A B row hs hg' hr => ⟨hI s A B row hs.1 hg' (hnw (B := B) hr), (grownBy_keeps hg' (fun r e => (hr r e).2) hs.2.1 rfl).trans hs.2.1, (grownBy_keeps hg' (fun r e => (hr r e).2) hs.2.2 rfl).trans hs.2.2⟩)
      (fun s A B hs hg' => ⟨hIb s A B hs.1 hg', (hg'.block _ (Array.getElem?_eq_some_iff.1 hs.2.1).1 (fun e => by injection e with e; omega)).trans hs.2.1, (hg'.block _ (Array.getElem?_eq_some_iff.1 hs.2.2).1 (fun e => by injection e with e; omega)).trans hs.2.2⟩)
      ?_ ⟨hI1, hL1, hK1⟩).mono ?_
    · rintro pre x rest W hxs ⟨hi, hl, hk⟩
      have hlt : w.heap.size + 1 < W.heap.size := (Array.getElem?_eq_some_iff.1 hl).1
      have hy := run_yield (P := P) (args := encs x) hl (by rw [hrec]; exact hps x)
      rw [hrec] at hy
      refine ⟨fn, _, assign, body, hy, roundIn_of_wpIn hfn (hassign _ x W _ ⟨_, run_beginRound hl (by rw [hrec]), ?_⟩)⟩
      have hl2 : (W.putObj (w.heap.size + 1) (.loop { rec .ready none with state := .busy })).heap[w.heap.size + 1]? = some (.loop { rec .ready none with state := .busy }) := World.putObj_heap_same hlt
      have hk2 : (W.putObj (w.heap.size + 1) (.loop { rec .ready none with state := .busy })).heap[w.heap.size]? = some (.deferred (some [])) := (World.putObj_heap_other (by omega)).trans hk
      have hw2 : Kp W (W.putObj (w.heap.size + 1) (.loop { rec .ready none with state := .busy })) := hKb _ _ _ _ (by omega) hl rfl rfl
      refine wpIn_mono (hbody _ pre x rest _ hxs (hI.putObj _ hi (by omega) hl rfl)) ?_
      have fin : ∀ (jump : Option Code) (W3 : World), KeepsOthers (W.putObj (w.heap.size + 1) (.loop { rec .ready none with state := .busy })) W3 →
          (Instr.endRound (w.heap.size + 1) jump).run P W3 = .ok (.bool jump.isNone) (W3.putObj (w.heap.size + 1) (.loop (rec (if jump.isNone then .ready else .done) jump))) ∧
          W3.heap[w.heap.size + 1]? = some (.loop { rec .ready none with state := .busy }) ∧
          (W3.putObj (w.heap.size + 1) (.loop (rec (if jump.isNone then .ready else .done) jump))).heap[w.heap.size + 1]? = some (.loop (rec (if jump.isNone then .ready else .done) jump)) ∧
          (W3.putObj (w.heap.size + 1) (.loop (rec (if jump.isNone then .ready else .done) jump))).heap[w.heap.size]? = some (.deferred (some [])) := fun jump W3 hk3 => by
        have hl3 := hk3.same _ _ hl2 rfl
        have := run_endRound (P := P) jump hl3
        rw [hrec] at this ⊢
        exact ⟨this, by rw [hrec] at hl3; exact hl3, World.putObj_heap_same (Array.getElem?_eq_some_iff.1 hl3).1, (World.putObj_heap_other (by omega)).trans (hk3.same _ _ hk2 rfl)⟩
      rintro e a3 W3 hp
      cases e with
      | normal =>
        obtain ⟨hk3, hkp3, hi3⟩ := hp
        obtain ⟨hr, hl3, hl4, hk4⟩ := fin none W3 hk3
        exact ⟨_, _, hr, rfl, ⟨hI.putObj _ hi3 (by omega) hl3 rfl, hl4, hk4⟩, hKt (hKt hw2 hkp3) (hKb _ _ _ _ (by omega) hl3 rfl rfl)⟩
      | ret => exact hp.elim
      | exit id => exact hp.elim
      | goto t => exact hp.elim
      | panic ch => exact hp.elim
      | outgrown => exact hp.elim
    · rintro e W2 ⟨⟨v, rfl⟩, hi, hl, hk⟩
      exact ⟨none, _, by have := run_endLoop (P := P) hl (by rw [hrec]; simp); rw [hrec] at this; exact this, hdone _ _ (Nat.le_refl _) (hI.putObj _ hi (by omega) hl rfl) ((World.putObj_heap_other (by omega)).trans hk)⟩

/-- What a round keeps: the blocks below N0 but b. -/
def KeptB (n b : Nat) (W W' : World) : Prop := W.heap.size ≤ W'.heap.size ∧ ∀ j, j < n → j ≠ b → W'.heap[j]? = W.heap[j]?
theorem KeptB.refl (n b : Nat) (W : World) : KeptB n b W W := ⟨Nat.le_refl _, fun _ _ _ => rfl⟩
theorem KeptB.trans {n b : Nat} {A B C : World} (h : KeptB n b A B) (k : KeptB n b B C) : KeptB n b A C := ⟨Nat.le_trans h.1 k.1, fun j hj hb => (k.2 j hj hb).trans (h.2 j hj hb)⟩
theorem KeptB.cell {n b : Nat} {W W' : World} (h : KeptB n b W W') {p : Addr} (hp : p.block < n) (hb : p.block ≠ b) : W'.cell? p = W.cell? p := World.cell?_of_block (h.2 _ hp hb)
theorem keptB_b {n b : Nat} {w : World} (hn : n ≤ w.heap.size) (W : World) (l : Nat) (o o' : Obj) (hl : w.heap.size ≤ l) (h : W.heap[l]? = some o) (_ : o.isCells = false) (_ : o.isWalk = false) : KeptB n b W (W.putObj l o') :=
  ⟨(grownBy_putObj' W l o').size, fun j hj _ => (grownBy_putObj' W l o').block j (by have := (Array.getElem?_eq_some_iff.1 h).1; omega) (fun e => by injection e with e; omega)⟩
/-- 'out = append(out, x)' where out lies in box B: behind the append and the store. -/
theorem box_app {α : Type} {E T : TypeId} {c : α → List Value} {k : Nat} {W w1 : World} {n0 N0 B : Nat} {v v' : Value} {xs ys : List α} {tmp : Obj} (hTE : T ≠ E) (hv : Boxed W B T v) (hrow : OwnF E c k W N0 v xs) (hn : n0 ≤ N0) (hN : N0 ≤ W.heap.size) (hB : n0 ≤ B)
    (hown' : OwnF E c k w1 N0 v' ys) (hgrow : (W.alloc tmp).grownBy w1 v.ownBlock) :
    Boxed w1 B T v ∧ Boxed (w1.setCell ⟨B, 0, none⟩ v') B T v' ∧ OwnF E c k (w1.setCell ⟨B, 0, none⟩ v') N0 v' ys ∧ KeepsOthers W (w1.setCell ⟨B, 0, none⟩ v') ∧ Below n0 W (w1.setCell ⟨B, 0, none⟩ v') ∧ KeptB N0 B W (w1.setCell ⟨B, 0, none⟩ v') := by
  obtain ⟨h1, h2, _, h4, h5⟩ := Boxed.appended (tmp := tmp) hv hTE (hrow.mono' hn) (Nat.le_trans hn hN) hB (hown'.mono' hn) hgrow
  have hs1 : W.heap.size ≤ w1.heap.size := Nat.le_trans (by simp) hgrow.size
  refine ⟨h1, h2, ?_, h4, h5, ?_, ?_⟩
  · exact World.ownsRow.kept hown' (grownBy_setCell' w1 B v') (.inr (h1.not_row hTE hown').symm)
  · exact Nat.le_trans hs1 (grownBy_setCell' w1 B v').size
  · intro j hj hb
    have e1 := (grownBy_setCell' w1 B v').block j (by omega) (fun e => hb (by injection e))
    have e2 := hgrow.block j (by simp; omega) (fun e => by
      have := (hrow.lt j e.symm).1
      omega)
    exact e1.trans (e2.trans (Below.heap_alloc W tmp j (by omega)))
end Go.Proofs.YtbhmdcdhklgomaaGreatDoor

/-
  sparse.runs: the iterator.
-/
namespace Go.Proofs.YtbhmdcdhklgomaaGreatDoor
open Go.RowKit Go.Shelf Top
attribute [local go_sem] Oper.semAt_some

theorem bx_drop (x : Bs) (a : Nat) : (⟨x.toArray⟩ : ByteArray).extract a (⟨x.toArray⟩ : ByteArray).size = ⟨(x.drop a).toArray⟩ := by
  apply ByteArray.ext
  rw [ByteArray.data_extract]
  apply Array.ext'
  simp only [Array.toList_extract, List.extract_eq_take_drop]
  exact List.take_of_length_le (by simp [ByteArray.size])
theorem bx_mid (s : Bs) (f g : Nat) : (⟨s.toArray⟩ : ByteArray).extract f g = ⟨((s.drop f).take (g - f)).toArray⟩ := by
  apply ByteArray.ext
  rw [ByteArray.data_extract]
  apply Array.ext'
  simp [List.extract_eq_take_drop]

theorem runsGo_hole (c : Bs) (f a b : Nat) (h : b < c.length) (hz : 32 ≤ zeros (c.drop b)) : runsGo c (f + 1) a b = ((c.drop a).take (b - a), zeros (c.drop b)) :: runsGo c f (b + zeros (c.drop b)) (b + zeros (c.drop b)) := by
  show (if b < c.length then _ else _) = _
  rw [if_pos h, if_pos hz]
theorem runsGo_data (c : Bs) (f a b : Nat) (h : b < c.length) (hz : ¬ 32 ≤ zeros (c.drop b)) : runsGo c (f + 1) a b = runsGo c f a (b + max (zeros (c.drop b)) 1) := by
  show (if b < c.length then _ else _) = _
  rw [if_pos h, if_neg hz]
theorem runsGo_end (c : Bs) (f a b : Nat) (h : ¬ b < c.length) : runsGo c (f + 1) a b = if a < c.length then [(c.drop a, 0)] else [] := by
  show (if b < c.length then _ else _) = _
  rw [if_neg h]

theorem runs_any (c : ByteArray) (w : World) :
    Calls Tryz.prog 151 #[.string c] w fun e w' => e = .returned (.func (.func 179) #[] #[.pointer (some ⟨w.heap.size, 0, none⟩)]) ∧ w' = w.alloc (.cells #[.string c] 9) := by
  go_enter Tryz.func151, Tryz.ntmps151
  go_wp2_with fail
  go_ret
  exact ⟨rfl, rfl⟩

set_option maxHeartbeats 4000000 in
set_option maxRecDepth 100000 in
theorem runs_box (n : Nat) (hn : 1 ≤ n) (N0 b B : Nat) (c : Bs) (w : World) (hN : N0 ≤ w.heap.size) (hB : B < N0 ∧ B ≠ b) (hc : w.cell? ⟨B, 0, none⟩ = some (.string ⟨c.toArray⟩)) (hl : c.length ≤ 1000000000) :
    SeqBox Fence.wide n Tryz.prog 179 #[.pointer (some ⟨B, 0, none⟩)] (fun x : Bs × Nat => #[.string ⟨x.1.toArray⟩, .int .i64 x.2]) (KeptB N0 b) B (runs c) w := fun l J W hW hJ hJb hY h0 => by
  have hc0 := (hW.cell (p := ⟨B, 0, none⟩) (by show B < _; omega)).trans hc
  have HY := Lib.hid hY
  have hD : ∀ a, (⟨c.toArray⟩ : ByteArray).extract a c.length = ⟨(c.drop a).toArray⟩ := fun a => bx_drop c a
  have HD := Lib.hid hD
  clear hD
  have HM := Lib.hid (bx_mid c)
  have HZ := Lib.hid (fun a X => zeros_any (c.drop a) X (by rw [List.length_drop]; omega))
  have HZL := Lib.hid (fun a => zeros_le (c.drop a))
  have hU : (⟨c.toArray⟩ : ByteArray).size = c.length := rfl
  generalize (⟨c.toArray⟩ : ByteArray) = U at *
  have H0 : Hid (runs c = [] ++ runsGo c (c.length + 1) 0 0) := rfl
  clear hY hc hW hJ hJb
  refine callsIn_of_wp Tryz.func179 rfl trivial ?_ rfl
  simp only [Tryz.ntmps179, List.size_toArray, List.length_cons, List.length_nil, Nat.reduceAdd, Nat.reduceSub, Array.replicate_succ, Array.replicate_zero, List.push_toArray, List.append_toArray, List.nil_append, List.cons_append]
  gi_wp2
  gi_loopw [3, 4] (fun s i wr => ∃ (a p f : Nat) (pre : List (Bs × Nat)), a ≤ p ∧ p ≤ c.length ∧ c.length < f + p ∧ s = .int .i64 a ∧ i = .int .i64 p ∧ Hid (runs c = pre ++ runsGo c f a p) ∧ J pre wr ∧ KeptB N0 b W wr) (fun _ i _ => c.length - (intOf i).toNat)
  case atStart => exact ⟨0, 0, c.length + 1, [], Nat.le_refl _, Nat.zero_le _, by omega, rfl, rfl, H0, h0, KeptB.refl _ _ _⟩
  case round =>
    obtain ⟨a, p, f, pre, hap, hp, hf, rfl, rfl, hruns, hJr, hkb⟩ := hrel
    have hcw := (hkb.cell (p := ⟨B, 0, none⟩) hB.1 hB.2).trans hc0
    obtain ⟨f, rfl⟩ : ∃ f', f = f' + 1 := ⟨f - 1, by omega⟩
    by_cases hlt : p < c.length
    · have hzl := HZL.out p
      rw [List.length_drop] at hzl
      have HQ := Lib.hid (HZ.out p wr)
      have HDp := Lib.hid (HD.out p)
      by_cases hz : 32 ≤ zeros (c.drop p)
      · have hr := hruns.out
        rw [runsGo_hole c f a p hlt hz] at hr
        generalize hzz : zeros (c.drop p) = z at *
        have hy := HY.out pre _ _ wr hr hJr
        obtain ⟨fn, tmps, assign, body, hy, hR⟩ := hy
        have HR : Hid (runs c = (pre ++ [((c.drop a).take (p - a), z)]) ++ runsGo c f (p + z) (p + z)) := by
          show _ = _
          rw [hr, List.append_assoc]
          rfl
        rw [← HM.out a p] at hy
        clear hr hzz
        gi_wp2
        rw [HDp.out]
        refine ⟨trivial, ?_⟩
        refine (callsIn_wide.2 HQ.out).mono ?_
        rintro e w' ⟨rfl, rfl⟩
        gi_wp2
        refine hR.mono ?_
        rintro e W3 ⟨rfl, hJ3, hk3⟩
        have hcw3 := (hk3.cell (p := ⟨B, 0, none⟩) hB.1 hB.2).trans hcw
        gi_wp2
        go_roundw
        case rel => exact ⟨p + z, p + z, f, pre ++ [_], Nat.le_refl _, by omega, by omega, by go_num, by go_num, HR, hJ3, hkb.trans hk3⟩
        case measure => simp [intOf]; omega
      · have hr := hruns.out
        rw [runsGo_data c f a p hlt hz] at hr
        generalize hzz : zeros (c.drop p) = z at *
        have HR := Lib.hid hr
        have hmx : max (z : Int) 1 = ((max z 1 : Nat) : Int) := by omega
        clear hr hzz
        gi_wp2
        rw [HDp.out]
        refine ⟨trivial, ?_⟩
        refine (callsIn_wide.2 HQ.out).mono ?_
        rintro e w' ⟨rfl, rfl⟩
        gi_wp2
        go_roundw
        case rel => exact ⟨a, p + max z 1, f, pre, by omega, by omega, by omega, rfl, by go_num, HR, hJr, hkb⟩
        case measure => simp [intOf]; omega
    · obtain rfl : p = c.length := by omega
      have hr := hruns.out
      rw [runsGo_end c f a c.length (by omega)] at hr
      by_cases ha : a < c.length
      · rw [if_pos ha] at hr
        have hy := HY.out pre _ _ wr hr hJr
        obtain ⟨fn, tmps, assign, body, hy, hR⟩ := hy
        rw [← HD.out a] at hy
        have hy : (Instr.yield l #[.string (U.extract a c.length), .int .i64 0]).run Tryz.prog wr = _ := hy
        have HR := Lib.hid hr
        clear hr
        gi_wp2
        refine hR.mono ?_
        rintro e W3 ⟨rfl, hJ3, hk3⟩
        gi_wp2
        go_end0
        rw [HR.out]
        exact ⟨⟨_, rfl⟩, hJ3⟩
      · rw [if_neg ha, List.append_nil] at hr
        have HR := Lib.hid hr
        clear hr
        gi_wp2
        go_end0
        rw [HR.out]
        exact ⟨⟨_, rfl⟩, hJr⟩
end Go.Proofs.YtbhmdcdhklgomaaGreatDoor
