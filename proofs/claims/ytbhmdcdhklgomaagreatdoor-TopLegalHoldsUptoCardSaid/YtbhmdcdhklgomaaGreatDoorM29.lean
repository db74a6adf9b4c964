/-
  session.record: its boxes, its parts.
-/
import Derived.Test.YtbhmdcdhklgomaaGreatDoorM27
import Derived.Test.YtbhmdcdhklgomaaGreatDoorM28
namespace Go.Proofs.YtbhmdcdhklgomaaGreatDoor
open Go.RowKit Top

/-- A change as a value. -/
def ChgV (w : World) (v : Value) (c : Change) : Prop := ∃ aa ac, v = .agg #[.int .i64 c.kind, .string ⟨c.path.toArray⟩, .slice aa c.attrs.length ac, .string ⟨c.target.toArray⟩, .string ⟨c.content.toArray⟩] ∧ Flat attrC 2 w (.slice aa c.attrs.length ac) c.attrs
theorem ChgV.below {w w' : World} {v : Value} {c : Change} (h : ChgV w v c) (hb : Below w.heap.size w w') : ChgV w' v c := by
  obtain ⟨aa, ac, h1, h2⟩ := h
  exact ⟨aa, ac, h1, h2.below hb⟩
theorem attrC_len (a : Top.Attr) : (attrC a).length = 2 := rfl
abbrev OwnA := OwnF 81 attrC 2
set_option maxHeartbeats 2000000 in
set_option maxRecDepth 100000 in
/-- slices.Clone of attributes, however many. -/
theorem clone_attrL (ao : Option Addr) (n c : Nat) (vss : List (List Value)) (w : World) (hr : Raw w ao 2 vss) (hn : n = vss.length) (h1 : ∀ vs ∈ vss, ∀ u ∈ vs, u.oneCell' = true) (hlen : n ≤ 16777216) :
    Calls Tryz.prog 91 #[.slice ao n c] w fun e w' => ∃ v, e = .returned v ∧ w'.ownsRow w.heap.size 81 2 v n vss.flatten ∧ Below w.heap.size w w' := by
  have qT := eql_nil_attr
  rcases ao with _ | ad
  · obtain rfl : vss = [] := by
      cases vss with
      | nil => rfl
      | cons y r =>
        obtain ⟨_, bk, o, e, _⟩ := hr 0 y rfl
        cases e
    obtain rfl : n = 0 := hn
    clear hr h1
    go_enter Tryz.func91, Tryz.ntmps91
    go_wp2_with fail
    go_ret
    exact ⟨_, rfl, World.ownsRow_nil _ _ _ _, Below.refl _ _⟩
  · have hbA := (Below.refl w.heap.size w).alloc (Nat.le_refl _) (.cells #[] 81)
    have HR := Lib.hid (hr.below hbA)
    have HM := Lib.hid (World.ownsRow_made (base := w.heap.size) (e := 81) (size := 2) w #[] 0 (Nat.le_refl _) (by simp [maxLen]) rfl)
    have HN := Lib.hid hn
    have HBA := Lib.hid hbA
    have hsz : w.heap.size ≤ (w.alloc (.cells #[] 81)).heap.size := by simp
    clear hr hbA hn
    go_enter Tryz.func91, Tryz.ntmps91
    go_wp2_with (at_builtin; refine wpList_appRaw 81 40 2 32 _ info_attr Tryz.underlying40 rfl (by decide) (by decide) rfl (.tmp 5) (.tmp 6) rfl w.heap.size _ 0 [] rfl HM.out _ _ _ vss rfl HR.out HN.out h1 (by omega) hsz ?_; intro v' w' ho hb _)
    go_ret
    rw [Nat.zero_add, List.nil_append] at ho
    exact ⟨_, rfl, ho, HBA.out.trans hb⟩
theorem cloneAttrs_any (v : Value) (l : List Top.Attr) (w : World) (hl : Flat attrC 2 w v l) (hn : l.length ≤ 16777216) :
    Calls Tryz.prog 91 #[v] w fun e w' => ∃ v', e = .returned v' ∧ OwnA w' w.heap.size v' l ∧ Below w.heap.size w w' := by
  obtain ⟨ao, cap, rfl, h2, h3, h4⟩ := hl
  refine (clone_attrL ao l.length cap (l.map attrC) w h4 (by simp) (fun vs hvs => ?_) hn).mono ?_
  · obtain ⟨c, _, rfl⟩ := List.mem_map.1 hvs
    intro u hu
    simp only [attrC, List.mem_cons, List.not_mem_nil, or_false] at hu
    rcases hu with rfl | rfl <;> rfl
  · rintro e w' ⟨v', rfl, ho, hb⟩
    refine ⟨v', rfl, ?_, hb⟩
    show w'.ownsRow _ _ _ _ _ (l.flatMap attrC)
    rw [List.flatMap_def]
    exact ho
theorem base_rec (w : World) (s0 s1 s2 c0 c1 c2 c3 c4 : Value) : ∃ W, (((w.alloc (.cells #[s0, s1, s2] 66)).alloc (.cells #[c0, c1, c2, c3, c4] 62)).alloc (.cells #[.int .i64 0, .string ⟨#[]⟩, .slice none 0 0, .string ⟨#[]⟩, .int .i64 0, .string ⟨#[]⟩, .slice none 0 0] 43)).alloc (.cells #[.slice none 0 0, .int .i64 0, .string ⟨#[]⟩] 66) = W ∧
    Below w.heap.size w W ∧ w.heap.size + 1 + 1 + 1 < W.heap.size ∧ W.heap[w.heap.size]? = some (.cells #[s0, s1, s2] 66 (0, 0)) ∧ W.heap[w.heap.size + 1]? = some (.cells #[c0, c1, c2, c3, c4] 62 (0, 0)) ∧
    W.heap[w.heap.size + 1 + 1]? = some (.cells #[.int .i64 0, .string ⟨#[]⟩, .slice none 0 0, .string ⟨#[]⟩, .int .i64 0, .string ⟨#[]⟩, .slice none 0 0] 43 (0, 0)) ∧ W.heap[w.heap.size + 1 + 1 + 1]? = some (.cells #[.slice none 0 0, .int .i64 0, .string ⟨#[]⟩] 66 (0, 0)) := by
  generalize (Obj.cells #[s0, s1, s2] 66) = A
  generalize (Obj.cells #[c0, c1, c2, c3, c4] 62) = B
  generalize (Obj.cells #[.int .i64 0, .string ⟨#[]⟩, .slice none 0 0, .string ⟨#[]⟩, .int .i64 0, .string ⟨#[]⟩, .slice none 0 0] 43) = C
  generalize (Obj.cells #[.slice none 0 0, .int .i64 0, .string ⟨#[]⟩] 66) = D
  have e0 := heap_alloc_new w A
  have e1 := heap_alloc_new (w.alloc A) B
  have e2 := heap_alloc_new ((w.alloc A).alloc B) C
  have e3 := heap_alloc_new (((w.alloc A).alloc B).alloc C) D
  have f1 := fun k o (h : (w.alloc A).heap[k]? = some o) => (Below.heap_alloc (w.alloc A) B k (Array.getElem?_eq_some_iff.1 h).1).trans h
  have f2 := fun k o (h : ((w.alloc A).alloc B).heap[k]? = some o) => (Below.heap_alloc ((w.alloc A).alloc B) C k (Array.getElem?_eq_some_iff.1 h).1).trans h
  have f3 := fun k o (h : (((w.alloc A).alloc B).alloc C).heap[k]? = some o) => (Below.heap_alloc (((w.alloc A).alloc B).alloc C) D k (Array.getElem?_eq_some_iff.1 h).1).trans h
  simp only [World.size_alloc] at e1 e2 e3
  exact ⟨_, rfl, ((((Below.refl _ w).alloc (Nat.le_refl _) _).alloc (by simp) _).alloc (by simp; omega) _).alloc (by simp; omega) _, by simp, f3 _ _ (f2 _ _ (f1 _ _ e0)), f3 _ _ (f2 _ _ e1), f3 _ _ e2, e3⟩
/-- What is turned but for one block. -/
def Oth (b : Nat) (w w' : World) : Prop := w.heap.size ≤ w'.heap.size ∧ ∀ j, j < w.heap.size → j ≠ b → w'.heap[j]? = w.heap[j]?
theorem Oth.of_grown {b : Nat} {w w' : World} (h : w.grownBy w' (some b)) : Oth b w w' := ⟨h.size, fun j hj hb => h.block j hj (fun e => hb (by injection e))⟩
theorem Oth.of_below {b : Nat} {w w' : World} (h : Below w.heap.size w w') : Oth b w w' := ⟨h.size, fun j hj _ => h.block j hj⟩
theorem Oth.trans {b : Nat} {u v w : World} (h : Oth b u v) (k : Oth b v w) : Oth b u w := ⟨Nat.le_trans h.1 k.1, fun j hj hb => (k.2 j (Nat.lt_of_lt_of_le hj h.1) hb).trans (h.2 j hj hb)⟩
theorem Oth.get {b j : Nat} {w w' : World} {o : Obj} (h : Oth b w w') (hj : w.heap[j]? = some o) (hb : j ≠ b) : w'.heap[j]? = some o := (h.2 j (Array.getElem?_eq_some_iff.1 hj).1 hb).trans hj
theorem set_grown {w : World} {b : Nat} : ∀ (l : List (Nat × Value)), w.grownBy (l.foldl (fun w x => w.setCell ⟨b, x.1, none⟩ x.2) w) (some b)
  | [] => ⟨rfl, rfl, rfl, Nat.le_refl _, fun _ _ _ => rfl⟩
  | x :: l => by
    have h1 : w.grownBy (w.setCell ⟨b, x.1, none⟩ x.2) (some b) := ⟨rfl, rfl, rfl, (KeepsWalks.setCell w _ x.2).size, fun k _ hk => Below.heap_setCell _ _ _ k (fun e => hk (by rw [e]))⟩
    have h2 := set_grown (w := w.setCell ⟨b, x.1, none⟩ x.2) (b := b) l
    exact ⟨h2.os.trans h1.os, h2.tape.trans h1.tape, h2.output.trans h1.output, Nat.le_trans h1.size h2.size, fun j hj hb => (h2.block j (Nat.lt_of_lt_of_le hj h1.size) hb).trans (h1.block j hj hb)⟩
/-- The turns of a box, as a world of its own. -/
theorem sets {w : World} {b : Nat} {cs : Array Value} {E : TypeId} (h : w.heap[b]? = some (.cells cs E (0, 0))) : ∀ (l : List (Nat × Value)),
    (l.foldl (fun w x => w.setCell ⟨b, x.1, none⟩ x.2) w).heap[b]? = some (.cells (l.foldl (fun c x => c.setIfInBounds x.1 x.2) cs) E (0, 0)) := by
  intro l
  induction l generalizing w cs with
  | nil => exact h
  | cons x l ih => exact ih (tset h x.2)
theorem far7 {w : World} {b c : Nat} (h : c ≠ b) (v0 v1 v2 v3 v4 v5 v6 : Value) (j : Nat) : (((((((w.setCell ⟨b, 0, none⟩ v0).setCell ⟨b, 1, none⟩ v1).setCell ⟨b, 2, none⟩ v2).setCell ⟨b, 3, none⟩ v3).setCell ⟨b, 4, none⟩ v4).setCell ⟨b, 5, none⟩ v5).setCell ⟨b, 6, none⟩ v6).cell? ⟨c, j, none⟩ = w.cell? ⟨c, j, none⟩ := by
  refine World.cell?_of_block ?_
  exact (heap_setCell_other _ ⟨b, 6, none⟩ c v6 h).trans ((heap_setCell_other _ ⟨b, 5, none⟩ c v5 h).trans ((heap_setCell_other _ ⟨b, 4, none⟩ c v4 h).trans ((heap_setCell_other _ ⟨b, 3, none⟩ c v3 h).trans ((heap_setCell_other _ ⟨b, 2, none⟩ c v2 h).trans ((heap_setCell_other _ ⟨b, 1, none⟩ c v1 h).trans (heap_setCell_other _ ⟨b, 0, none⟩ c v0 h))))))
theorem cell_set_other {w : World} {b c : Nat} (h : c ≠ b) (i j : Nat) (v : Value) : (w.setCell ⟨b, i, none⟩ v).cell? ⟨c, j, none⟩ = w.cell? ⟨c, j, none⟩ := by
  refine World.cell?_of_block ?_
  exact heap_setCell_other _ ⟨b, i, none⟩ c v h
theorem Oth.trans' {a b j : Nat} {u v w : World} {o : Obj} (h : Oth a u v) (k : Oth b v w) (hj : u.heap[j]? = some o) (ha : j ≠ a) (hb : j ≠ b) : w.heap[j]? = some o := k.get (h.get hj ha) hb
theorem Oth.keepC {b : Nat} {w w' : World} {cs : Array Value} {T : TypeId} {fr : Nat × Nat} {Ts : List TypeId} (h : Oth b w w') (hb : w.heap[b]? = some (.cells cs T fr)) (hT : T ∈ Ts) : KeepC Ts w w' :=
  ⟨h.1, fun j cs' T' fr' hj hT' => h.get hj (fun e => by
    subst e
    rw [hb] at hj
    injection hj with hj
    injection hj with _ h2 _
    subst h2
    exact hT' hT)⟩
/-- Three results, the first two structs in variables of their own. -/
theorem results_row2_tmp {P : Program} {fn : Func} {p u v : Tmp} {ty ty' : TypeId} (h : fn.results = #[.cell p ty, .cell u ty', .tmp v]) (tmps : Array Value) (w : World) (g g' : Nat) (t t' : TypeId) (cs cs' : Array Value) (fr fr' : Nat × Nat) (d d' : TypeDesc)
    (hp : tmps.getD p undef = .pointer (some ⟨g, 0, none⟩)) (hp' : tmps.getD u undef = .pointer (some ⟨g', 0, none⟩)) (hg : w.heap[g]? = some (.cells cs t fr)) (hg' : w.heap[g']? = some (.cells cs' t' fr')) (hu : P.underlying ty = some d) (hu' : P.underlying ty' = some d')
    (hd : (match d with | .struct _ | .array _ _ => true | _ => false) = true) (hd' : (match d' with | .struct _ | .array _ _ => true | _ => false) = true) (hi : (P.info? ty).map (·.size) = some cs.size) (hi' : (P.info? ty').map (·.size) = some cs'.size) :
    (results fn tmps).run P w = .ok (.tuple #[.agg cs, .agg cs', tmps.getD v undef]) w := by
  have e : (results fn tmps).run P w = ((asAddr (tmps.getD p undef)).run P w).andThen fun a w₁ => ((loadVar ty a).run P w₁).andThen fun x w₂ => ((asAddr (tmps.getD u undef)).run P w₂).andThen fun a' w₃ => ((loadVar ty' a').run P w₃).andThen fun x' w₄ => .ok (.tuple #[x, x', tmps.getD v undef]) w₄ := by
    simp only [results, h]
    simp [Sem.run_bind, Result.andThen]
  rw [e, hp]
  simp [asAddr, run_loadVar_row w g t ty cs fr d hg hu hd hi, run_loadVar_row w g' t' ty' cs' fr' d' hg' hu' hd' hi', hp', Result.andThen]
end Go.Proofs.YtbhmdcdhklgomaaGreatDoor
