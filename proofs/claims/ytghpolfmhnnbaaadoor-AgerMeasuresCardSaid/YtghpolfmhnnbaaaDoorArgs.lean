/-
  Arguments that are slices of integers; the row's last step, in which each argument reads as it did, whatever its type.
-/
import Derived.Below
import Derived.Carry
import Derived.ChangeSlices
import Derived.ChangeSame
import Derived.ProofKit
namespace Go.Proofs.YtghpolfmhnnbaaaDoor
open Go.RowKit Go.WideShapes Go.ChangeShapes Go.ChangeAt

/-- The value v is a slice that reads as the integers zs. -/
def IntsArg (w : World) (k : IntKind) (v : Value) (zs : List Int) : Prop :=
  ∃ ao cap, v = .slice ao zs.length cap ∧ zs.length ≤ cap ∧ cap ≤ maxLen ∧ (∀ i n, zs[i]? = some n → ∃ a, ao = some a ∧ w.cell? (a.add i) = some (.int k n)) ∧ ∀ n ∈ zs, (Lit.int k n).wf = true

theorem IntsArg.below {w w' : World} {k : IntKind} {v : Value} {zs : List Int} (h : IntsArg w k v zs) (hb : Below w.heap.size w w') : IntsArg w' k v zs := by
  obtain ⟨ao, cap, rfl, hl, hm, hc, hw⟩ := h
  refine ⟨ao, cap, rfl, hl, hm, fun i n hi => ?_, hw⟩
  obtain ⟨a, rfl, hcell⟩ := hc i n hi
  exact ⟨a, rfl, (hb.cell (World.block_lt_of_cell? _ _ hcell)).trans hcell⟩

section
variable {H : Type} {enc : TypeId × Value → H} {P : Program}

theorem intsArg_of {t e : TypeId} {k : IntKind} {W : World} {r : Reach} {b0 base : Nat} {v : Value} {d : DataW H} {ps : List MemPlace} (ht : P.underlying t = some (.slice e)) (he : P.underlying e = some (.int k)) (hc : P.cellsOf e = 1)
    (hval : Value.okWide P W r b0 t v) (h : DataW.Trod enc P W base (fun _ => true) true t v d ps) : ∃ zs, IntsArg W k v zs := by
  obtain ⟨a0, len0, cap0, rfl⟩ := okWide_slice ht hval
  obtain ⟨fuel, hf⟩ := h
  rcases open_ints ht he hc hf with ⟨hcs, _⟩ | ⟨a, len, cap, zs, hcs, _, hl, hm, hz, _, hcell, hw⟩
  · replace hcs : [Value.slice a0 len0 cap0] = _ := hcs
    simp only [List.cons.injEq, Value.slice.injEq, and_true] at hcs
    obtain ⟨rfl, rfl, rfl⟩ := hcs
    exact ⟨[], none, 0, rfl, Nat.le_refl _, Nat.zero_le _, fun i n hi => by simp at hi, fun n hn => by simp at hn⟩
  · replace hcs : [Value.slice a0 len0 cap0] = _ := hcs
    simp only [List.cons.injEq, Value.slice.injEq, and_true] at hcs
    obtain ⟨rfl, rfl, rfl⟩ := hcs
    rw [if_pos rfl] at hz
    have hlen : (zs.take len0).length = len0 := by rw [List.length_take]; omega
    refine ⟨zs.take len0, some a, cap0, by rw [hlen], by omega, hm, fun i n hi => ⟨a, rfl, ?_⟩, fun n hn => hw n (List.mem_of_mem_take hn)⟩
    have hil : i < len0 := by
      have := (List.getElem?_eq_some_iff.1 hi).1
      omega
    rw [List.getElem?_take, if_pos hil] at hi
    rw [hcell i (by omega), List.getD_eq_getElem?_getD, hi]
    rfl

theorem trodAll_stays {W W' : World} {base : Nat} {sp : Nat → Bool} (hl : laidOutB P = true) : ∀ {ts : List TypeId} {vs : List Value} {ds : List (DataW H)} {ps : List MemPlace}, (∀ t ∈ ts, P.readableRec t = true ∧ t < P.types.size) →
    DataW.TrodAll enc P W base (fun _ => true) true ts vs ds ps → (∀ p ∈ ps, W.sameAt W' p) → (∀ p ∈ ps, sp p.block = true) → DataW.TrodAll enc P W' base sp true ts vs ds ps
  | [], [], [], _, _, h, _, _ => h
  | _ :: _, _ :: _, _ :: _, _, hT, ⟨p, q, h1, h2, e⟩, hm, hs =>
    ⟨p, q, WideElems.Trod_stays hl (hT _ (List.mem_cons_self ..)).1 (hT _ (List.mem_cons_self ..)).2 h1 (fun x hx => hm x (by rw [e]; exact List.mem_append_left _ hx)) (fun x hx => hs x (by rw [e]; exact List.mem_append_left _ hx)),
      trodAll_stays hl (fun t ht => hT t (List.mem_cons_of_mem _ ht)) h2 (fun x hx => hm x (by rw [e]; exact List.mem_append_right _ hx)) (fun x hx => hs x (by rw [e]; exact List.mem_append_right _ hx)), e⟩

theorem post_of_reads {f : Func} {s : ChangeSpec} {apart fresh handsOn again : Bool} {W W' : World} {args : Array Value} {v : Value} {ds : List (DataW H)} {before : List MemPlace}
    (hl : laidOutB P = true) (hT : ∀ t ∈ f.params.toList, P.readableRec t = true ∧ t < P.types.size)
    (hW : DataW.Whole enc P f.params.toList s.vars apart W args.toList ds [] before) (hA : DataW.TrodAll enc P W 0 (fun _ => true) true f.params.toList args.toList ds before)
    (hargs : (s.fn H ds).args = ds) (hv0 : s.vars = []) (hv1 : (s.fn H ds).vars = [])
    (hres : ∀ (b : Nat) (sp : Nat → Bool) (hd : Bool), DataW.TrodAll enc P W' b sp hd f.resultTypes.toList (v.resultList f.resultTypes.size) (s.fn H ds).results [])
    (hb : Below W.heap.size W W')
    (hok : ∀ (j : Nat) (t : TypeId) (r : Value), f.resultTypes[j]? = some t → (v.resultList f.resultTypes.size)[j]? = some r → Value.okWide P W' .any 0 t r) :
    s.post enc P f apart fresh handsOn again W args v W' := by
  have hlt : ∀ p ∈ before, p.block < W.heap.size := fun p hp => hW.lt p hp
  have hsame : ∀ p ∈ before, W.sameAt W' p := fun p hp => hb.same (hlt p hp)
  have A : ∀ sp : Nat → Bool, (∀ p ∈ before, sp p.block = true) → DataW.TrodAll enc P W' 0 sp true f.params.toList args.toList (s.fn H ds).args before := fun sp hs => by
    rw [hargs]
    exact trodAll_stays hl hT hA hsame hs
  have V : ∀ sp : Nat → Bool, DataW.TrodVars enc P W' sp s.vars (s.fn H ds).vars [] := fun sp => by
    rw [hv0, hv1]
    rfl
  have hold : ∀ p ∈ before, (fun b => decide (b < W.heap.size)) p.block = true := fun p hp => by simpa using hlt p hp
  refine ⟨ds, [], before, [], before, [], hW, by rw [List.append_nil]; exact hres _ _ _, by rw [List.append_nil]; exact A _ hold, by rw [List.append_nil]; exact V _, World.keptBut_mono (fun p hp => ⟨hp, ?_⟩) (hb.frame (· ∈ before)), fun _ => ?_⟩
  · exact Or.inr (Or.inl hp)
  · obtain ⟨_, _, _, _, _, hz, hn⟩ := hW
    refine ⟨hok, _, _, ([] ++ before) ++ [], ⟨[] ++ before, [], trodAll_append (A _ (fun _ _ => rfl)) (hres _ _ _), V _, rfl, ?_, ?_⟩, ?_⟩
    · intro b off hp
      have hin : MemPlace.cell b off ∈ before := by simpa using hp
      rw [hb.frozen (hlt _ hin)]
      exact hz b off hin
    · intro ha
      simpa using hn ha
    · intro p hp _
      simpa using hp
end
end Go.Proofs.YtghpolfmhnnbaaaDoor
