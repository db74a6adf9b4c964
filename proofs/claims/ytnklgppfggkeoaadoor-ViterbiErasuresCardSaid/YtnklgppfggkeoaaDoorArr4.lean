/-
  An argument that is an array of four numbers.
-/
import Derived.Test.YtnklgppfggkeoaaDoorArgs
import Derived.Laws.IdiomArrays
namespace Go.Proofs.YtnklgppfggkeoaaDoor
open Go.RowKit Go.WideShapes Go.ChangeShapes Go.ChangeAt

section
variable {H : Type} {enc : TypeId × Value → H} {P : Program}
theorem arr4_of {t e : TypeId} {W : World} {r : Reach} {b0 base : Nat} {v : Value} {d : DataW H} {ps : List MemPlace} (ht : P.underlying t = some (.array 4 e)) (he : P.underlying e = some (.int .u16)) (hC : P.cellsOf t = 4) (hce : P.cellsOf e = 1)
    (hval : Value.okWide P W r b0 t v) (h : DataW.Trod enc P W base (fun _ => true) true t v d ps) :
    ∃ n0 n1 n2 n3 : Int, v = .agg #[.int .u16 n0, .int .u16 n1, .int .u16 n2, .int .u16 n3] ∧ (Lit.int .u16 n0).wf = true ∧ (Lit.int .u16 n1).wf = true ∧ (Lit.int .u16 n2).wf = true ∧ (Lit.int .u16 n3).wf = true := by
  have hcs : ∃ cs, v = .agg cs ∧ cs.size = P.cellsOf t := by
    simp only [Value.okWide, ht] at hval
    obtain ⟨cs, h1, h2, _⟩ := hval
    exact ⟨cs, h1, h2⟩
  obtain ⟨cs, rfl, hsz⟩ := hcs
  obtain ⟨l⟩ := cs
  match l, hsz.trans hC with
  | [c0, c1, c2, c3], _ =>
    obtain ⟨fuel, hf⟩ := h
    obtain ⟨y0, y1, y2, y3, n, _, h0, h1, h2, h3⟩ := trod_array4 ht hce hf
    obtain ⟨n0, e0, _, w0⟩ := DataW.trod_int he h0
    obtain ⟨n1, e1, _, w1⟩ := DataW.trod_int he h1
    obtain ⟨n2, e2, _, w2⟩ := DataW.trod_int he h2
    obtain ⟨n3, e3, _, w3⟩ := DataW.trod_int he h3
    injection e0 with e0
    injection e1 with e1
    injection e2 with e2
    injection e3 with e3
    subst e0
    subst e1
    subst e2
    subst e3
    exact ⟨n0, n1, n2, n3, rfl, w0, w1, w2, w3⟩
end
end Go.Proofs.YtnklgppfggkeoaaDoor
