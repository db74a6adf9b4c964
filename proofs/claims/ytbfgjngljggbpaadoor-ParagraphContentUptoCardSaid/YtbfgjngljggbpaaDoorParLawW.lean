/-
  Wrap and great at an argument that is a slice of strings.
-/
import Derived.Test.YtbfgjngljggbpaaDoorParBase
import Derived.Test.YtbfgjngljggbpaaDoorParLaws
namespace Go.Proofs.YtbfgjngljggbpaaDoor
open Go.RowKit

theorem wrapW (v : Value) (ws : List (List UInt8)) (wd : Nat) (w : World) (hW : Words w v ws) (h1 : 1 ≤ wd) :
    Calls Tryd.prog 7 #[v, .int .i64 wd] w fun e w' => ∃ v, e = .returned (.tuple #[v, .int .i64 (Par.perr ws wd)]) ∧ Own w' w.heap.size 9 v (strsL (parV ws wd)) ∧ Below w.heap.size w w' := by
  obtain ⟨ao, cap, rfl, _, _, hr, hb⟩ := hW
  have hn := bulkL_len ws
  refine wrap_any ao ws.length cap ws wd w hr (by omega) (fun x hx => Nat.le_trans (bulkL_mem hx) hb) fun _ => ?_
  have := Par.pieces_count (w := wd) h1 ws
  have e : ((wd : Int)).toNat = wd := by omega
  rw [e]
  have hb2 : (ws.map fun x => x.length + 1).sum ≤ 1048576 := hb
  omega
theorem greatW (v : Value) (ws : List (List UInt8)) (w : World) (hW : Words w v ws) :
    Calls Tryd.prog 5 #[v] w fun e w' => e = .returned (.bool (decide (800 < totalL ws))) ∧ w = w' := by
  obtain ⟨ao, cap, rfl, _, _, hr, hb⟩ := hW
  exact great_any ao ws.length cap ws w hr hb
theorem Words.below {w w' : World} {v : Value} {ws : List (List UInt8)} (h : Words w v ws) (hb : Below w.heap.size w w') : Words w' v ws := by
  obtain ⟨ao, cap, e, h1, h2, hr, h3⟩ := h
  exact ⟨ao, cap, e, h1, h2, hr.below hb, h3⟩
theorem width_of {z : Int} (h : (Lit.int .u8 z).wf = true) (m : Nat) (hm : 0 < m) (_hm2 : m ≤ 200) : ∃ wd : Nat, (z % m + 1 : Int) = wd ∧ 1 ≤ wd ∧ wd ≤ m ∧ ∃ n : Nat, z = n ∧ n < 256 := by
  obtain ⟨n, rfl, hn⟩ := u8_nat h
  have := Nat.mod_lt n hm
  exact ⟨n % m + 1, by omega, by omega, by omega, n, rfl, hn⟩
theorem perr_int (ws : List (List UInt8)) (wd : Nat) : Par.perr ws wd = 0 ∨ (Par.perr ws wd != 0) = true := by
  by_cases h : Par.perr ws wd = 0
  · exact .inl h
  · exact .inr (bne_iff_ne.2 h)

end Go.Proofs.YtbfgjngljggbpaaDoor
