/-
  Reels in memory, as they are read.
-/
import Derived.Test.YtghpolfmhnnbaaaDoorAgGen
import Derived.Test.YtghpolfmhnnbaaaDoorStrs
namespace Go.Proofs.YtghpolfmhnnbaaaDoor
open Go.RowKit

structure Reel where
  num : Int
  ps : List (List UInt8)

/-- A slice of reels that is read: two cells a reel. -/
def Reels (w : World) (ao : Option Addr) (n : Nat) (rs : List Reel) : Prop :=
  n = rs.length ∧ ∀ (j : Nat) (r : Reel), rs[j]? = some r → ∃ bk o, ao = some ⟨bk, o, none⟩ ∧ w.cell? ⟨bk, o + j * 2, none⟩ = some (.int .i64 r.num) ∧
    ∃ ap cp, w.cell? ⟨bk, o + j * 2 + 1, none⟩ = some (.slice ap r.ps.length cp) ∧ r.ps.length ≤ cp ∧ Strs w ap r.ps.length r.ps
section
variable {w w' : World} {n : Nat} {ao : Option Addr} {rs : List Reel}
theorem Reels.below (h : Reels w ao n rs) (hb : Below w.heap.size w w') : Reels w' ao n rs := by
  refine ⟨h.1, fun j r hj => ?_⟩
  obtain ⟨bk, o, rfl, h1, ap, cp, h2, h3, h4⟩ := h.2 j r hj
  exact ⟨bk, o, rfl, (hb.cell (p := ⟨bk, o + j * 2, none⟩) (World.block_lt_of_cell? _ _ h1)).trans h1, ap, cp, (hb.cell (p := ⟨bk, o + j * 2 + 1, none⟩) (World.block_lt_of_cell? _ _ h2)).trans h2, h3, h4.below hb⟩
theorem Reels.nil (w : World) (ao : Option Addr) : Reels w ao 0 [] := ⟨rfl, fun j x h => by simp at h⟩
theorem Reels.drewN (h : Reels w ao n rs) (q : Nat) : Reels (w.drewN q) ao n rs := h
end

/-- What Great asks. -/
def smallP (ps : List (List UInt8)) : Bool := decide (ps.length ≤ 6) && ps.all fun x => decide (x.length ≤ 200)
def smallR (rs : List Reel) : Bool := decide (rs.length ≤ 6) && rs.all fun r => smallP r.ps
end Go.Proofs.YtghpolfmhnnbaaaDoor
