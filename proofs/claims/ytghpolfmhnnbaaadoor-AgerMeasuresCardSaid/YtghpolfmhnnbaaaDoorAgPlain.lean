/-
  Plain mathematics of layer 59: actions, edits of pieces, plans. No program in sight.
-/
import Derived.Test.YtghpolfmhnnbaaaDoorAgReels
namespace Go.Proofs.YtghpolfmhnnbaaaDoor
open Go.RowKit

structure Dmg where
  kind : Int
  reel : Int
  piece : Int
  at_ : Int
  len : Int

/-- One element replaced by others. -/
def rep {α : Type} (l : List α) (i : Nat) (b : List α) : List α := l.take i ++ (b ++ l.drop (i + 1))
def inv1 (c : UInt8) : UInt8 := if c = 48 then 49 else if c = 49 then 48 else c
def inside (x : List UInt8) (d : Dmg) : Bool := decide (0 ≤ d.at_) && decide (d.at_ < x.length)
/-- A piece in which n cells from a on are overwritten. -/
def over (x : List UInt8) (a n : Nat) : List UInt8 := x.take a ++ (List.replicate n 49 ++ x.drop (a + n))
def burstN (x : List UInt8) (d : Dmg) : Nat := min d.len.toNat (x.length - d.at_.toNat)

/-- What replaces a piece. -/
def pieceE (d : Dmg) (x : List UInt8) : Option (List (List UInt8)) :=
  if d.kind = 1 then (if inside x d then some [rep x d.at_.toNat [63]] else none)
  else if d.kind = 2 then (if inside x d then some [rep x d.at_.toNat [inv1 (x.getD d.at_.toNat 0)]] else none)
  else if d.kind = 3 then some []
  else if d.kind = 5 then (if inside x d && decide (1 ≤ d.at_) then some [x.take d.at_.toNat, x.drop d.at_.toNat] else none)
  else if d.kind = 7 then some [x, x]
  else if d.kind = 8 then (if inside x d && decide (1 ≤ d.len) then some [over x d.at_.toNat (burstN x d)] else none)
  else none
/-- The pieces of a reel behind an action, where it changes them. -/
def edit (d : Dmg) (ps : List (List UInt8)) (p : Nat) (x : List UInt8) : Option (List (List UInt8)) :=
  if d.kind = 6 then (if 0 ≤ d.at_ ∧ d.at_ < ps.length then some ((ps.set p (ps.getD d.at_.toNat [])).set d.at_.toNat x) else none)
  else (pieceE d x).map (rep ps p)
def editP (d : Dmg) (ps : List (List UInt8)) : List (List UInt8) :=
  if 0 ≤ d.piece ∧ d.piece < ps.length then (edit d ps d.piece.toNat (ps.getD d.piece.toNat [])).getD ps else ps
/-- The reels behind an action. -/
def applyR (rs : List Reel) (d : Dmg) : List Reel :=
  if 0 ≤ d.reel ∧ d.reel < rs.length then
    (if d.kind = 4 then rs.eraseIdx d.reel.toNat
     else match rs[d.reel.toNat]? with
      | some r => rs.set d.reel.toNat ⟨r.num, editP d r.ps⟩
      | none => rs)
  else rs

/-! Plans. -/
def gS5 (s : Int) : Int := gS (gS (gS (gS (gS s))))
def pkKind (s : Int) : Int := 1 + modV (gV s) 8
def pkReel (n : Nat) (s : Int) : Int := modV (gV (gS s)) n
def pkPs (rs : List Reel) (s : Int) : List (List UInt8) := match rs[(pkReel rs.length s).toNat]? with
  | some r => r.ps
  | none => []
def pkPiece (n : Nat) (s : Int) : Int := modV (gV (gS (gS s))) n
def pkSize (ps : List (List UInt8)) (s : Int) : Nat := if pkKind s = 6 then ps.length else match ps[(pkPiece ps.length s).toNat]? with
  | some x => x.length
  | none => 0
def pkAt (n : Nat) (s : Int) : Int := modV (gV (gS (gS (gS s)))) n
def pkLen (s : Int) : Int := 1 + modV (gV (gS (gS (gS (gS s))))) 90
def dmgOf (rs : List Reel) (s : Int) : Dmg := ⟨pkKind s, pkReel rs.length s, pkPiece (pkPs rs s).length s, pkAt (pkSize (pkPs rs s) s) s, pkLen s⟩
def stK : Nat → Int → Int
  | 0, s => s
  | k + 1, s => gS5 (stK k s)
def plan (rs : List Reel) (n : Nat) (s : Int) : List Dmg := (List.range n).map fun k => dmgOf rs (stK k s)
theorem plan_succ (rs : List Reel) (n : Nat) (s : Int) : plan rs (n + 1) s = plan rs n s ++ [dmgOf rs (stK n s)] := by
  simp [plan, List.range_succ]
theorem plan_length (rs : List Reel) (n : Nat) (s : Int) : (plan rs n s).length = n := by simp [plan]
theorem plan_get (rs : List Reel) (n k : Nat) (s : Int) (h : k < n) : (plan rs n s)[k]? = some (dmgOf rs (stK k s)) := by
  simp [plan, h]
/-- How many actions. -/
def planN (n : Int) : Nat := if n ≤ 0 then 0 else if 1000 < n then 1000 else n.toNat

theorem pkKind_bd (s : Int) : 1 ≤ pkKind s ∧ pkKind s ≤ 8 := by
  have := modV_bd (gV s) 8
  unfold pkKind
  omega
theorem pkLen_bd (s : Int) : 1 ≤ pkLen s ∧ pkLen s ≤ 90 := by
  have := modV_bd (gV (gS (gS (gS (gS s))))) 90
  unfold pkLen
  omega
theorem pkReel_bd (n : Nat) (s : Int) : 0 ≤ pkReel n s ∧ pkReel n s ≤ n ∧ (0 < n → pkReel n s < n) := modV_bd _ _
theorem pkPiece_bd (n : Nat) (s : Int) : 0 ≤ pkPiece n s ∧ pkPiece n s ≤ n ∧ (0 < n → pkPiece n s < n) := modV_bd _ _
theorem pkAt_bd (n : Nat) (s : Int) : 0 ≤ pkAt n s ∧ pkAt n s ≤ n ∧ (0 < n → pkAt n s < n) := modV_bd _ _
theorem pkPs_some {rs : List Reel} {s : Int} {r : Reel} (h : rs[(pkReel rs.length s).toNat]? = some r) : pkPs rs s = r.ps := by
  unfold pkPs
  rw [h]
theorem pkPs_nil (s : Int) : pkPs [] s = [] := rfl
theorem pkSize_6 {ps : List (List UInt8)} {s : Int} (h : pkKind s = 6) : pkSize ps s = ps.length := by
  unfold pkSize
  rw [if_pos h]
theorem pkSize_some {ps : List (List UInt8)} {s : Int} {x : List UInt8} (h : pkKind s ≠ 6) (hx : ps[(pkPiece ps.length s).toNat]? = some x) : pkSize ps s = x.length := by
  unfold pkSize
  rw [if_neg h, hx]
theorem pkSize_none {s : Int} : pkSize [] s = 0 := by
  unfold pkSize
  split
  · rfl
  · rfl
end Go.Proofs.YtghpolfmhnnbaaaDoor
