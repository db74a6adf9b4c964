/-
  The edits of the kinds 3, 5, 7.
-/
import Derived.Test.YtghpolfmhnnbaaaDoorAgRep
import Derived.Deep.RegionHeld3
namespace Go.Proofs.YtghpolfmhnnbaaaDoor
open Go.RowKit

def dmgV (d : Dmg) : Value := .agg #[.int .i64 d.kind, .int .i64 d.reel, .int .i64 d.piece, .int .i64 d.at_, .int .i64 d.len]
/-- What an edit hands back. -/
def EditP (r : Option (List (List UInt8))) (w : World) (e : Ending) (w' : World) : Prop :=
  ∃ v, e = .returned (.tuple #[v, .bool r.isSome]) ∧ (∀ q, r = some q → Own w' w.heap.size 9 v (strsL q)) ∧ Below w.heap.size w w'
/-- What is known of an edit's arguments. -/
structure EdArg (w : World) (ao : Option Addr) (n cap : Nat) (ps : List (List UInt8)) (p : Nat) (x : List UInt8) : Prop where
  st : Strs w ao n ps
  get : ps[p]? = some x
  nc : n ≤ cap
  n6 : n ≤ 65536
  cap6 : cap ≤ 9223372036854775807
  x6 : x.length ≤ 65536
theorem EdArg.lt {w : World} {ao : Option Addr} {n cap : Nat} {ps : List (List UInt8)} {p : Nat} {x : List UInt8} (h : EdArg w ao n cap ps p x) : p < n := by
  rw [h.st.1]
  exact (List.getElem?_eq_some_iff.1 h.get).1
theorem dbox (w : World) (k r p a l : Int) : ∃ W, w.alloc (.cells #[.int .i64 k, .int .i64 r, .int .i64 p, .int .i64 a, .int .i64 l] 31) = W ∧ Below w.heap.size w W ∧ W.heap.size = w.heap.size + 1 ∧
    W.cell? ⟨w.heap.size, 0, none⟩ = some (.int .i64 k) ∧ W.cell? ⟨w.heap.size, 1, none⟩ = some (.int .i64 r) ∧ W.cell? ⟨w.heap.size, 2, none⟩ = some (.int .i64 p) ∧ W.cell? ⟨w.heap.size, 3, none⟩ = some (.int .i64 a) ∧ W.cell? ⟨w.heap.size, 4, none⟩ = some (.int .i64 l) := by
  have h := heap_alloc_new w (.cells #[.int .i64 k, .int .i64 r, .int .i64 p, .int .i64 a, .int .i64 l] 31)
  exact ⟨_, rfl, (Below.refl _ w).alloc (Nat.le_refl _) _, by simp, blk_cell h 0 _ rfl, blk_cell h 1 _ rfl, blk_cell h 2 _ rfl, blk_cell h 3 _ rfl, blk_cell h 4 _ rfl⟩

theorem strs_lit {X : World} {g : Nat} {cs : Array Value} {bs : List (List UInt8)} {m : Nat × Nat} (hcs : cs.toList = strsL bs) (h : X.heap[g]? = some (.cells cs 9 m)) : Strs X (some ⟨g, 0, none⟩) bs.length bs :=
  ⟨rfl, fun j y hj => ⟨_, _, rfl, by
    rw [Nat.zero_add]
    refine blk_cell h j _ ?_
    rw [← Array.getElem?_toList, hcs]
    exact strsL_get bs j y hj⟩⟩
/-- The call of replace whose new pieces have just been laid, behind a draw. -/
theorem rep_at {w X : World} {ao : Option Addr} {n cap p : Nat} {ps : List (List UInt8)} {x : List UInt8} (h : EdArg w ao n cap ps p x) (hX : Below w.heap.size w X) (cs : Array Value) (bs : List (List UInt8)) (hcs : cs.toList = strsL bs) (m : Nat) (hm : bs.length = m) (hm6 : m ≤ 65536) :
    Calls Tryd.prog 30 #[.slice ao n cap, .int .i64 p, .slice (some ⟨X.heap.size, 0, none⟩) m m] (X.alloc (.cells cs 9)).drew fun e w' => ∃ v, e = .returned v ∧ Own w' w.heap.size 9 v (strsL (rep ps p bs)) ∧ Below w.heap.size w w' ∧ Below X.heap.size X w' := by
  subst hm
  have hb2 : Below X.heap.size X (X.alloc (.cells cs 9)).drew := ((Below.refl X.heap.size X).alloc (Nat.le_refl _) _).drew
  have hk : (X.alloc (.cells cs 9)).drew.heap[X.heap.size]? = some (.cells cs 9 (0, 0)) := heap_alloc_new X _
  have hz : (X.alloc (.cells cs 9)).drew.heap.size = X.heap.size + 1 := by show (X.alloc _).heap.size = _; simp
  have hs := hX.size
  refine (replace_any ao _ n cap bs.length bs.length p ps bs _ ((h.st.below hX).below hb2) (strs_lit hcs hk) h.lt h.nc h.n6 hm6 h.cap6).mono ?_
  rintro e w1 ⟨v, rfl, ho, hb1⟩
  exact ⟨v, rfl, ho.more (by omega), (hX.trans (hb2.mono hs)).trans (hb1.mono (by omega)), hb2.trans (hb1.mono (by omega))⟩

set_option maxHeartbeats 1000000 in
set_option maxRecDepth 100000 in
theorem edit3_any (ao : Option Addr) (n cap p : Nat) (ps : List (List UInt8)) (x : List UInt8) (k r a l : Int) (w : World) (h : EdArg w ao n cap ps p x) (hk : k = 3) :
    Calls Tryd.prog 29 #[.slice ao n cap, .agg #[.int .i64 k, .int .i64 r, .int .i64 p, .int .i64 a, .int .i64 l]] w (EditP (edit ⟨k, r, p, a, l⟩ ps p x) w) := by
  have hlt := h.lt
  have hn6 := h.n6
  have hcap6 := h.cap6
  have hnc := h.nc
  have hed : edit ⟨k, r, p, a, l⟩ ps p x = some (rep ps p []) := by rw [hk]; rfl
  have HED := Lib.hid hed
  have HH := Lib.hid h
  clear hed h hk
  go_enter Tryd.func29, Tryd.ntmps29
  go_wp2_with fail
  have hb0 := (Below.refl w.heap.size w).alloc (Nat.le_refl _) (.cells #[.int .i64 k, .int .i64 r, .int .i64 p, .int .i64 a, .int .i64 l] 31)
  refine (replace_any ao none n cap 0 0 p ps [] _ (HH.out.st.below hb0) (Strs.nil _ _) hlt hnc hn6 (by omega) hcap6).mono ?_
  rintro e w1 ⟨v, rfl, ho, hb1⟩
  go_wp2_with fail
  go_ret2
  rw [HED.out]
  exact ⟨v, rfl, fun q hq => by injection hq with hq; rw [← hq]; exact ho.more (by simp), hb0.trans (hb1.mono (by simp))⟩

set_option maxHeartbeats 2000000 in
set_option maxRecDepth 100000 in
theorem edit7_any (ao : Option Addr) (n cap p : Nat) (ps : List (List UInt8)) (x : List UInt8) (k r a l : Int) (w : World) (h : EdArg w ao n cap ps p x) (hk : k = 7) :
    Calls Tryd.prog 33 #[.slice ao n cap, .agg #[.int .i64 k, .int .i64 r, .int .i64 p, .int .i64 a, .int .i64 l]] w (EditP (edit ⟨k, r, p, a, l⟩ ps p x) w) := by
  have hlt := h.lt
  have hn6 := h.n6
  have hcap6 := h.cap6
  have hnc := h.nc
  have hed : edit ⟨k, r, p, a, l⟩ ps p x = some (rep ps p [x, x]) := by rw [hk]; rfl
  obtain ⟨b1, o1, hao, hc1⟩ := h.st.2 p x h.get
  have HED := Lib.hid hed
  have HH := Lib.hid h
  clear hed h hk
  subst hao
  obtain ⟨W, hW, hbW, hzW, d0, d1, d2, d3, d4⟩ := dbox w k r p a l
  have hlt1 := World.block_lt_of_cell? _ _ hc1
  have hc2 := (hbW.cell (p := ⟨b1, o1 + p, none⟩) hlt1).trans hc1
  clear hc1
  go_enter Tryd.func33, Tryd.ntmps33
  go_wp2_with fail
  have hcall := rep_at HH.out hbW #[.string ⟨x.toArray⟩, .string ⟨x.toArray⟩] [x, x] rfl 2 rfl (by omega)
  have HC := Lib.hid hcall
  have hlw : w.heap.size < W.heap.size := by omega
  have hlx : b1 < W.heap.size := by omega
  clear hzW hcall
  go_region_held3 (fun w' => w'.cell? ⟨w.heap.size, 2, none⟩ = some (.int .i64 p) ∧ w'.cell? ⟨b1, o1 + p, none⟩ = some (.string ⟨x.toArray⟩)) (first | go_keep | exact ⟨(hb2.cell (p := ⟨w.heap.size, 2, none⟩) hlw).trans d2, (hb2.cell (p := ⟨b1, o1 + p, none⟩) hlx).trans hc2⟩) ((go_at_call 30; refine HC.out.mono ?_; rintro e w1 ⟨v, rfl, ho, hb1, hb2⟩))
  go_wp2_with fail
  go_ret2
  rw [HED.out]
  exact ⟨v, rfl, fun q hq => by injection hq with hq; rw [← hq]; exact ho, hb1⟩
end Go.Proofs.YtghpolfmhnnbaaaDoor
