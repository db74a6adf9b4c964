/-
  The reference's piece, the kinds that hold no cell of the piece fast: 3, 7.
-/
import Derived.Test.YtghpolfmhnnbaaaAgRBurst
namespace Go.Proofs.Ytghpolfmhnnbaaa
open Go.RowKit

/-- What piece answers. -/
def PieceP (r : Option (List (List UInt8))) (w : World) (e : Ending) (w' : World) : Prop :=
  ∃ v, e = .returned (.tuple #[v, .bool r.isSome]) ∧ (∀ q, r = some q → ∃ ap cp, v = .slice ap q.length cp ∧ q.length ≤ cp ∧ cp ≤ 65536 ∧ Strs w' ap q.length q) ∧ Below w.heap.size w w'

theorem lit0 (_x : List UInt8) (W : World) : Strs (W.alloc (.cells #[] 9)) (some ⟨W.heap.size, 0, none⟩) 0 [] := Strs.nil _ _
theorem lit2 (x : List UInt8) (W : World) : Strs (W.alloc (.cells #[.string ⟨x.toArray⟩, .string ⟨x.toArray⟩] 9)) (some ⟨W.heap.size, 0, none⟩) 2 [x, x] := strs_lit (bs := [x, x]) rfl (heap_alloc_new W _)

set_option maxHeartbeats 4000000 in
theorem rpiece_3 (x : List UInt8) (r p a l : Int) (w : World) :
    Calls Try.prog 24 #[.string ⟨x.toArray⟩, .agg #[.int .i64 3, .int .i64 r, .int .i64 p, .int .i64 a, .int .i64 l]] w (PieceP (pieceE ⟨3, r, p, a, l⟩ x) w) := by
  have hp : pieceE ⟨3, r, p, a, l⟩ x = some [] := rfl
  rw [hp]
  obtain ⟨W, hW, hbW, hzW, d0, d1, d2, d3, d4⟩ := dbox w 3 r p a l

  clear hp hzW
  have HF := Lib.hid (lit0 x W)
  generalize (⟨x.toArray⟩ : ByteArray) = U at *
  by_cases h0 : a < 0
  · have h1 : ¬ (0 ≤ a) := by omega
    go_enter Try.func24, Try.ntmps24
    go_wp2_with fail
    go_ret2
    exact ⟨_, rfl, (fun q hq => by injection hq with hq; subst hq; exact ⟨_, _, rfl, by simp, by simp, HF.out⟩), (hbW.alloc hbW.size _)⟩
  by_cases h1 : (U.size : Int) ≤ a
  · have h2 : 0 ≤ a := by omega
    go_enter Try.func24, Try.ntmps24
    go_wp2_with fail
    go_ret2
    exact ⟨_, rfl, (fun q hq => by injection hq with hq; subst hq; exact ⟨_, _, rfl, by simp, by simp, HF.out⟩), (hbW.alloc hbW.size _)⟩
  · have h2 : 0 ≤ a := by omega
    have h3 : a < (U.size : Int) := by omega
    go_enter Try.func24, Try.ntmps24
    go_wp2_with fail
    go_ret2
    exact ⟨_, rfl, (fun q hq => by injection hq with hq; subst hq; exact ⟨_, _, rfl, by simp, by simp, HF.out⟩), (hbW.alloc hbW.size _)⟩

set_option maxHeartbeats 4000000 in
theorem rpiece_7 (x : List UInt8) (r p a l : Int) (w : World) :
    Calls Try.prog 24 #[.string ⟨x.toArray⟩, .agg #[.int .i64 7, .int .i64 r, .int .i64 p, .int .i64 a, .int .i64 l]] w (PieceP (pieceE ⟨7, r, p, a, l⟩ x) w) := by
  have hp : pieceE ⟨7, r, p, a, l⟩ x = some [x, x] := rfl
  rw [hp]
  obtain ⟨W, hW, hbW, hzW, d0, d1, d2, d3, d4⟩ := dbox w 7 r p a l

  clear hp hzW
  have HF := Lib.hid (lit2 x W)
  generalize (⟨x.toArray⟩ : ByteArray) = U at *
  by_cases h0 : a < 0
  · have h1 : ¬ (0 ≤ a) := by omega
    go_enter Try.func24, Try.ntmps24
    go_wp2_with fail
    go_ret2
    exact ⟨_, rfl, (fun q hq => by injection hq with hq; subst hq; exact ⟨_, _, rfl, by simp, by simp, HF.out⟩), (hbW.alloc hbW.size _)⟩
  by_cases h1 : (U.size : Int) ≤ a
  · have h2 : 0 ≤ a := by omega
    go_enter Try.func24, Try.ntmps24
    go_wp2_with fail
    go_ret2
    exact ⟨_, rfl, (fun q hq => by injection hq with hq; subst hq; exact ⟨_, _, rfl, by simp, by simp, HF.out⟩), (hbW.alloc hbW.size _)⟩
  · have h2 : 0 ≤ a := by omega
    have h3 : a < (U.size : Int) := by omega
    go_enter Try.func24, Try.ntmps24
    go_wp2_with fail
    go_ret2
    exact ⟨_, rfl, (fun q hq => by injection hq with hq; subst hq; exact ⟨_, _, rfl, by simp, by simp, HF.out⟩), (hbW.alloc hbW.size _)⟩

theorem lit1 (y : List UInt8) (W : World) : Strs (W.alloc (.cells #[.string ⟨y.toArray⟩] 9)) (some ⟨W.heap.size, 0, none⟩) 1 [y] := strs_lit (bs := [y]) rfl (heap_alloc_new W _)

set_option maxHeartbeats 4000000 in
theorem rpiece_1 (x : List UInt8) (r p l : Int) (a : Nat) (w : World) (hx : x.length ≤ 65536) (ha : a < x.length) :
    Calls Try.prog 24 #[.string ⟨x.toArray⟩, .agg #[.int .i64 1, .int .i64 r, .int .i64 p, .int .i64 a, .int .i64 l]] w (PieceP (some [put x a 1 63]) w) := by
  have hsz : (⟨x.toArray⟩ : ByteArray).size = x.length := mk_size x
  obtain ⟨W, hW, hbW, hzW, d0, d1, d2, d3, d4⟩ := dbox w 1 r p a l
  have h2 : (0 : Int) ≤ (a : Int) := by omega
  have h3 : (a : Int) < ((⟨x.toArray⟩ : ByteArray).size : Int) := by omega
  have hc := rburst_any x a 1 1 63 W ha hx (by omega) (by omega)
  have HC := Lib.hid hc
  have HF := Lib.hid fun X : World => lit1 (put x a 1 63) X
  clear hsz hzW hc
  generalize (⟨x.toArray⟩ : ByteArray) = U at *
  generalize put x a 1 63 = y at *
  go_enter Try.func24, Try.ntmps24
  go_wp2_with fail
  refine HC.out.mono ?_
  rintro e w1 ⟨rfl, hb1⟩
  go_wp2_with fail
  go_ret2
  exact ⟨_, rfl, (fun q hq => by injection hq with hq; subst hq; exact ⟨_, _, rfl, by simp, by simp, HF.out w1⟩), ((hbW.trans (hb1.mono hbW.size)).alloc (Nat.le_trans hbW.size hb1.size) _)⟩

set_option maxHeartbeats 4000000 in
theorem rpiece_8 (x : List UInt8) (r p l : Int) (a : Nat) (w : World) (hx : x.length ≤ 65536) (ha : a < x.length) (hl : 1 ≤ l) (hl6 : l ≤ 9223372036854775807) (m : Nat) (hm : m = min l.toNat (x.length - a)) :
    Calls Try.prog 24 #[.string ⟨x.toArray⟩, .agg #[.int .i64 8, .int .i64 r, .int .i64 p, .int .i64 a, .int .i64 l]] w (PieceP (some [put x a m 49]) w) := by
  have hsz : (⟨x.toArray⟩ : ByteArray).size = x.length := mk_size x
  obtain ⟨W, hW, hbW, hzW, d0, d1, d2, d3, d4⟩ := dbox w 8 r p a l
  have h2 : (0 : Int) ≤ (a : Int) := by omega
  have h3 : (a : Int) < ((⟨x.toArray⟩ : ByteArray).size : Int) := by omega
  have hc := rburst_any x a m l 49 W ha hx hl6 hm
  have hc2 : (x.length : Int) < l → Calls Try.prog 40 #[.string ⟨x.toArray⟩, .int .i64 a, .int .i64 (x.length : Nat), .int .u8 49] W fun e w' => e = .returned (.string ⟨(put x a m 49).toArray⟩) ∧ Below W.heap.size W w' := fun h => rburst_any x a m (x.length : Nat) 49 W ha hx (by omega) (by omega)
  rw [← hsz] at hc2
  have HC := Lib.hid hc
  have HC2 := Lib.hid hc2
  have HF := Lib.hid fun X : World => lit1 (put x a m 49) X
  have hl0 : 0 < l := by omega
  clear hsz hzW hc hc2 hm
  generalize (⟨x.toArray⟩ : ByteArray) = U at *
  generalize put x a m 49 = y at *
  by_cases hbig : (U.size : Int) < l
  · go_enter Try.func24, Try.ntmps24
    go_wp2_with fail
    refine (HC2.out hbig).mono ?_
    rintro e w1 ⟨rfl, hb1⟩
    go_wp2_with fail
    go_ret2
    exact ⟨_, rfl, (fun q hq => by injection hq with hq; subst hq; exact ⟨_, _, rfl, by simp, by simp, HF.out w1⟩), ((hbW.trans (hb1.mono hbW.size)).alloc (Nat.le_trans hbW.size hb1.size) _)⟩
  · go_enter Try.func24, Try.ntmps24
    go_wp2_with fail
    refine HC.out.mono ?_
    rintro e w1 ⟨rfl, hb1⟩
    go_wp2_with fail
    go_ret2
    exact ⟨_, rfl, (fun q hq => by injection hq with hq; subst hq; exact ⟨_, _, rfl, by simp, by simp, HF.out w1⟩), ((hbW.trans (hb1.mono hbW.size)).alloc (Nat.le_trans hbW.size hb1.size) _)⟩
end Go.Proofs.Ytghpolfmhnnbaaa
