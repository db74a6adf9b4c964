/-
  The edit of the kind 5: cut.
-/
import Derived.Test.YtghpolfmhnnbaaaDoorAgEd1
namespace Go.Proofs.YtghpolfmhnnbaaaDoor
open Go.RowKit

theorem mk_take (x : List UInt8) (a : Nat) : (⟨x.toArray⟩ : ByteArray).extract 0 a = ⟨(x.take a).toArray⟩ := by
  rw [ByteArray.extract_mk]
  simp
theorem mk_drop (x : List UInt8) (a : Nat) : (⟨x.toArray⟩ : ByteArray).extract a (⟨x.toArray⟩ : ByteArray).size = ⟨(x.drop a).toArray⟩ := by
  rw [ByteArray.extract_mk, mk_size]
  simp
  rw [List.take_of_length_le (by simp)]
theorem inside_iff (x : List UInt8) (k r p a l : Int) : inside x ⟨k, r, p, a, l⟩ = true ↔ 0 ≤ a ∧ a < x.length := by simp [inside]
theorem inside_not {x : List UInt8} {k r p a l : Int} (h : ¬ (0 ≤ a ∧ a < x.length)) : inside x ⟨k, r, p, a, l⟩ = false := by
  rw [← inside_iff x k r p a l] at h
  simpa using h
theorem edit5_no {ps : List (List UInt8)} {x : List UInt8} {r a l : Int} {p q : Nat} (h : a < 1 ∨ (x.length : Int) ≤ a) : edit ⟨5, r, p, a, l⟩ ps q x = none := by
  unfold edit pieceE
  rcases h with h | h
  · simp [inside]
    omega
  · simp [inside]
    omega
theorem edit5_yes {ps : List (List UInt8)} {x : List UInt8} {r l : Int} {p q a : Nat} (h1 : 1 ≤ a) (h2 : a < x.length) : edit ⟨5, r, p, a, l⟩ ps q x = some (rep ps q [x.take a, x.drop a]) := by
  unfold edit pieceE
  simp [inside]
  omega

set_option maxHeartbeats 2000000 in
set_option maxRecDepth 100000 in
theorem edit5_any (ao : Option Addr) (n cap p : Nat) (ps : List (List UInt8)) (x : List UInt8) (r a l : Int) (w : World) (h : EdArg w ao n cap ps p x) :
    Calls Tryd.prog 31 #[.slice ao n cap, .agg #[.int .i64 5, .int .i64 r, .int .i64 p, .int .i64 a, .int .i64 l]] w (EditP (edit ⟨5, r, p, a, l⟩ ps p x) w) := by
  have hlt := h.lt
  have hn6 := h.n6
  have hcap6 := h.cap6
  have hnc := h.nc
  have hx6 := h.x6
  obtain ⟨b1, o1, hao, hc1⟩ := h.st.2 p x h.get
  have HH := Lib.hid h
  clear h
  subst hao
  obtain ⟨W, hW, hbW, hzW, d0, d1, d2, d3, d4⟩ := dbox w 5 r p a l
  have hlt1 := World.block_lt_of_cell? _ _ hc1
  have hc2 := (hbW.cell (p := ⟨b1, o1 + p, none⟩) hlt1).trans hc1
  have hlw : w.heap.size < W.heap.size := by omega
  have hxs : (⟨x.toArray⟩ : ByteArray).size = x.length := mk_size x
  by_cases hin : 1 ≤ a ∧ a < x.length
  · obtain ⟨j, rfl⟩ : ∃ j : Nat, a = j := ⟨a.toNat, by omega⟩
    obtain ⟨h1, h2⟩ := hin
    have hed := edit5_yes (ps := ps) (x := x) (r := r) (l := l) (p := p) (q := p) (a := j) (by omega) (by omega)
    have HED := Lib.hid hed
    have hcall := rep_at HH.out hbW #[.string ((⟨x.toArray⟩ : ByteArray).extract 0 j), .string ((⟨x.toArray⟩ : ByteArray).extract j (⟨x.toArray⟩ : ByteArray).size)] [x.take j, x.drop j] (by rw [mk_take, mk_drop]; rfl) 2 rfl (by omega)
    have HC := Lib.hid hcall
    rw [← hxs] at h2 hx6
    clear hzW hcall hed hxs hc1
    generalize (⟨x.toArray⟩ : ByteArray) = Y at *
    have h3 : ¬ ((j : Int) < 1) := by omega
    have h4 : ¬ ((Y.size : Int) ≤ (j : Int)) := by omega
    have h5 : j ≤ Y.size := by omega
    have h6 : (j : Int) ≤ (Y.size : Int) := by omega
    go_enter Tryd.func31, Tryd.ntmps31
    go_wp2_with fail
    go_region_held3 (fun w' => w'.cell? ⟨w.heap.size, 2, none⟩ = some (.int .i64 p) ∧ w'.cell? ⟨w.heap.size, 3, none⟩ = some (.int .i64 j)) (first | go_keep | exact ⟨(hb2.cell (p := ⟨w.heap.size, 2, none⟩) hlw).trans d2, (hb2.cell (p := ⟨w.heap.size, 3, none⟩) hlw).trans d3⟩) ((go_at_call 30; refine HC.out.mono ?_; rintro e w1 ⟨v, rfl, ho, hb1, hb2⟩))
    go_wp2_with fail
    go_ret2
    rw [HED.out]
    exact ⟨v, rfl, fun q hq => by injection hq with hq; rw [← hq]; exact ho, hb1⟩
  · have hed := edit5_no (ps := ps) (x := x) (r := r) (a := a) (l := l) (p := p) (q := p) (by omega)
    have HED := Lib.hid hed
    rw [← hxs] at hin hx6
    clear hzW hed hxs hc1
    generalize (⟨x.toArray⟩ : ByteArray) = Y at *
    by_cases h1 : a < 1
    · go_enter Tryd.func31, Tryd.ntmps31
      go_wp2_with fail
      go_ret2
      rw [HED.out]
      exact ⟨_, rfl, (fun q hq => by cases hq), hbW⟩
    · have h2 : (Y.size : Int) ≤ a := by omega
      go_enter Tryd.func31, Tryd.ntmps31
      go_wp2_with fail
      go_ret2
      rw [HED.out]
      exact ⟨_, rfl, (fun q hq => by cases hq), hbW⟩
end Go.Proofs.YtghpolfmhnnbaaaDoor
