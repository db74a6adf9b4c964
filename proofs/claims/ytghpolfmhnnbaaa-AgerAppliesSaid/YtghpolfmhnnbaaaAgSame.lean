/-
  steleref59.SameReel.
-/
import Derived.Test.YtghpolfmhnnbaaaAgGreat
import Derived.BigQuiet
namespace Go.Proofs.Ytghpolfmhnnbaaa
open Go.RowKit

theorem blk_cell {w : World} {b : Nat} {cs : Array Value} {E : TypeId} {m : Nat × Nat} (h : w.heap[b]? = some (.cells cs E m)) (i : Nat) (v : Value) (hv : cs[i]? = some v) : w.cell? ⟨b, i, none⟩ = some v := by
  simp [World.cell?, h, hv]
theorem blk_alloc {W : World} {o x : Obj} {g : Nat} (h : W.heap[g]? = some x) : (W.alloc o).heap[g]? = some x := (Below.heap_alloc W o g (Array.getElem?_eq_some_iff.1 h).1).trans h

def reelC (n : Int) (a : Option Addr) (l c : Nat) : Obj := .cells #[.int .i64 n, .slice a l c] 38
theorem boxes (n1 n2 : Int) (a1 a2 : Option Addr) (l1 l2 c1 c2 : Nat) (w : World) : ∃ W, (w.alloc (.cells #[.int .i64 n1, .slice a1 l1 c1] 38)).alloc (.cells #[.int .i64 n2, .slice a2 l2 c2] 38) = W ∧ Below w.heap.size w W ∧
    W.cell? ⟨w.heap.size, 0, none⟩ = some (.int .i64 n1) ∧ W.cell? ⟨w.heap.size, 1, none⟩ = some (.slice a1 l1 c1) ∧ W.cell? ⟨w.heap.size + 1, 0, none⟩ = some (.int .i64 n2) ∧ W.cell? ⟨w.heap.size + 1, 1, none⟩ = some (.slice a2 l2 c2) := by
  have e0 := heap_alloc_new w (.cells #[.int .i64 n1, .slice a1 l1 c1] 38)
  have e1 := heap_alloc_new (w.alloc (.cells #[.int .i64 n1, .slice a1 l1 c1] 38)) (.cells #[.int .i64 n2, .slice a2 l2 c2] 38)
  have e2 := blk_alloc (o := .cells #[.int .i64 n2, .slice a2 l2 c2] 38) e0
  rw [World.size_alloc] at e1
  exact ⟨_, rfl, ((Below.refl _ w).alloc (Nat.le_refl _) _).alloc (by simp) _, blk_cell e2 0 _ rfl, blk_cell e2 1 _ rfl, blk_cell e1 0 _ rfl, blk_cell e1 1 _ rfl⟩

set_option maxHeartbeats 2000000 in
theorem samereel_any (a1 a2 : Option Addr) (c1 c2 : Nat) (n1 n2 : Int) (xs ys : List (List UInt8)) (w : World) (h1 : Strs w a1 xs.length xs) (h2 : Strs w a2 ys.length ys) (hn : xs.length ≤ 9223372036854775807) :
    Calls Try.prog 18 #[.agg #[.int .i64 n1, .slice a1 xs.length c1], .agg #[.int .i64 n2, .slice a2 ys.length c2]] w fun e w' => e = .returned (.bool ((n1 == n2) && (xs == ys))) ∧ Below w.heap.size w w' := by
  obtain ⟨W, hW, hb0, k0, k1, k2, k3⟩ := boxes n1 n2 a1 a2 xs.length ys.length c1 c2 w
  have s1 := h1.below hb0
  have s2 := h2.below hb0
  have hcc : Try.prog.cellsOf 38 = 2 := by kernel_rfl
  clear h1 h2
  by_cases hne : n1 = n2
  rotate_left
  · have hb : (n1 == n2) = false := beq_eq_false_iff_ne.2 hne
    have hb2 : (n1 != n2) = true := by rw [bne, hb]; rfl
    rw [hb, Bool.false_and]
    go_enter Try.func18, Try.ntmps18
    go_wp2_with fail
    go_ret
    exact ⟨rfl, hb0⟩
  subst hne
  rw [beq_self_eq_true, Bool.true_and]
  by_cases hl : xs.length = ys.length
  rotate_left
  · rw [beq_len hl]
    have hb2 : ((xs.length : Int) != (ys.length : Int)) = true := by rw [bne_iff_ne]; omega
    go_enter Try.func18, Try.ntmps18
    go_wp2_with fail
    go_ret
    exact ⟨rfl, hb0⟩
  have hne : ((xs.length : Int) != (ys.length : Int)) = false := by rw [bne_eq_false_iff_eq]; omega
  obtain ⟨E, hE⟩ : ∃ E, (xs == ys) = E := ⟨_, rfl⟩
  have HE := Lib.hid hE
  rw [hE]
  have HL := Lib.hid hl
  have H1 := Lib.hid s1.2
  have H2 := Lib.hid s2.2
  clear hE hl s1 s2
  go_enter Try.func18, Try.ntmps18
  go_wp2_with fail
  go_loopw [5] (fun i wr => ∃ k m : Nat, k ≤ xs.length ∧ i = .int .i64 k ∧ Hid ((xs.take k == ys.take k) = true) ∧ wr = W.drewN m) (fun i _ => xs.length - (intOf i).toNat)
  case atStart => exact ⟨0, 0, Nat.zero_le _, rfl, by show _ = true; simp, by first | exact hW | rfl⟩
  case round =>
    obtain ⟨k, m, hk, rfl, hok, rfl⟩ := hrel
    by_cases hlt : k < xs.length
    · have hlt2 : k < ys.length := by rw [← HL.out]; exact hlt
      obtain ⟨x, hx⟩ : ∃ x, xs[k]? = some x := ⟨_, List.getElem?_eq_getElem hlt⟩
      obtain ⟨y, hy⟩ : ∃ y, ys[k]? = some y := ⟨_, List.getElem?_eq_getElem hlt2⟩
      obtain ⟨b1, o1, rfl, hc1⟩ := H1.out k x hx
      obtain ⟨b2, o2, rfl, hc2⟩ := H2.out k y hy
      have HS := Lib.hid (take_beq hx hy)
      have HB := Lib.hid (str_beq x y)
      generalize (⟨x.toArray⟩ : ByteArray) = X at hc1 HB
      generalize (⟨y.toArray⟩ : ByteArray) = Y at hc2 HB
      clear hx hy
      cases hb : (X.toList == Y.toList)
      · go_wp2_with fail
        go_quiet (fail)
        go_wp2_with fail
        go_ret
        refine ⟨?_, below_drewN (below_drewN hb0 m) nq⟩
        rw [← HE.out, beq_of_take (k := k + 1) (by rw [HS.out, hok.out, ← HB.out, hb]; rfl)]
        rfl
      · go_wp2_with fail
        go_quiet (fail)
        go_wp2_with fail
        go_roundw
        case rel => exact ⟨k + 1, m + nq, by omega, by go_num, by show _ = true; rw [HS.out, hok.out, ← HB.out, hb]; rfl, by first | rfl | simp⟩
        case measure => simp [intOf]; omega
    · obtain rfl : k = xs.length := by omega
      have h := hok.out
      rw [List.take_length, HL.out, List.take_length] at h
      have H := Lib.hid h
      clear h
      go_wp2_with fail
      go_ret
      refine ⟨?_, below_drewN hb0 m⟩
      rw [← HE.out, H.out]
      rfl
end Go.Proofs.Ytghpolfmhnnbaaa
