/-
  The walks of interleave.permute with its two orders, Interleave and Deinterleave.
-/
import Derived.Test.YtknppmfnmbkebaaDoorItInterIndex
namespace Go.Proofs.YtknppmfnmbkebaaDoor.It
open Go.RowKit

theorem close_inter (a b : Int) (w : World) :
    Calls Tryd.prog 39 #[.int .i64 a, .int .i64 b] w fun e w' => e = .returned (.tuple #[.int .i64 a, .int .i64 b]) ∧ w = w' := by
  go_enter Tryd.func39, Tryd.ntmps39
  go_wp2_with fail
  go_ret2
  exact ⟨rfl, rfl⟩
/-- After k rounds of Interleave, and of Deinterleave. -/
def InterRel (s : ByteArray) (r k : Nat) (l : List UInt8) : Prop := ∀ j, j < k → l[Inter.idx s.size r j]? = s.data.toList[j]?
def DeinterRel (s : ByteArray) (r k : Nat) (l : List UInt8) : Prop := ∀ j, j < k → l[j]? = s.data.toList[Inter.idx s.size r j]?

def PermRel (w : World) (s : ByteArray) (R : Nat → List UInt8 → Prop) (c : Value) (wr : World) : Prop :=
  ∃ (k : Nat) (l : List UInt8), k ≤ s.size ∧ c = .int .i64 k ∧ l.length = s.size ∧ R k l ∧ BytesAt wr w.heap.size l ∧ Below w.heap.size w wr

theorem InterRel.step {s : ByteArray} {r k : Nat} {l : List UInt8} (h : InterRel s r k l) (hl : l.length = s.size) (hr : 1 ≤ r) (hk : k < s.size) : InterRel s r (k + 1) (l.set (Inter.idx s.size r k) s[k]) := by
  intro j hj
  have hix := Inter.idx_lt s.size r k (by omega) hk
  by_cases e : j = k
  · subst e
    rw [List.getElem?_set_self (by omega), get_of_lt s j hk]
  · rw [List.getElem?_set_ne (fun e' => e (Inter.idx_inj s.size r k j (by omega) hk (by omega) e').symm)]
    exact h j (by omega)
theorem DeinterRel.step {s : ByteArray} {r k : Nat} {l : List UInt8} (h : DeinterRel s r k l) (hl : l.length = s.size) (hk : k < s.size) (hix : Inter.idx s.size r k < s.size) : DeinterRel s r (k + 1) (l.set k s[Inter.idx s.size r k]) := by
  intro j hj
  by_cases e : j = k
  · subst e
    rw [List.getElem?_set_self (by omega), get_of_lt s _ hix]
  · rw [List.getElem?_set_ne (fun e' => e e'.symm)]
    exact h j (by omega)
theorem InterRel.fin {s : ByteArray} {r : Nat} {l : List UInt8} (h : InterRel s r s.size l) (hl : l.length = s.size) (hr : 1 ≤ r) : l = Inter.inter s.data.toList r :=
  Inter.inter_only _ _ r (by omega) (by rw [hl, toList_length]) fun i hi => by rw [toList_length] at hi ⊢; exact h i hi
theorem DeinterRel.fin {s : ByteArray} {r : Nat} {l : List UInt8} (h : DeinterRel s r s.size l) (hl : l.length = s.size) (hr : 1 ≤ r) : l = Inter.deinter s.data.toList r :=
  Inter.deinter_only _ _ r (by omega) (by rw [hl, toList_length]) fun i hi => by rw [toList_length] at hi ⊢; exact h i hi

theorem PermRel.step {w wr : World} {s : ByteArray} {R : Nat → List UInt8 → Prop} {k i m : Nat} {l : List UInt8} {c : UInt8} {B : Nat} (hB : B = w.heap.size) (hl : l.length = s.size) (hk : k < s.size) (hi : i < s.size) (hR : R (k + 1) (l.set i c)) (h : BytesAt wr B l) (hb : Below B w wr) :
    PermRel w s R (.int .i64 (↑k + 1)) ((wr.drewN m).setCell ⟨B, i, none⟩ (.int .u8 c.toNat)) := by
  subst hB
  exact ⟨k + 1, l.set i c, by omega, by go_num, by rw [List.length_set, hl], hR, (h.drewN m).store i c (by omega), (below_drewN hb m).setCell (by simp) _⟩

set_option maxHeartbeats 400000 in
theorem permute_inter (s : ByteArray) (r : Nat) (w : World) (hr : 1 ≤ r) (hs : s.size ≤ 65536) (hr2 : r ≤ 9223372036854775807) :
    Calls Tryd.prog 38 #[.string s, .int .i64 r, .func (.func 39) #[] #[]] w fun e w' => e = .returned (.tuple #[.string ⟨(Inter.inter s.data.toList r).toArray⟩, .int .i64 0]) ∧ Below w.heap.size w w' := by
  have hmk := run_make_row' (P := Tryd.prog) 35 5 (.int .u8 0) 1 Tryd.underlying35 info_u8 rfl .i64 .i64 s.size (by omega) (by omega)
  go_enter Tryd.func38, Tryd.ntmps38
  go_wp2_with fail
  go_loopw [19] (fun c wr => PermRel w s (InterRel s r) c wr) (fun c _ => s.size - (intOf c).toNat)
  case atStart => exact ⟨0, List.replicate s.size 0, by omega, rfl, List.length_replicate, fun j hj => by omega, BytesAt.made _ _, (Below.refl _ _).alloc (Nat.le_refl _) _⟩
  case round =>
    obtain ⟨k, l, hk, rfl, hl, hR, hB, hb⟩ := hrel
    by_cases hlt : k < s.size
    · have hix := Inter.idx_lt s.size r k (by omega) hlt
      have hcell := hB.cell (Inter.idx s.size r k) (by omega)
      have hfr := hB.frozen (Inter.idx s.size r k)
      go_wp2_with (first
        | (go_at_call 49; refine (index_nat k s.size r _ hr hlt (by omega) hr2).mono ?_; rintro e w1 ⟨rfl, m1, rfl⟩)
        | (go_at_call 39; refine (close_inter _ _ _).mono ?_; rintro e w1 ⟨rfl, rfl⟩))
      go_roundw
      case rel => exact PermRel.step rfl hl hlt (by omega) (hR.step hl hr hlt) hB hb
      case measure => simp [intOf]; omega
    · have hcv := conv_bytes hB s.size s.size hl
      go_wp2_with fail
      go_ret2
      obtain rfl : k = s.size := by omega
      exact ⟨ret_str2 (hR.fin hl hr), hb⟩

end Go.Proofs.YtknppmfnmbkebaaDoor.It
