/-
  The walks of the reference: Order, Interleave, Deinterleave.
-/
import Derived.Test.YtkeknmncbncgkaaInterTop
import Derived.Test.YtkeknmncbncgkaaOwn
import Derived.Deep.LoopGhost
import Derived.RegionTactic
import Derived.BigRegion
namespace Go.Proofs.Ytkeknmncbncgkaa
open Go.RowKit

theorem info_int : (Try.prog.info? 3).map (fun i => (i.zero, i.size, i.bytes)) = some (some (.int .i64 0), 1, 8) := by kernel_rfl

theorem Inter.cnt_of (n r p q : Nat) (hp : p < r) (h : q * r + p < n) : q < Inter.cnt n r p := by
  have := Inter.lt_cnt n r (q * r + p) (by omega) h
  rwa [Inter.split_mod r p q hp, Inter.split_div r p q hp] at this

/-- The part of a row of which q positions are listed. -/
def Inter.part (n r p q : Nat) : List Nat := Inter.rows n r p ++ (List.range q).map fun q => q * r + p
theorem Inter.part_succ (n r p q : Nat) : Inter.part n r p q ++ [q * r + p] = Inter.part n r p (q + 1) := by
  simp [Inter.part, List.range_succ]
theorem Inter.part_full (n r p : Nat) : Inter.part n r p (Inter.cnt n r p) = Inter.rows n r (p + 1) := rfl
theorem Inter.part_length (n r p q : Nat) (hp : p < r) (hq : q ≤ Inter.cnt n r p) : (Inter.part n r p q).length ≤ n := by
  have h1 := Inter.start_succ n r p
  have h2 := Inter.start_le n r (p + 1) (by omega) (by omega)
  simp only [Inter.part, List.length_append, Inter.rows_length, List.length_map, List.length_range]
  omega

def OrdOuter (w : World) (n r p : Nat) (out i : Value) (wr : World) : Prop :=
  p ≤ min r n ∧ i = .int .i64 p ∧ Own wr w.heap.size 3 out (natsL (Inter.rows n r p)) ∧ Below w.heap.size w wr
def OrdInner (w : World) (n r p q : Nat) (out i : Value) (wr : World) : Prop :=
  q ≤ Inter.cnt n r p ∧ i = .int .i64 (q * r + p : Nat) ∧ q * r + p ≤ n ∧ Own wr w.heap.size 3 out (natsL (Inter.part n r p q)) ∧ Below w.heap.size w wr

theorem Inter.own_app {w' : World} {B n r p q : Nat} {v : Value} (h : Own w' B 3 v (natsL (Inter.part n r p q) ++ [Value.int .i64 ((q : Int) * r + p)])) : Own w' B 3 v (natsL (Inter.part n r p (q + 1))) := by
  have e : ((q : Int) * r + p) = ((q * r + p : Nat) : Int) := by simp
  rwa [e, natsL_snoc, Inter.part_succ] at h
theorem Inter.next_eq (q r p : Nat) : ((q : Int) * r + p + r) = (((q + 1) * r + p : Nat) : Int) := by
  rw [Nat.succ_mul]
  simp
  omega
theorem Inter.next_le (q r p n : Nat) (h : q * r + p + r ≤ n) : (q + 1) * r + p ≤ n := by
  rw [Nat.succ_mul]
  omega
/-- Behind the last position of a row. -/
theorem Inter.last_q {n r p q : Nat} (hp : p < r) (hq : q < Inter.cnt n r p) (h : n < q * r + p + r) : q + 1 = Inter.cnt n r p := by
  rcases Nat.lt_or_ge (q + 1) (Inter.cnt n r p) with g | g
  · have := Inter.of_cnt n r p (q + 1) hp g
    rw [Nat.succ_mul] at this
    omega
  · omega
theorem Inter.end_q {n r p q : Nat} (hp : p < r) (hq : q ≤ Inter.cnt n r p) (h : ¬ q * r + p < n) : q = Inter.cnt n r p := by
  rcases Nat.lt_or_ge q (Inter.cnt n r p) with g | g
  · exact absurd (Inter.of_cnt n r p q hp g) h
  · omega

set_option maxHeartbeats 1000000 in
theorem order_any (n r : Nat) (w : World) (hr : 1 ≤ r) (hn : n ≤ 65536) (hr2 : r ≤ 9223372036854775807) :
    Calls Try.prog 20 #[.int .i64 n, .int .i64 r] w fun e w' => ∃ ao cap, e = .returned (.slice ao n cap) ∧ Own w' w.heap.size 3 (.slice ao n cap) (natsL (Inter.order n r)) ∧ Below w.heap.size w w' := by
  go_enter Try.func20, Try.ntmps20
  go_wp2_with fail
  go_loopg [5, 6, 7] (min r n) (fun g out i _ wr => ∃ p : Nat, g = min r n - p ∧ OrdOuter w n r p out i wr)
  case atStart => exact ⟨0, rfl, Nat.zero_le _, rfl, Own.made0 w _ _ (Nat.le_refl _), (Below.refl _ _).alloc (Nat.le_refl _) _⟩
  case round =>
    obtain ⟨p, hg, hp, rfl, hown, hb⟩ := hrel
    have HG := Lib.hid hg
    clear hg
    by_cases hlt : p < min r n
    · have h1 : p < r := by omega
      have h2 : p < n := by omega
      go_wp2_with fail
      go_loopg [5, 7] (Inter.cnt n r p) (fun g out i wi => ∃ q : Nat, g = Inter.cnt n r p - q ∧ OrdInner w n r p q out i wi)
      case atStart => exact ⟨0, rfl, Nat.zero_le _, by simp, by omega, by simpa [Inter.part] using hown, hb⟩
      case round =>
        obtain ⟨q, hg2, hq, rfl, hq2, hown2, hb2⟩ := hrel
        have HG2 := Lib.hid hg2
        clear hg2
        by_cases hq3 : q * r + p < n
        · have hqc := Inter.cnt_of n r p q h1 hq3
          have hlen := Inter.part_length n r p q h1 hq
          by_cases hbr : n < q * r + p + r
          · go_wp2_with (at_builtin; refine wpList_app1 3 39 _ 8 info_int Try.underlying39 rfl rfl _ _ rfl _ _ _ rfl hown2 _ rfl rfl (by rw [natsL_length]; omega) (by rw [natsL_length]; omega) hb2.size ?_; intro v' w' hown3 hb3 _)
            have hown4 := Inter.own_app hown3
            go_roundg (min r n - (p + 1))
            case measure => have := HG.out; omega
            case rel => exact ⟨p + 1, rfl, by omega, by go_num, by rw [← Inter.part_full, ← Inter.last_q h1 hqc hbr]; exact hown4, hb2.trans (hb3.mono (by omega))⟩
          · go_wp2_with (at_builtin; refine wpList_app1 3 39 _ 8 info_int Try.underlying39 rfl rfl _ _ rfl _ _ _ rfl hown2 _ rfl rfl (by rw [natsL_length]; omega) (by rw [natsL_length]; omega) hb2.size ?_; intro v' w' hown3 hb3 _)
            have hown4 := Inter.own_app hown3
            go_roundg (Inter.cnt n r p - (q + 1))
            case measure => have := HG2.out; omega
            case rel => exact ⟨q + 1, rfl, by omega, by rw [Inter.next_eq], Inter.next_le q r p n (by omega), hown4, hb2.trans (hb3.mono (by omega))⟩
        · go_wp2_with fail
          go_roundg (min r n - (p + 1))
          case measure => have := HG.out; omega
          case rel => exact ⟨p + 1, rfl, by omega, by go_num, by rw [← Inter.part_full, ← Inter.end_q h1 hq hq3]; exact hown2, hb2⟩
    · have e : p = min r n := by omega
      subst e
      go_wp2_with fail
      all_goals
        have hl : (natsL (Inter.rows n r (min r n))).length = n := by rw [natsL_length, Inter.rows_length, Inter.start_min n r (by omega)]
        obtain ⟨ao, cap, hv, _⟩ := hown.form
        rw [hl] at hv
        go_ret
        exact ⟨ao, cap, by rw [← hv]; rfl, by rw [← hv]; exact hown, hb⟩

/-- Position k of the interleaved form. -/
theorem Inter.order_at (s : ByteArray) (r k : Nat) (hr : 0 < r) (hk : k < s.size) : ∃ i, ∃ hi : i < s.size, (natsL (Inter.order s.size r))[k]? = some (.int .i64 (i : Nat)) ∧ Inter.idx s.size r i = k ∧ bytesL ((Inter.inter s.data.toList r).take k) ++ [Value.int .u8 (s[i]'hi).toNat] = bytesL ((Inter.inter s.data.toList r).take (k + 1)) := by
  obtain ⟨i, hi, e, ho⟩ := Inter.order_lt s.size r k hr hk
  refine ⟨i, hi, natsL_get _ _ _ ho, e, ?_⟩
  have h := Inter.inter_idx s.data.toList r i hr (by rw [toList_length]; exact hi)
  rw [toList_length, e, get_of_lt s i hi] at h
  obtain ⟨hlt, hg⟩ := List.getElem?_eq_some_iff.1 h
  rw [bytesL_snoc, List.take_succ_eq_append_getElem hlt, hg]

def RefRel (w1 : World) (s : ByteArray) (r : Nat) (out k : Value) (wr : World) : Prop :=
  ∃ n : Nat, n ≤ s.size ∧ k = .int .i64 n ∧ Own wr w1.heap.size 5 out (bytesL ((Inter.inter s.data.toList r).take n)) ∧ Below w1.heap.size w1 wr

set_option maxHeartbeats 1000000 in
theorem RefInterleave_ok (s : ByteArray) (r : Nat) (w : World) (hr : 1 ≤ r) (hs : s.size ≤ 65536) (hr2 : r ≤ 9223372036854775807) :
    Calls Try.prog 14 #[.string s, .int .i64 r] w fun e w' => e = .returned (.tuple #[.string ⟨(Inter.inter s.data.toList r).toArray⟩, .int .i64 0]) ∧ Below w.heap.size w w' := by
  go_enter Try.func14, Try.ntmps14
  go_wp2_with fail
  refine (order_any s.size r _ hr hs hr2).mono ?_
  rintro e w1 ⟨ao, cap, rfl, hord, hb1⟩
  go_wp2_with fail
  go_loopw [7, 8] (fun out k wr => RefRel w1 s r out k wr) (fun _ k _ => s.size - (intOf k).toNat)
  case atStart => exact ⟨0, Nat.zero_le _, rfl, Own.made0 w1 _ _ (Nat.le_refl _), (Below.refl _ _).alloc (Nat.le_refl _) _⟩
  case round =>
    obtain ⟨k, hk, rfl, hown, hb⟩ := hrel
    by_cases hlt : k < s.size
    · obtain ⟨i, hi, ho, _, hnext⟩ := Inter.order_at s r k (by omega) hlt
      obtain ⟨g, rfl⟩ := hord.addr (by rw [natsL_length, Inter.order_length _ _ (by omega)]; omega)
      have hcell := (hord.below hb (Nat.le_refl _)).cell k _ ho
      have hlen : (bytesL ((Inter.inter s.data.toList r).take k)).length ≤ s.size := by rw [bytesL_length, List.length_take]; omega
      have HN := Lib.hid hnext
      clear hnext
      go_wp2_with (at_builtin; refine wpList_app1 5 33 _ 1 info_u8 Try.underlying33 rfl rfl _ _ rfl _ _ _ rfl hown _ rfl rfl (by omega) (by omega) hb.size ?_; intro v' w' hown3 hb3 _)
      rw [HN.out] at hown3
      go_roundw
      case rel => exact ⟨k + 1, by omega, by go_num, hown3, hb.trans (hb3.mono (by omega))⟩
      case measure => simp [intOf]; omega
    · obtain rfl : k = s.size := by omega
      have hln := Inter.inter_length s.data.toList r (by omega)
      rw [toList_length] at hln
      rw [List.take_of_length_le (by omega)] at hown
      have hcv := conv_own (P := Try.prog) 33 5 9 Try.underlying33 Try.underlying5 Try.underlying9 hown
      go_wp2_with fail
      go_ret2
      exact ⟨rfl, bchain hb1 hb⟩

def RefRel2 (w1 : World) (s : ByteArray) (r : Nat) (k : Value) (wr : World) : Prop :=
  ∃ (n : Nat) (l : List UInt8), n ≤ s.size ∧ k = .int .i64 n ∧ l.length = s.size ∧ (∀ j, j < s.size → Inter.idx s.size r j < n → l[j]? = s.data.toList[Inter.idx s.size r j]?) ∧ Row wr w1.heap.size 5 (bytesL l) ∧ Below w1.heap.size w1 wr

theorem RefRel2.step {w1 wr : World} {s : ByteArray} {r k i B : Nat} {l : List UInt8} (hB : B = w1.heap.size) (hr : 0 < r) (hk : k < s.size) (hi : i < s.size) (he : Inter.idx s.size r i = k) (hl : l.length = s.size) (hR : ∀ j, j < s.size → Inter.idx s.size r j < k → l[j]? = s.data.toList[Inter.idx s.size r j]?)
    (hrow : Row wr B 5 (bytesL l)) (hb : Below B w1 wr) : RefRel2 w1 s r (.int .i64 (↑k + 1)) ((wr.setCell ⟨B, i, none⟩ (.int .u8 s[k].toNat)).drew) := by
  subst hB
  refine ⟨k + 1, l.set i s[k], by omega, by go_num, by rw [List.length_set, hl], fun j hj hjk => ?_, ?_, (hb.setCell (by simp) _).drew⟩
  · by_cases e : j = i
    · subst e
      rw [List.getElem?_set_self (by omega), he, get_of_lt s k hk]
    · rw [List.getElem?_set_ne (fun h => e h.symm)]
      refine hR j hj ?_
      rcases Nat.lt_or_ge (Inter.idx s.size r j) k with g | g
      · exact g
      · exact absurd (Inter.idx_inj s.size r j i hr hj hi (by omega)) e
  · rw [← bytesL_set]
    exact (hrow.store i _).drew

set_option maxHeartbeats 1000000 in
theorem RefDeinterleave_ok (s : ByteArray) (r : Nat) (w : World) (hr : 1 ≤ r) (hs : s.size ≤ 65536) (hr2 : r ≤ 9223372036854775807) :
    Calls Try.prog 16 #[.string s, .int .i64 r] w fun e w' => e = .returned (.tuple #[.string ⟨(Inter.deinter s.data.toList r).toArray⟩, .int .i64 0]) ∧ Below w.heap.size w w' := by
  have hmk := run_make_row' (P := Try.prog) 33 5 (.int .u8 0) 1 Try.underlying33 info_u8 rfl .i64 .i64 s.size (by omega) (by omega)
  go_enter Try.func16, Try.ntmps16
  go_wp2_with fail
  refine (order_any s.size r _ hr hs hr2).mono ?_
  rintro e w1 ⟨ao, cap, rfl, hord, hb1⟩
  go_wp2_with fail
  go_loopw [8] (fun k wr => RefRel2 w1 s r k wr) (fun k _ => s.size - (intOf k).toNat)
  case atStart =>
    refine ⟨0, List.replicate s.size 0, Nat.zero_le _, rfl, List.length_replicate, fun j _ hj => by omega, ?_, (Below.refl _ _).alloc (Nat.le_refl _) _⟩
    rw [← bytesL_made]
    exact Row.made w1 _ _ _
  case round =>
    obtain ⟨k, l, hk, rfl, hl, hR, hrow, hb⟩ := hrel
    by_cases hlt : k < s.size
    · obtain ⟨i, hi, ho, he, _⟩ := Inter.order_at s r k (by omega) hlt
      obtain ⟨g, rfl⟩ := hord.addr (by rw [natsL_length, Inter.order_length _ _ (by omega)]; omega)
      have HE := Lib.hid he
      clear he
      have hcell := (hord.below hb (Nat.le_refl _)).cell k _ ho
      have hcell2 := hrow.cell i _ (bytesL_get l i (by omega))
      have hfr := hrow.frozen i (by rw [bytesL_length]; omega)
      go_wp2_with fail
      go_region
      go_wp2_with fail
      go_roundw
      case rel => exact RefRel2.step rfl (by omega) hlt hi HE.out hl hR hrow hb
      case measure => simp [intOf]; omega
    · obtain rfl : k = s.size := by omega
      have e : l = Inter.deinter s.data.toList r := Inter.deinter_only _ _ r (by omega) (by rw [hl, toList_length]) fun j hj => by
        rw [toList_length] at hj ⊢
        exact hR j hj (Inter.idx_lt _ _ _ (by omega) hj)
      subst e
      have hcv := conv_row (P := Try.prog) 33 5 9 Try.underlying33 Try.underlying5 Try.underlying9 hrow s.size s.size (by omega)
      go_wp2_with fail
      go_ret2
      exact ⟨rfl, bchain hb1 hb⟩

set_option maxHeartbeats 400000 in
theorem RefInterleave_arg (s : ByteArray) (r : Int) (w : World) (hr : r < 1) :
    Calls Try.prog 14 #[.string s, .int .i64 r] w fun e w' => e = .returned (.tuple #[.string ⟨#[]⟩, .int .i64 1]) ∧ Below w.heap.size w w' := by
  go_enter Try.func14, Try.ntmps14
  go_wp2_with fail
  go_ret2
  exact ⟨rfl, Below.refl _ _⟩
set_option maxHeartbeats 400000 in
theorem RefDeinterleave_arg (s : ByteArray) (r : Int) (w : World) (hr : r < 1) :
    Calls Try.prog 16 #[.string s, .int .i64 r] w fun e w' => e = .returned (.tuple #[.string ⟨#[]⟩, .int .i64 1]) ∧ Below w.heap.size w w' := by
  go_enter Try.func16, Try.ntmps16
  go_wp2_with fail
  go_ret2
  exact ⟨rfl, Below.refl _ _⟩
end Go.Proofs.Ytkeknmncbncgkaa
