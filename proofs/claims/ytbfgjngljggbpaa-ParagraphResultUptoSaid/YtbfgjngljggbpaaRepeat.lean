/-
  strings.Repeat of one byte that has a row of its own among the library's constants ('='), up to 8192 copies. After the library's own text on Repeat; a builder whose head may be frozen.
-/
import Derived.Test.YtbfgjngljggbpaaJoinW
import Derived.Lib.RepeatB
import Derived.Shelf.Strings.BuilderF
namespace Go.Proofs.Ytbfgjngljggbpaa
open Go.RowKit

abbrev BldF (B b : Nat) (bs : List Value) (w : World) : Prop := Lib.IsBuilderF 48 5 B b bs w

theorem copyCheck_f (B b : Nat) (bs : List Value) (w : World) (h : BldF B b bs w) :
    Calls Try.prog 34 #[.pointer (some ⟨b, 0, none⟩)] w fun e w' => e = .returned (.tuple #[]) ∧ (Lib.BuilderAtF 48 5 B b (.pointer (some ⟨b, 0, none⟩)) bs w' ∧ Below B w w') := by
  rcases h with h | h
  · refine (copyCheck_fresh b w h.cell0 h.shape h.frozen0).mono ?_
    rintro e w' ⟨rfl, rfl⟩
    exact ⟨rfl, h.used _, (Below.refl B w).setCell (p := ⟨b, 0, none⟩) h.1 _⟩
  · refine (copyCheck_used b w h.cell0).mono ?_
    rintro e w' ⟨rfl, rfl⟩
    exact ⟨rfl, h, Below.refl B _⟩

set_option maxHeartbeats 2000000 in
set_option maxRecDepth 100000 in
theorem writeString_f (B b : Nat) (bs : List Value) (s : ByteArray) (w : World) (h : BldF B b bs w) (hlen : bs.length + s.size ≤ 140737488355328) (hBw : B ≤ w.heap.size) :
    Calls Try.prog 26 #[.pointer (some ⟨b, 0, none⟩), .string s] w fun e w' => e = .returned (.tuple #[.int .i64 s.size, .nilIface]) ∧ (BldF B b (bs ++ Lib.strCells s) w' ∧ Below B w w') := by
  obtain ⟨i0, hi, hz0, hz1, hz2⟩ := info_parts infoByte
  go_enter Try.func26, Try.ntmps26
  go_wp2_with (go_at_call 34; refine (copyCheck_f B b bs _ h).mono ?_)
  rintro e w1 ⟨rfl, h1, hb1⟩
  obtain ⟨hB, v, hbk, hown, hne⟩ := h1
  have c0 : w1.cell? ⟨b, 0, none⟩ = some (.pointer (some ⟨b, 0, none⟩)) := by rw [Lib.cell_of_heap hbk]; rfl
  have c1 : w1.cell? ⟨b, 1, none⟩ = some v := by rw [Lib.cell_of_heap hbk]; rfl
  go_wp2_with (at_builtin; refine Lib.wpList_append_own_stringF _ rfl _ _ 46 9 rfl B 5 i0 Try.underlying46 Try.underlying9 hi hz0 hz1 hz2 _ _ _ rfl hown s rfl ?c3 ?c4 ?c5 ?_)
  case c3 => unfold maxLen; omega
  case c4 => omega
  case c5 => have := hb1.size; omega
  intro v' w2 hown' hgrow _
  have hlt : b < w1.heap.size := by
    rcases Nat.lt_or_ge b w1.heap.size with h' | h'
    · exact h'
    · simp [Array.getElem?_eq_none h'] at hbk
  have hb2 : w2.heap[b]? = some (.cells #[.pointer (some ⟨b, 0, none⟩), v] 48 (0, 0)) := by
    rw [hgrow.block b hlt (fun e => hne e.symm)]
    exact hbk
  have d0 : w2.cell? ⟨b, 0, none⟩ = some (.pointer (some ⟨b, 0, none⟩)) := by rw [Lib.cell_of_heap hb2]; rfl
  have d1 : w2.cell? ⟨b, 1, none⟩ = some v := by rw [Lib.cell_of_heap hb2]; rfl
  have f1 : w2.frozen? ⟨b, 1, none⟩ = false := Lib.frozen_of_heap hb2 1
  obtain ⟨ao, n', cap, rfl⟩ : ∃ ao n' cap, v' = .slice ao n' cap := by
    rcases hown'.2 with ⟨hv, _⟩ | ⟨g, cap, cur, fz, hv, _⟩
    · exact ⟨_, _, _, hv⟩
    · exact ⟨_, _, _, hv⟩
  go_wp2
  go_ret2
  refine ⟨rfl, ?_, ?_⟩
  · exact .inr <| Lib.BuilderAtF.put (T := 48) (e := 5) hB hb2 (bs' := bs ++ Lib.strCells s) (by simpa [Lib.strCells_length] using hown') (by decide)
  · exact (hb1.grown hgrow (by have := hb1.size; omega) (fun k hk => (hown.lt k hk).1)).setCell (p := ⟨b, 1, none⟩) hB _

theorem ext_rep0 (m c : Nat) (h : c ≤ m) (x : UInt8) : (⟨(List.replicate m x).toArray⟩ : ByteArray).extract 0 c = ⟨(List.replicate c x).toArray⟩ := by
  rw [ByteArray.extract_mk]
  simp [List.take_replicate, Nat.min_eq_left h]
theorem ext_rep (K : List UInt8) (hK : K = List.replicate 128 61) (c : Nat) (h : c ≤ 128) : (⟨K.toArray⟩ : ByteArray).extract 0 c = ⟨(List.replicate c 61).toArray⟩ := by
  rw [hK]
  exact ext_rep0 128 c h 61
/-- HasPrefix, by lists. -/
def hpV (s p : ByteArray) : Bool := decide (p.data.toList.length ≤ s.data.toList.length) && (s.data.toList.take p.data.toList.length == p.data.toList)
set_option maxHeartbeats 1000000 in
theorem slhp_any (s p : ByteArray) (B : Bool) (w : World) (h : hpV s p = B) :
    Calls Try.prog 24 #[.string s, .string p] w fun e w' => e = .returned (.bool B) ∧ w' = w := by
  have e1 : p.data.toList.length = p.size := by simp
  have e2 : s.data.toList.length = s.size := by simp
  have hx : ((s.extract 0 p.size).toList == p.toList) = (s.data.toList.take p.data.toList.length == p.data.toList) := by
    rw [Lib.extract_toList, Lib.toList_data, Nat.sub_zero, List.drop_zero, e1]
  unfold hpV at h
  rw [← hx, e1, e2] at h
  clear hx e1 e2
  by_cases hle : p.size ≤ s.size
  · rw [decide_eq_true hle, Bool.true_and] at h
    have HX := Lib.hid h
    clear h
    go_enter Try.func24, Try.ntmps24
    go_wp2_with fail
    go_ret
    refine ⟨?_, rfl⟩
    show Ending.returned (Value.bool ((s.extract 0 p.size).toList == p.toList)) = _
    rw [HX.out]
  · rw [decide_eq_false hle, Bool.false_and] at h
    subst h
    go_enter Try.func24, Try.ntmps24
    go_wp2_with fail
    go_ret
    exact ⟨rfl, rfl⟩
theorem hp_any (s p : ByteArray) (B : Bool) (w : World) (h : hpV s p = B) :
    Calls Try.prog 14 #[.string s, .string p] w fun e w' => e = .returned (.bool B) ∧ w' = w := by
  have hc := fun w => slhp_any s p B w h
  clear h
  go_enter Try.func14, Try.ntmps14
  go_wp2_with fail
  refine (hc _).mono ?_
  rintro e w' ⟨rfl, rfl⟩
  go_wp2_with fail
  go_ret
  exact ⟨rfl, rfl⟩

set_option maxHeartbeats 2000000 in
set_option maxRecDepth 1000000 in
theorem repeat_eq (c : Nat) (w : World) (hc : c ≤ 8192) :
    Calls Try.prog 20 #[.string ⟨#[61]⟩, .int .i64 c] w fun e w' => e = .returned (.string ⟨(List.replicate c 61).toArray⟩) ∧ Below w.heap.size w w' := by
  have hMul := Try.bits_Mul 1 c (by omega) (by omega)
  rw [Nat.one_mul, Nat.div_eq_of_lt (by omega), Nat.mod_eq_of_lt (by omega)] at hMul
  by_cases h0 : c = 0
  · subst h0
    go_enter Try.func20, Try.ntmps20
    go_wp2_with fail
    go_ret
    exact ⟨rfl, Below.refl _ _⟩
  by_cases h1 : c = 1
  · subst h1
    go_enter Try.func20, Try.ntmps20
    go_wp2_with fail
    go_ret
    exact ⟨rfl, Below.refl _ _⟩
  by_cases h128 : c ≤ 128
  · go_enter Try.func20, Try.ntmps20
    go_wp2_with fail
    refine (hMul _).mono ?_
    rintro e w1 ⟨rfl, rfl⟩
    go_wp2_with (first | (refine (hp_any _ _ false _ (by rfl)).mono ?_; rintro e w2 ⟨rfl, hw⟩; rw [hw]) | (refine (hp_any _ _ true _ (by rfl)).mono ?_; rintro e w2 ⟨rfl, hw⟩; rw [hw]))
    all_goals
      go_ret
      refine ⟨?_, Below.refl _ _⟩
      rw [ext_rep _ (by rfl) c h128]
      rfl
  have hc2 : 128 < c := by omega
  have hmin : ∀ (q : Nat) (_ : q < c) (ts : Array TypeId) (t : TypeId) (W : World), (Builtin.min_ ts t #[.int .i64 ((c : Int) - (q : Int)), .int .i64 (q : Int), .int .i64 (c : Int)]).run Try.prog W = .ok (.int .i64 ((min (c - q) q : Nat) : Int)) W := by
    intro q hq ts t W
    have e : (Builtin.min_ ts t #[.int .i64 ((c : Int) - (q : Int)), .int .i64 (q : Int), .int .i64 (c : Int)]).run Try.prog W = .ok (.int .i64 (if (c : Int) < (if (q : Int) < (c : Int) - (q : Int) then (q : Int) else (c : Int) - (q : Int)) then (c : Int) else (if (q : Int) < (c : Int) - (q : Int) then (q : Int) else (c : Int) - (q : Int)))) W := by
      simp [Builtin.min_, Builtin.min2]
    rw [e]
    congr 2
    split <;> split at * <;> omega
  go_enter Try.func20, Try.ntmps20
  go_wp2_with fail
  refine (hMul _).mono ?_
  rintro e w1 ⟨rfl, rfl⟩
  have b0 : Below w1.heap.size w1 (w1.alloc (.cells #[.pointer none, .slice none 0 0] 48)) := (Below.refl _ w1).alloc (Nat.le_refl _) _
  go_wp2_with fail
  refine (Grow_fresh w1.heap.size w1.heap.size c (w1.alloc (.cells #[.pointer none, .slice none 0 0] 48)) (Nat.le_refl _) (heap_alloc_new w1 _) b0.size (by omega)).mono ?_
  rintro e W1 ⟨rfl, h1', hb1⟩
  have hW1 := b0.trans hb1
  have hF : BldF w1.heap.size w1.heap.size [] W1 := Lib.IsBuilderF.of (Or.inr h1')
  clear h1'
  go_wp2_with fail
  refine (writeString_f w1.heap.size w1.heap.size [] ⟨#[61]⟩ W1 hF (by decide) hW1.size).mono ?_
  rintro e W2 ⟨rfl, h2, hb2⟩
  have hW2 := hW1.trans hb2
  have h2' : BldF w1.heap.size w1.heap.size (Lib.byteCells (List.replicate 1 61)) W2 := h2
  clear h2 hb1 hb2 b0 hF
  go_wp2_with fail
  go_loopg [] (c - 1) (fun g wx => ∃ q : Nat, 1 ≤ q ∧ q + g = c ∧ BldF w1.heap.size w1.heap.size (Lib.byteCells (List.replicate q 61)) wx ∧ Below w1.heap.size w1 wx)
  case atStart => exact ⟨1, Nat.le_refl _, by omega, h2', hW2⟩
  case round =>
    obtain ⟨q, hq1, hqg, hB, hbx⟩ := hrel
    have hlq : (Lib.byteCells (List.replicate q 61)).length = q := by rw [Lib.byteCells_length, List.length_replicate]
    have cLen := fun w h => Any.Builder_Len_f Try.lays170 w1.heap.size w1.heap.size (Lib.byteCells (List.replicate q 61)) w h
    have cStr := fun w h => Any.Builder_String_any_f Try.lays169 Try.Builder_Extra_169 w1.heap.size w1.heap.size (List.replicate q 61) w h
    rw [hlq] at cLen
    cases gk with
    | zero =>
      obtain rfl : q = c := by omega
      have hqq : ¬ ((q : Int) < (q : Int)) := by omega
      go_wp2_with fail
      refine (cLen _ hB).mono ?_
      rintro e w3 ⟨rfl, rfl⟩
      go_wp2_with fail
      refine (cStr _ hB hbx.size).mono ?_
      rintro e w3 ⟨rfl, h3, hb3⟩
      go_wp2_with fail
      go_ret
      exact ⟨rfl, hbx.trans hb3⟩
    | succ g =>
      have hqc : q < c := by omega
      have hqci : (q : Int) < (c : Int) := by omega
      have hm := hmin q hqc
      have hk1 : 1 ≤ min (c - q) q := by omega
      have hk2 : min (c - q) q ≤ q := by omega
      have hk3 : min (c - q) q ≤ c - q := by omega
      clear hmin
      generalize min (c - q) q = k at *
      go_wp2_with fail
      refine (cLen _ hB).mono ?_
      rintro e w3 ⟨rfl, rfl⟩
      go_wp2_with fail
      refine (cLen _ hB).mono ?_
      rintro e w3 ⟨rfl, rfl⟩
      go_wp2_with fail
      refine (cLen _ hB).mono ?_
      rintro e w3 ⟨rfl, rfl⟩
      go_wp2_with fail
      refine (cStr _ hB hbx.size).mono ?_
      rintro e w4 ⟨rfl, h4, hb4⟩
      have hbx4 := hbx.trans hb4
      have hsz : k ≤ (⟨(List.replicate q (61 : UInt8)).toArray⟩ : ByteArray).size := by rw [mk_size, List.length_replicate]; exact hk2
      have hext := ext_rep0 q k hk2 61
      have hnext : Lib.byteCells (List.replicate q 61) ++ Lib.strCells ⟨(List.replicate k (61 : UInt8)).toArray⟩ = Lib.byteCells (List.replicate (q + k) 61) := by
        rw [Lib.strCells_eq, ← Lib.byteCells_append, List.replicate_append_replicate]
      have hks : (⟨(List.replicate k (61 : UInt8)).toArray⟩ : ByteArray).size = k := by rw [mk_size, List.length_replicate]
      generalize (⟨(List.replicate q (61 : UInt8)).toArray⟩ : ByteArray) = S at *
      generalize (⟨(List.replicate k (61 : UInt8)).toArray⟩ : ByteArray) = T at *
      have cWr := writeString_f w1.heap.size w1.heap.size _ T w4 h4 (by rw [hlq]; omega) hbx4.size
      rw [hnext] at cWr
      clear cStr cLen hnext h4 hB hb4 hm
      go_wp2_with fail
      refine cWr.mono ?_
      rintro e w5 ⟨rfl, h5, hb5⟩
      go_wp2_with fail
      go_roundg (c - (q + k))
      case measure => omega
      case rel => exact ⟨q + k, by omega, by omega, h5, hbx4.trans hb5⟩
end Go.Proofs.Ytbfgjngljggbpaa
