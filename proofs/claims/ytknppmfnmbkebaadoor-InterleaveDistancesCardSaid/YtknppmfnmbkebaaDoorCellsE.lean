/-
  The walks of ToBytes, of package cells and of its reference, and of the reference's Same.
-/
import Derived.Test.YtknppmfnmbkebaaDoorCellsD
import Derived.Lib.IndexLaws
namespace Go.Proofs.YtknppmfnmbkebaaDoor
open Go.RowKit

theorem contains_dec (l : List UInt8) (c : UInt8) : decide (0 ≤ Lib.indexByte l c) = l.contains c := by
  rw [Bool.eq_iff_iff, decide_eq_true_iff, List.contains_iff_mem]
  constructor
  · intro h
    obtain ⟨o, ho⟩ := Int.eq_ofNat_of_zero_le h
    exact List.mem_of_getElem? (Lib.indexByte_some ho).1
  · intro h
    obtain ⟨k, hk⟩ := List.getElem?_of_mem h
    have hge := Lib.indexByte_ge l c
    by_cases e : Lib.indexByte l c = -1
    · exact absurd hk (Lib.indexByte_none e k)
    · omega

theorem info_int : (Tryd.prog.info? 3).map (fun i => (i.zero, i.size, i.bytes)) = some (some (.int .i64 0), 1, 8) := by kernel_rfl

/-- Another own slice, of another element type, while a builder is written. -/
theorem Own.kept_by {w w' : World} {B b : Nat} {E : TypeId} {v : Value} {xs : List Value} (h : Own w B E v xs) (hk : Kept b w w') (hE : E ≠ 5) (hb : ∃ cs m, w.heap[b]? = some (.cells cs 47 m)) (hE2 : E ≠ 47) : Own w' B E v xs := by
  refine ⟨h.1, ?_⟩
  rcases h.2 with hn | ⟨g, cap, cur, rfl, h1, hh, rest⟩
  · exact .inl hn
  · refine .inr ⟨g, cap, cur, rfl, h1, hk g _ hh ?_ ?_, rest⟩
    · intro e
      injection e with e
      subst e
      obtain ⟨cs, m, hb⟩ := hb
      rw [hh] at hb
      injection hb with hb
      injection hb with _ hb
      exact hE2 hb
    · intro c fz e
      injection e with _ e
      exact hE e
theorem Bld.block {w : World} {B b : Nat} {bs : List Value} (h : Bld B b bs w) : ∃ cs m, w.heap[b]? = some (.cells cs 47 m) := by
  rcases h with ⟨_, v, hh, _⟩ | ⟨_, v, hh, _⟩ <;> exact ⟨_, _, hh⟩
/-- A builder while another own slice, of another element type, is appended to. -/
theorem Bld.kept_by {w w' : World} {B b : Nat} {E : TypeId} {bs : List Value} (h : Bld B b bs w) (hk : Lib.OthersKept E none w w') (hE : E ≠ 5) (hE2 : E ≠ 47) : Bld B b bs w' := by
  have go : ∀ p, Lib.BuilderAt 47 5 B b p bs w → Lib.BuilderAt 47 5 B b p bs w' := by
    rintro p ⟨h1, v, hh, hown, hne⟩
    refine ⟨h1, v, hk b _ hh (by simp) (fun c fz e => by injection e with _ e; exact hE2 e.symm), ⟨hown.1, ?_⟩, hne⟩
    rcases hown.2 with hn | ⟨g, cap, cur, rfl, h2, hg, rest⟩
    · exact .inl hn
    · exact .inr ⟨g, cap, cur, rfl, h2, hk g _ hg (by simp) (fun c fz e => by injection e with _ e; exact hE e.symm), rest⟩
  rcases h with h | h
  · exact .inl (go _ h)
  · exact .inr (go _ h)
theorem Own.others {w w' : World} {B : Nat} {E : TypeId} {v : Value} {xs : List Value} (h : Own w B E v xs) (hg : w.grownBy w' v.ownBlock) : Lib.OthersKept E none w w' :=
  Lib.OthersKept.grown (Lib.OthersKept.refl E none w) hg fun g hgg => by
    rcases h.2 with ⟨rfl, _⟩ | ⟨g', cap, cur, rfl, _, hh, _⟩
    · simp [Value.ownBlock] at hgg
    · simp [Value.ownBlock] at hgg
      subst hgg
      exact ⟨cur, _, hh⟩

/-- The bytes and the indices of the first i bytes. -/
def toB (l : List UInt8) (i : Nat) : List UInt8 := (List.range i).map fun i => UInt8.ofNat (Cells.val (Cells.chunk l i))
def badB (l : List UInt8) (i : Nat) : List Nat := (List.range i).filter fun i => (Cells.chunk l i).contains 63
theorem toB_succ (l : List UInt8) (i : Nat) : toB l i ++ [UInt8.ofNat (Cells.val (Cells.chunk l i))] = toB l (i + 1) := by simp [toB, List.range_succ]
theorem badB_succ (l : List UInt8) (i : Nat) : badB l (i + 1) = badB l i ++ if (Cells.chunk l i).contains 63 = true then [i] else [] := by
  simp only [badB, List.range_succ, List.filter_append, List.filter_cons, List.filter_nil]
theorem toB_length (l : List UInt8) (i : Nat) : (toB l i).length = i := by simp [toB]
theorem badB_length (l : List UInt8) (i : Nat) : (badB l i).length ≤ i := Nat.le_trans (List.length_filter_le _ _) (by simp)
theorem toB_full (l : List UInt8) : toB l (l.length / 8) = Cells.toBytes l := rfl
theorem badB_full (l : List UInt8) : badB l (l.length / 8) = Cells.bad l := rfl

theorem extract_chunk (s : ByteArray) (i : Nat) : (s.extract (i * 8) ((i + 1) * 8)).data.toList = Cells.chunk s.data.toList i := by
  rw [Lib.extract_data]
  unfold Cells.chunk
  rw [Nat.mul_comm i 8, show (i + 1) * 8 - 8 * i = 8 by omega]
theorem extract_size (s : ByteArray) (i : Nat) (h : (i + 1) * 8 ≤ s.size) : (s.extract (i * 8) ((i + 1) * 8)).size = 8 := by
  rw [ByteArray.size_extract]
  omega

theorem val_step (P : ByteArray) (j : Nat) (h : j < P.size) : Cells.val (P.data.toList.take (j + 1)) = 2 * Cells.val (P.data.toList.take j) + if ((P[j].toNat : Int) == 49) = true then 1 else 0 := by
  rw [List.take_succ_eq_append_getElem (by rw [toList_length]; exact h), Cells.val_snoc, beq49]
  congr 1
  have e : P.data.toList[j]'(by rw [toList_length]; exact h) = P[j] := rfl
  rw [e]
  by_cases h' : P[j] = 49
  · simp [h']
  · simp [h']
theorem val_take_lt (l : List UInt8) (j : Nat) (h : j ≤ l.length) : Cells.val (l.take j) < 2 ^ j := by
  have := Cells.val_lt (l.take j)
  rwa [List.length_take, Nat.min_eq_left h] at this

theorem or_one_val (v : Nat) (h : v < 128) : bits .or .u8 ((v : Int) * 2) 1 = (v : Int) * 2 + 1 := by
  have h1 : ∀ v : Fin 128, (v.val * 2) ||| 1 = v.val * 2 + 1 := by decide +kernel
  have h2 := u8_or_nat (v * 2) 1 (by omega) (by decide)
  rw [h1 ⟨v, h⟩] at h2
  simpa using h2

set_option maxHeartbeats 1000000 in
theorem to_any (s : ByteArray) (w : World) (hs : s.size ≤ 65536) (hok : Cells.ok s.data.toList = true) (h8 : s.size % 8 = 0) :
    Calls Tryd.prog 13 #[.string s] w fun e w' => ∃ v, e = .returned (.tuple #[.string ⟨(Cells.toBytes s.data.toList).toArray⟩, v, .int .i64 0]) ∧ Own w' w.heap.size 3 v (natsL (Cells.bad s.data.toList)) ∧ Below w.heap.size w w' := by
  have h8z : ((s.size : Int) % 8 != 0) = false := by
    rw [bne_eq_false_iff_eq]
    omega
  have HK := Lib.hid hok
  have H8 := Lib.hid h8
  clear hok h8
  go_enter Tryd.func13, Tryd.ntmps13
  go_wp2_with fail
  refine (check_any s _ (by omega)).mono ?_
  rintro e w1 ⟨rfl, hb1⟩
  rw [Cells.err_ok HK.out]
  go_wp2_with fail
  go_loopg [7, 24] (s.size / 8) (fun g o c wr => ∃ i : Nat, g = s.size / 8 - i ∧ i ≤ s.size / 8 ∧ c = .int .i64 i ∧ Bld w1.heap.size w1.heap.size (bytesL (toB s.data.toList i)) wr ∧ Own wr w1.heap.size 3 o (natsL (badB s.data.toList i)) ∧ Below w1.heap.size w1 wr)
  case atStart => exact ⟨0, rfl, Nat.zero_le _, rfl, Lib.fresh_isBuilder _ _ w1, Own.nil _ _ _, (Below.refl _ _).alloc (Nat.le_refl _) _⟩
  case round =>
    obtain ⟨i, hg, hi, rfl, hbl, hop, hb⟩ := hrel
    have HG := Lib.hid hg
    clear hg
    by_cases hlt : i < s.size / 8
    · have hsz := extract_size s i (by omega)
      have hch := extract_chunk s i
      go_wp2_with fail
      generalize s.extract (i * 8) ((i + 1) * 8) = P at *
      have HCH := Lib.hid hch
      have hPl : P.data.toList.length = 8 := by rw [toList_length]; exact hsz
      have HPL := Lib.hid hPl
      have hs1 : 8 ≤ P.size := by omega
      have HSZ := Lib.hid hsz
      clear hch hPl hsz
      go_loopg [10, 34] 8 (fun g o c wi => ∃ j : Nat, g = 8 - j ∧ j ≤ 8 ∧ c = .int .i64 j ∧ o = .int .u8 (Cells.val (P.data.toList.take j)) ∧ wi = wr)
      case atStart => exact ⟨0, rfl, Nat.zero_le _, rfl, rfl, rfl⟩
      case round =>
        obtain ⟨j, hg2, hj, rfl, rfl, rfl⟩ := hrel
        have HG2 := Lib.hid hg2
        clear hg2
        by_cases hlt2 : j < 8
        · have hjP : j < P.size := by omega
          have HV := Lib.hid (val_step P j hjP)
          have hv : Cells.val (P.data.toList.take j) < 128 := Nat.lt_of_lt_of_le (val_take_lt _ j (by rw [HPL.out]; omega)) (Nat.pow_le_pow_right (by omega) (by omega : j ≤ 7))
          cases h1 : ((P[j].toNat : Int) == 49)
          · go_wp2_with fail
            go_roundg (8 - (j + 1))
            case measure => have := HG2.out; omega
            case rel => exact ⟨j + 1, rfl, by omega, by go_num, by rw [HV.out, h1]; go_num, rfl⟩
          · go_wp2_with fail
            rw [or_one_val _ hv]
            go_roundg (8 - (j + 1))
            case measure => have := HG2.out; omega
            case rel => exact ⟨j + 1, rfl, by omega, by go_num, by rw [HV.out, h1]; go_num, rfl⟩
        · obtain rfl : j = 8 := by omega
          have hv8 : Cells.val (P.data.toList.take 8) = (UInt8.ofNat (Cells.val (Cells.chunk s.data.toList i))).toNat := by
            rw [List.take_of_length_le (by rw [HPL.out]; omega), HCH.out, UInt8.toNat_ofNat', Nat.mod_eq_of_lt (Cells.val_chunk_lt _ _)]
          have HV8 := Lib.hid hv8
          clear hv8
          have hlt3 : (bytesL (toB s.data.toList i)).length + 1 ≤ 140737488355328 := by rw [bytesL_length, toB_length]; omega
          go_wp2_with fail
          refine (writeByte_any w1.heap.size w1.heap.size _ _ wr hbl hlt3 hb.size).mono ?_
          rintro e w3 ⟨rfl, hbl3, hb3, hk3⟩
          have hop3 := Own.kept_by hop hk3 (by decide) hbl.block (by decide)
          have hbl4 := bld_sn (d := UInt8.ofNat (Cells.val (Cells.chunk s.data.toList i))) (by rw [HV8.out]) hbl3
          rw [toB_succ] at hbl4
          clear hbl3 hop hbl
          go_wp2_with fail
          refine (Tryd.strings_Contains_one P 63 w3).mono ?_
          rintro e w4 ⟨rfl, rfl⟩
          rw [contains_dec]
          have HBS := Lib.hid (badB_succ s.data.toList i)
          have hb5 := hb.trans hb3
          have hbl5 := badB_length s.data.toList i
          cases hc : P.data.toList.contains 63
          · have hcc : (Cells.chunk s.data.toList i).contains 63 = false := by rw [← HCH.out]; exact hc
            have HC := Lib.hid hcc
            clear hcc
            go_wp2_with fail
            go_roundg (s.size / 8 - (i + 1))
            case measure => have := HG.out; omega
            case rel => exact ⟨i + 1, rfl, by omega, by go_num, hbl4, by rw [HBS.out, HC.out, if_neg (by decide), List.append_nil]; exact hop3, hb5⟩
          · have hcc : (Cells.chunk s.data.toList i).contains 63 = true := by rw [← HCH.out]; exact hc
            have HC := Lib.hid hcc
            clear hcc
            go_wp2_with (at_builtin; refine wpList_app1 3 23 _ 8 info_int Tryd.underlying23 rfl rfl _ _ rfl _ _ _ rfl hop3 _ rfl rfl (by rw [natsL_length]; omega) (by rw [natsL_length]; omega) hb5.size ?_; intro v' w' hop6 hb6 hg6)
            have hbl6 := Bld.kept_by hbl4 (Own.others hop3 hg6) (by decide) (by decide)
            go_roundg (s.size / 8 - (i + 1))
            case measure => have := HG.out; omega
            case rel => exact ⟨i + 1, rfl, by omega, by go_num, hbl6, by rw [HBS.out, HC.out, if_pos rfl, ← natsL_snoc]; exact hop6, hb5.trans hb6⟩
    · obtain rfl : i = s.size / 8 := by omega
      have e1 : toB s.data.toList (s.size / 8) = Cells.toBytes s.data.toList := by rw [← toB_full, toList_length]
      have e2 : badB s.data.toList (s.size / 8) = Cells.bad s.data.toList := by rw [← badB_full, toList_length]
      rw [e1] at hbl
      rw [e2] at hop
      go_wp2_with fail
      refine (Tryd.Builder_String_any_k w1.heap.size w1.heap.size _ wr (Lib.IsBuilderF.of hbl) hb.size).mono ?_
      rintro e w3 ⟨rfl, _, hb3, hk3⟩
      have hop3 := Own.kept_by hop hk3 (by decide) hbl.block (by decide)
      go_wp2_with fail
      go_ret3
      exact ⟨_, rfl, hop3.more hb1.size, bchain hb1 (hb.trans hb3)⟩

set_option maxHeartbeats 1000000 in
theorem to_bad (s : ByteArray) (w : World) (hs : s.size ≤ 65536) (hok : Cells.ok s.data.toList = false) :
    Calls Tryd.prog 13 #[.string s] w fun e w' => e = .returned (.tuple #[.string ⟨#[]⟩, .slice none 0 0, .int .i64 3]) ∧ Below w.heap.size w w' := by
  have HK := Lib.hid hok
  clear hok
  go_enter Tryd.func13, Tryd.ntmps13
  go_wp2_with fail
  refine (check_any s _ (by omega)).mono ?_
  rintro e w1 ⟨rfl, hb1⟩
  rw [Cells.err_bad HK.out]
  go_wp2_with fail
  go_ret3
  exact ⟨rfl, hb1⟩
set_option maxHeartbeats 1000000 in
theorem to_short (s : ByteArray) (w : World) (hs : s.size ≤ 65536) (hok : Cells.ok s.data.toList = true) (h8 : s.size % 8 ≠ 0) :
    Calls Tryd.prog 13 #[.string s] w fun e w' => e = .returned (.tuple #[.string ⟨#[]⟩, .slice none 0 0, .int .i64 4]) ∧ Below w.heap.size w w' := by
  have h8z : ((s.size : Int) % 8 != 0) = true := by
    rw [bne_iff_ne]
    omega
  have HK := Lib.hid hok
  clear hok h8
  go_enter Tryd.func13, Tryd.ntmps13
  go_wp2_with fail
  refine (check_any s _ (by omega)).mono ?_
  rintro e w1 ⟨rfl, hb1⟩
  rw [Cells.err_ok HK.out]
  go_wp2_with fail
  go_ret3
  exact ⟨rfl, hb1⟩
end Go.Proofs.YtknppmfnmbkebaaDoor
