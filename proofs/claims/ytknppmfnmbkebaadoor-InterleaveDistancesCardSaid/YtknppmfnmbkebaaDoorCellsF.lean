/-
  The walks of the reference's ToBytes and Same, and of the chapter's example.
-/
import Derived.Test.YtknppmfnmbkebaaDoorCellsE
namespace Go.Proofs.YtknppmfnmbkebaaDoor
open Go.RowKit

theorem Own.kept2 {w w' : World} {B : Nat} {E E' : TypeId} {v : Value} {xs : List Value} (h : Own w B E v xs) (hk : Lib.OthersKept E' none w w') (hE : E ≠ E') : Own w' B E v xs := by
  refine ⟨h.1, ?_⟩
  rcases h.2 with hn | ⟨g, cap, cur, rfl, h1, hh, rest⟩
  · exact .inl hn
  · exact .inr ⟨g, cap, cur, rfl, h1, hk g _ hh (by simp) (fun c fz e => by injection e with _ e; exact hE e), rest⟩

theorem made0_next (w : World) (E E' : TypeId) : Own ((w.alloc (.cells #[] E)).alloc (.cells #[] E')) w.heap.size E' (.slice (some ⟨w.heap.size + 1, 0, none⟩) 0 0) [] := by
  have h := Own.made0 (w.alloc (.cells #[] E)) w.heap.size E' (by rw [World.size_alloc]; omega)
  rwa [World.size_alloc] at h
theorem nats_sn {w' : World} {B : Nat} {l : List Nat} {v : Value} {c : Int} {n : Nat} (hc : c = (n : Nat)) (h : Own w' B 3 v (natsL l ++ [Value.int .i64 c])) : Own w' B 3 v (natsL (l ++ [n])) := by
  rw [← natsL_snoc, ← hc]
  exact h

theorem chunk_get (s : ByteArray) (q j i : Nat) (hi : i = 8 * q) (hj : j < 8) (h : i + j < s.size) : (Cells.chunk s.data.toList q)[j]? = some s[i + j] := by
  subst hi
  unfold Cells.chunk
  rw [List.getElem?_take, if_pos hj, List.getElem?_drop, get_of_lt s _ h]
theorem take_chunk (s : ByteArray) (q j i : Nat) (hi : i = 8 * q) (hj : j < 8) (h : i + j < s.size) : (Cells.chunk s.data.toList q).take (j + 1) = (Cells.chunk s.data.toList q).take j ++ [s[i + j]] := by
  obtain ⟨hlt, e⟩ := List.getElem?_eq_some_iff.1 (chunk_get s q j i hi hj h)
  rw [List.take_succ_eq_append_getElem hlt, e]
theorem cval_step (s : ByteArray) (q j i : Nat) (hi : i = 8 * q) (hj : j < 8) (h : i + j < s.size) : Cells.val ((Cells.chunk s.data.toList q).take (j + 1)) = 2 * Cells.val ((Cells.chunk s.data.toList q).take j) + if ((s[i + j].toNat : Int) == 49) = true then 1 else 0 := by
  rw [take_chunk s q j i hi hj h, Cells.val_snoc, beq49]
  congr 1
  by_cases h' : s[i + j] = 49
  · simp [h']
  · simp [h']
theorem copen_step (s : ByteArray) (q j i : Nat) (hi : i = 8 * q) (hj : j < 8) (h : i + j < s.size) : ((Cells.chunk s.data.toList q).take (j + 1)).contains 63 = (((Cells.chunk s.data.toList q).take j).contains 63 || ((s[i + j].toNat : Int) == 63)) := by
  rw [take_chunk s q j i hi hj h, beq63, Bool.eq_iff_iff, Bool.or_eq_true, List.contains_iff_mem, List.contains_iff_mem, List.mem_append, List.mem_singleton, beq_iff_eq]
  exact or_congr_right ⟨fun h => h.symm, fun h => h.symm⟩
theorem chunk_len (s : ByteArray) (q i : Nat) (hi : i = 8 * q) (h : i + 8 ≤ s.size) : (Cells.chunk s.data.toList q).length = 8 := Cells.chunk_length _ _ (by rw [toList_length]; omega)

def RToRel (w : World) (s : ByteArray) (q i : Nat) (out bad c : Value) (wr : World) : Prop :=
  i = 8 * q ∧ i ≤ s.size ∧ c = .int .i64 i ∧ Own wr w.heap.size 5 out (bytesL (toB s.data.toList q)) ∧ Own wr w.heap.size 3 bad (natsL (badB s.data.toList q)) ∧ Below w.heap.size w wr

set_option maxHeartbeats 2000000 in
theorem rto_any (s : ByteArray) (w : World) (hs : s.size ≤ 65536) (hok : Cells.ok s.data.toList = true) (h8 : s.size % 8 = 0) :
    Calls Tryd.prog 14 #[.string s] w fun e w' => ∃ v, e = .returned (.tuple #[.string ⟨(Cells.toBytes s.data.toList).toArray⟩, v, .int .i64 0]) ∧ Own w' w.heap.size 3 v (natsL (Cells.bad s.data.toList)) ∧ Below w.heap.size w w' := by
  have h8z : ((s.size : Int) % 8 != 0) = false := by
    rw [bne_eq_false_iff_eq]
    omega
  have HK := Lib.hid hok
  have H8 := Lib.hid h8
  clear hok h8
  go_enter Tryd.func14, Tryd.ntmps14
  go_wp2_with fail
  refine (rcheck_any s _ (by omega)).mono ?_
  rintro e w1 ⟨rfl, rfl⟩
  rw [Cells.err_ok HK.out]
  go_wp2_with fail
  go_loopg [5, 6, 7] (s.size / 8) (fun g out bad c wr => ∃ q i : Nat, g = s.size / 8 - q ∧ RToRel w s q i out bad c wr)
  case atStart => exact ⟨0, 0, rfl, rfl, Nat.zero_le _, rfl, (Own.made0 w w.heap.size 5 (Nat.le_refl _)).alloc _, made0_next w _ _, ((Below.refl _ _).alloc (Nat.le_refl _) _).alloc (by simp) _⟩
  case round =>
    obtain ⟨q, i, hg, hiq, hi, rfl, hout, hop, hb⟩ := hrel
    have HG := Lib.hid hg
    have HI := Lib.hid hiq
    clear hg
    by_cases hlt : i < s.size
    · have hi8 : i + 8 ≤ s.size := by have := H8.out; omega
      clear hiq
      have HCL := Lib.hid (chunk_len s q i HI.out hi8)
      go_wp2_with fail
      go_loopg [8, 9, 10] 8 (fun g n o c wi => ∃ j : Nat, g = 8 - j ∧ j ≤ 8 ∧ c = .int .i64 (i + j : Nat) ∧ n = .int .i64 (Cells.val ((Cells.chunk s.data.toList q).take j)) ∧ o = .bool (((Cells.chunk s.data.toList q).take j).contains 63) ∧ wi = wr)
      case atStart => exact ⟨0, rfl, Nat.zero_le _, rfl, rfl, rfl, rfl⟩
      case round =>
        obtain ⟨j, hg2, hj, rfl, rfl, rfl, rfl⟩ := hrel
        have HG2 := Lib.hid hg2
        clear hg2
        by_cases hlt2 : j < 8
        · have hjs : i + j < s.size := by omega
          have HV := Lib.hid (cval_step s q j i HI.out hlt2 hjs)
          have HO := Lib.hid (copen_step s q j i HI.out hlt2 hjs)
          have hv : Cells.val ((Cells.chunk s.data.toList q).take j) < 128 := Nat.lt_of_lt_of_le (val_take_lt _ j (by rw [HCL.out]; omega)) (Nat.pow_le_pow_right (by omega) (by omega : j ≤ 7))
          cases h2 : ((Cells.chunk s.data.toList q).take j).contains 63 <;> cases h1 : ((s[i + j].toNat : Int) == 49) <;> cases h3 : ((s[i + j].toNat : Int) == 63)
          all_goals
            go_wp2_with fail
            go_roundg (8 - (j + 1))
            case measure => have := HG2.out; omega
            case rel => exact ⟨j + 1, rfl, by omega, by go_num, by rw [HV.out, h1]; go_num, by rw [HO.out, h2, h3]; rfl, rfl⟩
        · obtain rfl : j = 8 := by omega
          have hfull : (Cells.chunk s.data.toList q).take 8 = Cells.chunk s.data.toList q := List.take_of_length_le (by rw [HCL.out]; omega)
          rw [hfull]
          have HBS := Lib.hid (badB_succ s.data.toList q)
          have hv : Cells.val (Cells.chunk s.data.toList q) < 256 := Cells.val_chunk_lt _ _
          have hv8 : ((Cells.val (Cells.chunk s.data.toList q) : Nat) : Int) = ((UInt8.ofNat (Cells.val (Cells.chunk s.data.toList q))).toNat : Int) := by
            rw [UInt8.toNat_ofNat', Nat.mod_eq_of_lt hv]
          have HV8 := Lib.hid hv8
          have hlb := badB_length s.data.toList q
          have hq : q ≤ 65536 := by have := HI.out; omega
          have hqi : i / 8 = q := by have := HI.out; omega
          have HQI := Lib.hid hqi
          clear hv8 hfull hqi
          cases hc : (Cells.chunk s.data.toList q).contains 63
          · go_wp2_with (at_builtin; refine wpList_app1 5 35 _ 1 infoByte Tryd.underlying35 rfl rfl _ _ rfl _ _ _ rfl hout _ rfl rfl (by rw [bytesL_length, toB_length]; omega) (by rw [bytesL_length, toB_length]; omega) hb.size ?_; intro v' w' hout2 hb2 hg2)
            have hout3 := own_sn HV8.out hout2
            rw [toB_succ] at hout3
            go_roundg (s.size / 8 - (q + 1))
            case measure => have := HG.out; have := HI.out; omega
            case rel => exact ⟨q + 1, i + 8, rfl, by have := HI.out; omega, by omega, by go_num, hout3, by rw [HBS.out, hc, if_neg (by decide), List.append_nil]; exact Own.kept2 hop (Own.others hout hg2) (by decide), hb.trans hb2⟩
          · go_wp2_with (first
              | (at_builtin; refine wpList_app1 3 23 _ 8 info_int Tryd.underlying23 rfl rfl _ _ rfl _ _ _ rfl hop _ rfl rfl (by rw [natsL_length]; omega) (by rw [natsL_length]; omega) hb.size ?_; intro v1 w1 hop2 hb2 hg2; have hout1 := Own.kept2 hout (Own.others hop hg2) (by decide); have hb3 := hb.trans hb2)
              | (at_builtin; refine wpList_app1 5 35 _ 1 infoByte Tryd.underlying35 rfl rfl _ _ rfl _ _ _ rfl hout1 _ rfl rfl (by rw [bytesL_length, toB_length]; omega) (by rw [bytesL_length, toB_length]; omega) hb3.size ?_; intro v2 w2 hout2 hb4 hg4))
            have hout3 := own_sn HV8.out hout2
            rw [toB_succ] at hout3
            have hop3 := nats_sn (n := q) (by have := HQI.out; omega) hop2
            have hop4 := Own.kept2 hop3 (Own.others hout1 hg4) (by decide)
            go_roundg (s.size / 8 - (q + 1))
            case measure => have := HG.out; have := HI.out; omega
            case rel => exact ⟨q + 1, i + 8, rfl, by have := HI.out; omega, by omega, by go_num, hout3, by rw [HBS.out, hc, if_pos rfl]; exact hop4, hb3.trans hb4⟩
    · obtain rfl : i = s.size := by omega
      have e1 : toB s.data.toList q = Cells.toBytes s.data.toList := by rw [← toB_full, toList_length]; congr 1; omega
      have e2 : badB s.data.toList q = Cells.bad s.data.toList := by rw [← badB_full, toList_length]; congr 1; omega
      rw [e1] at hout
      rw [e2] at hop
      have hcv := conv_own (P := Tryd.prog) 35 5 9 Tryd.underlying35 Tryd.underlying5 Tryd.underlying9 hout
      clear hiq
      go_wp2_with fail
      go_ret3
      exact ⟨_, rfl, hop, hb⟩

set_option maxHeartbeats 1000000 in
theorem rto_bad (s : ByteArray) (w : World) (hs : s.size ≤ 65536) (hok : Cells.ok s.data.toList = false) :
    Calls Tryd.prog 14 #[.string s] w fun e w' => e = .returned (.tuple #[.string ⟨#[]⟩, .slice none 0 0, .int .i64 3]) ∧ Below w.heap.size w w' := by
  have HK := Lib.hid hok
  clear hok
  go_enter Tryd.func14, Tryd.ntmps14
  go_wp2_with fail
  refine (rcheck_any s _ (by omega)).mono ?_
  rintro e w1 ⟨rfl, rfl⟩
  rw [Cells.err_bad HK.out]
  go_wp2_with fail
  go_ret3
  exact ⟨rfl, Below.refl _ _⟩
set_option maxHeartbeats 1000000 in
theorem rto_short (s : ByteArray) (w : World) (hs : s.size ≤ 65536) (hok : Cells.ok s.data.toList = true) (h8 : s.size % 8 ≠ 0) :
    Calls Tryd.prog 14 #[.string s] w fun e w' => e = .returned (.tuple #[.string ⟨#[]⟩, .slice none 0 0, .int .i64 4]) ∧ Below w.heap.size w w' := by
  have h8z : ((s.size : Int) % 8 != 0) = true := by
    rw [bne_iff_ne]
    omega
  have HK := Lib.hid hok
  clear hok h8
  go_enter Tryd.func14, Tryd.ntmps14
  go_wp2_with fail
  refine (rcheck_any s _ (by omega)).mono ?_
  rintro e w1 ⟨rfl, rfl⟩
  rw [Cells.err_ok HK.out]
  go_wp2_with fail
  go_ret3
  exact ⟨rfl, Below.refl _ _⟩

/-- Two slices that read as one list of numbers. -/
def IsL (w : World) (v : Value) (l : List Nat) : Prop := ∃ ao cap, v = .slice ao l.length cap ∧ ∀ k n, l[k]? = some n → ∃ g, ao = some ⟨g, 0, none⟩ ∧ w.cell? ⟨g, k, none⟩ = some (.int .i64 (n : Nat))
theorem IsL.of_own {w : World} {B : Nat} {v : Value} {l : List Nat} (h : Own w B 3 v (natsL l)) : IsL w v l := by
  obtain ⟨ao, cap, rfl, hg⟩ := h.form
  refine ⟨ao, cap, by rw [natsL_length], fun k n hk => ?_⟩
  have hlt : k < l.length := (List.getElem?_eq_some_iff.1 hk).1
  obtain ⟨g, rfl⟩ := hg (by rw [natsL_length]; omega)
  exact ⟨g, rfl, h.cell k _ (natsL_get l k n hk)⟩
theorem IsL.nil (w : World) : IsL w (.slice none 0 0) [] := ⟨none, 0, rfl, fun k n hk => by simp at hk⟩
theorem IsL.below {w w' : World} {v : Value} {l : List Nat} (h : IsL w v l) (hb : Below w.heap.size w w') : IsL w' v l := by
  obtain ⟨ao, cap, rfl, hc⟩ := h
  refine ⟨ao, cap, rfl, fun k n hk => ?_⟩
  obtain ⟨g, rfl, hcell⟩ := hc k n hk
  exact ⟨g, rfl, (hb.cell (World.block_lt_of_cell? _ _ hcell)).trans hcell⟩

set_option maxHeartbeats 1000000 in
theorem same_any (u v : Value) (l : List Nat) (w : World) (hu : IsL w u l) (hv : IsL w v l) (hl : l.length ≤ 65536) :
    Calls Tryd.prog 17 #[u, v] w fun e w' => e = .returned (.bool true) ∧ Below w.heap.size w w' := by
  obtain ⟨ao, cap, rfl, hu⟩ := hu
  obtain ⟨ao', cap', rfl, hv⟩ := hv
  have hbn : ((l.length : Int) != l.length) = false := by simp
  have HU := Lib.hid hu
  have HV := Lib.hid hv
  clear hu hv
  go_enter Tryd.func17, Tryd.ntmps17
  go_wp2_with fail
  go_loopw [13] (fun i wr => ∃ k m : Nat, k ≤ l.length ∧ i = .int .i64 k ∧ wr = w.drewN m) (fun i _ => l.length - (intOf i).toNat)
  case atStart => exact ⟨0, 0, Nat.zero_le _, rfl, rfl⟩
  case round =>
    obtain ⟨k, m, hk, rfl, rfl⟩ := hrel
    by_cases hlt : k < l.length
    · obtain ⟨g, rfl, hc1⟩ := HU.out k l[k] (List.getElem?_eq_getElem hlt)
      obtain ⟨g', rfl, hc2⟩ := HV.out k l[k] (List.getElem?_eq_getElem hlt)
      go_wp2_with fail
      go_quiet (fail)
      go_wp2_with fail
      go_roundw
      case rel => exact ⟨k + 1, _, by omega, by go_num, rfl⟩
      case measure => simp [intOf]; omega
    · go_wp2_with fail
      go_ret
      exact ⟨rfl, below_drewN (Below.refl _ _) _⟩
end Go.Proofs.YtknppmfnmbkebaaDoor
