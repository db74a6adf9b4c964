/-
  The laws InterleavePermutation and InterleaveTrivial, walked.
-/
import Derived.Test.YtkeknmncbncgkaaInterLaw2
import Derived.Test.YtkeknmncbncgkaaOwn
import Derived.BigRegion
import Derived.RegionTactic
import Derived.Laws.BitsAllLaws
namespace Go.Proofs.Ytkeknmncbncgkaa
open Go.RowKit

theorem info_bool : (Try.prog.info? 4).map (fun i => (i.zero, i.size, i.bytes)) = some (some (.bool false), 1, 1) := by kernel_rfl

/-- Which positions of the interleaved form have been met behind k rounds. -/
def metB (n r k j : Nat) : Bool := (List.range k).any fun i => Inter.idx n r i == j
theorem metB_new (n r k : Nat) (hr : 0 < r) (hk : k < n) : metB n r k (Inter.idx n r k) = false := by
  simp only [metB, List.any_eq_false, List.mem_range, beq_iff_eq]
  intro i hi e
  have := Inter.idx_inj n r i k hr (by omega) hk e
  omega
theorem metB_succ (n r k j : Nat) : metB n r (k + 1) j = if j = Inter.idx n r k then true else metB n r k j := by
  simp only [metB, List.range_succ, List.any_append, List.any_cons, List.any_nil, Bool.or_false]
  by_cases e : j = Inter.idx n r k
  · subst e
    simp
  · rw [if_neg e, beq_eq_false_iff_ne.2 (fun h => e h.symm), Bool.or_false]

def PermLaw (w1 : World) (n r : Nat) (i : Value) (wr : World) : Prop :=
  ∃ k : Nat, k ≤ n ∧ i = .int .i64 k ∧ wr.rowIs w1.heap.size 4 n (fun j => .bool (metB n r k j)) ∧ Below w1.heap.size w1 wr

theorem PermLaw.step {w1 wr : World} {n r k m B : Nat} (hB : B = w1.heap.size) (hk : k < n) (hrow : wr.rowIs B 4 n (fun j => .bool (metB n r k j))) (hb : Below B w1 wr) :
    PermLaw w1 n r (.int .i64 (↑k + 1)) ((wr.drewN m).setCell ⟨B, Inter.idx n r k, none⟩ (.bool true)) := by
  subst hB
  refine ⟨k + 1, by omega, by go_num, ?_, (below_drewN hb m).setCell (by simp) _⟩
  refine (World.rowIs.set (w := wr.drewN m) hrow (Inter.idx n r k) (.bool true)).congr fun j _ => ?_
  rw [metB_succ]
  by_cases e : j = Inter.idx n r k
  · simp [e]
  · simp [e]

theorem same_byte (X s : ByteArray) (r k : Nat) (hr : 0 < r) (hX : X.data.toList = Inter.inter s.data.toList r) (hk : k < s.size) (hx : Inter.idx s.size r k < X.size) : X[Inter.idx s.size r k] = s[k] := by
  have h := Inter.inter_idx s.data.toList r k hr (by rw [toList_length]; exact hk)
  rw [← hX, toList_length, get_of_lt X _ hx, get_of_lt s k hk] at h
  exact Option.some.inj h

set_option maxHeartbeats 1000000 in
theorem law_permutation (a0 : ByteArray) (a1 : Int) (w0 : a0.size ≤ maxLen) (w1 : (Lit.int .i64 a1).wf = true) (w : World) :
    Calls Try.prog 4 #[.string a0, .int .i64 a1] w fun e w' => e = .returned (.bool true) ∧ Below w.heap.size w w' := by
  obtain ⟨l1, u1⟩ := wf_int w1
  clear w1
  unfold maxLen at w0
  by_cases h1 : 300 < (a0.size : Int)
  · go_enter Try.func4, Try.ntmps4
    go_wp2_with (go_at_call 12; refine (awake_any _).mono ?_; rintro e w1 ⟨rfl, hb⟩)
    go_ret
    exact ⟨rfl, hb⟩
  by_cases h2 : a1 < 1
  · go_enter Try.func4, Try.ntmps4
    go_wp2_with (go_at_call 12; refine (awake_any _).mono ?_; rintro e w1 ⟨rfl, hb⟩)
    go_ret
    exact ⟨rfl, hb⟩
  obtain ⟨r, rfl⟩ := Int.eq_ofNat_of_zero_le (show 0 ≤ a1 by omega)
  have hr : 0 < r := by omega
  have hmk := run_make_row' (P := Try.prog) 29 4 (.bool false) 1 Try.underlying29 info_bool rfl .i64 .i64 a0.size (by omega) (by omega)
  go_enter Try.func4, Try.ntmps4
  go_wp2_with fail
  refine (Interleave_abs a0 r _ (by omega) (by omega) (by omega)).mono ?_
  rintro e w1 ⟨X, rfl, hX, zX, hb1⟩
  rw [Int.toNat_natCast] at hX
  go_wp2_with fail
  go_loopw [8] (fun i wr => PermLaw w1 a0.size r i wr) (fun i _ => a0.size - (intOf i).toNat)
  case atStart => exact ⟨0, by omega, rfl, (World.rowIs_made _ _ _ _).congr (fun j _ => by simp [metB]), (Below.refl _ _).alloc (Nat.le_refl _) _⟩
  case round =>
    obtain ⟨k, hk, rfl, hrow, hb⟩ := hrel
    by_cases hlt : k < a0.size
    · have hix := Inter.idx_lt a0.size r k (by omega) hlt
      have hcell := hrow.cell hix
      simp only [metB_new a0.size r k hr hlt] at hcell
      have hfr := hrow.frozen (Inter.idx a0.size r k)
      have hxX : Inter.idx a0.size r k < X.size := by rw [zX.out]; exact hix
      have hne : (((X[Inter.idx a0.size r k]).toNat : Int) != ((a0[k]).toNat : Int)) = false := by rw [same_byte X a0 r k hr hX.out hlt hxX]; simp
      go_wp2_with (go_at_call 10; refine (Index_ok k a0.size r _ (by omega) hlt (by omega) (by omega)).mono ?_; rintro e w2 ⟨rfl, m, rfl⟩)
      go_quiet (fail)
      go_wp2_with fail
      go_roundw
      case rel => exact PermLaw.step rfl hlt hrow hb
      case measure => simp [intOf]; omega
    · go_wp2_with (go_at_call 12; refine (awake_any _).mono ?_; rintro e w5 ⟨rfl, hb2⟩)
      go_ret
      exact ⟨rfl, bchain (bchain hb1 hb) hb2⟩

/-- The first k bytes replaced. -/
def xorTo (k : Nat) (l : List UInt8) (b : UInt8) : List UInt8 := (l.take k).map (· ^^^ b) ++ l.drop k
theorem xorTo_length (k : Nat) (l : List UInt8) (b : UInt8) : (xorTo k l b).length = l.length := by simp [xorTo]; omega
theorem xorTo_zero (l : List UInt8) (b : UInt8) : xorTo 0 l b = l := by simp [xorTo]
theorem xorTo_full (l : List UInt8) (b : UInt8) : xorTo l.length l b = l.map (· ^^^ b) := by simp [xorTo]
theorem xorTo_get (k : Nat) (l : List UInt8) (b : UInt8) (hk : k < l.length) : (xorTo k l b)[k]? = some l[k] := by
  rw [xorTo, List.getElem?_append_right (by simp; omega)]
  simp [Nat.min_eq_left (Nat.le_of_lt hk), hk]
theorem xorTo_succ (k : Nat) (l : List UInt8) (b : UInt8) (hk : k < l.length) : (xorTo k l b).set k (l[k] ^^^ b) = xorTo (k + 1) l b := by
  have h1 : ((l.take k).map (· ^^^ b)).length = k := by simp; omega
  rw [xorTo, List.set_append_right _ _ (by omega), h1, Nat.sub_self, xorTo, List.drop_eq_getElem_cons hk, List.set_cons_zero, List.take_succ_eq_append_getElem hk, List.map_append, List.append_assoc]
  rfl

theorem xor_cell (s : ByteArray) (b : UInt8) (k : Nat) (hk : k < s.size) : (bytesL (xorTo k s.data.toList b))[k]? = some (.int .u8 s[k].toNat) := by
  have h := xorTo_get k s.data.toList b (by rw [toList_length]; exact hk)
  rw [bytesL, List.getElem?_map, h]
  rfl
theorem xor_lt (s : ByteArray) (b : UInt8) (k : Nat) (hk : k < s.size) : k < (bytesL (xorTo k s.data.toList b)).length := by
  rw [bytesL_length, xorTo_length, toList_length]
  exact hk
theorem xor_val (c b : UInt8) : bits .xor .u8 (c.toNat : Int) (b.toNat : Int) = ((c ^^^ b).toNat : Int) := by
  rw [u8_xor_nat c.toNat b.toNat (UInt8.toNat_lt c) (UInt8.toNat_lt b), UInt8.toNat_xor]

def TrivRel (w2 : World) (s b : ByteArray) (by8 : UInt8) (c : Value) (wr : World) : Prop :=
  ∃ k : Nat, k ≤ s.size ∧ c = .int .i64 k ∧ Row wr w2.heap.size 5 (bytesL (xorTo k s.data.toList by8)) ∧ Row wr (w2.heap.size + 1) 5 (bytesL (xorTo k b.data.toList by8)) ∧ Below w2.heap.size w2 wr

theorem TrivRel.step {w2 wr : World} {s b : ByteArray} {b8 : UInt8} {k B : Nat} (hB : B = w2.heap.size) (hk : k < s.size) (hkb : k < b.size) (h1 : Row wr B 5 (bytesL (xorTo k s.data.toList b8))) (h2 : Row wr (B + 1) 5 (bytesL (xorTo k b.data.toList b8))) (hb : Below B w2 wr) :
    TrivRel w2 s b b8 (.int .i64 (↑k + 1)) (((wr.setCell ⟨B, k, none⟩ (.int .u8 ((s[k].toNat ^^^ b8.toNat : Nat) : Int))).setCell ⟨B + 1, k, none⟩ (.int .u8 ((b[k].toNat ^^^ b8.toNat : Nat) : Int))).drew) := by
  subst hB
  have e1 : xorTo (k + 1) s.data.toList b8 = (xorTo k s.data.toList b8).set k (s[k] ^^^ b8) := (xorTo_succ k _ b8 (by rw [toList_length]; exact hk)).symm
  have e2 : xorTo (k + 1) b.data.toList b8 = (xorTo k b.data.toList b8).set k (b[k] ^^^ b8) := (xorTo_succ k _ b8 (by rw [toList_length]; exact hkb)).symm
  refine ⟨k + 1, by omega, by go_num, ?_, ?_, ((hb.setCell (by simp) _).setCell (by simp) _).drew⟩
  · rw [e1, ← bytesL_set, ← UInt8.toNat_xor]
    exact ((h1.store k _).far (by simp) _).drew
  · rw [e2, ← bytesL_set, ← UInt8.toNat_xor]
    exact ((h2.far (by simp) _).store k _).drew

set_option maxHeartbeats 2000000 in
theorem law_trivial (a0 : ByteArray) (a1 a2 : Int) (w0 : a0.size ≤ maxLen) (w1 : (Lit.int .i64 a1).wf = true) (w2 : (Lit.int .u8 a2).wf = true) (w : World) :
    Calls Try.prog 6 #[.string a0, .int .i64 a1, .int .u8 a2] w fun e w' => e = .returned (.bool true) ∧ Below w.heap.size w w' := by
  obtain ⟨l1, u1⟩ := wf_int w1
  obtain ⟨l2, u2⟩ := wf_u8 w2
  clear w1 w2
  unfold maxLen at w0
  by_cases h1 : 300 < (a0.size : Int)
  · go_enter Try.func6, Try.ntmps6
    go_wp2_with (go_at_call 12; refine (awake_any _).mono ?_; rintro e w1 ⟨rfl, hb⟩)
    go_ret
    exact ⟨rfl, hb⟩
  by_cases h2 : a1 < 1
  · go_enter Try.func6, Try.ntmps6
    go_wp2_with (go_at_call 12; refine (awake_any _).mono ?_; rintro e w1 ⟨rfl, hb⟩)
    go_ret
    exact ⟨rfl, hb⟩
  obtain ⟨r, rfl⟩ := Int.eq_ofNat_of_zero_le (show 0 ≤ a1 by omega)
  obtain ⟨b8, rfl⟩ : ∃ b : UInt8, a2 = (b.toNat : Int) := ⟨UInt8.ofNat a2.toNat, by simp; omega⟩
  have hr : 0 < r := by omega
  go_enter Try.func6, Try.ntmps6
  go_wp2_with fail
  refine (Interleave_abs a0 1 _ (by omega) (by omega) (by omega)).mono ?_
  rintro e w1 ⟨U, rfl, hU, _, hb1⟩
  obtain rfl : U = a0 := of_toList (by rw [hU.out]; exact Inter.inter_one _)
  go_wp2_with fail
  refine (Interleave_abs U r _ (by omega) (by omega) (by omega)).mono ?_
  rintro e w2 ⟨X, rfl, hX, zX, hb2⟩
  rw [Int.toNat_natCast] at hX
  obtain ⟨cap1, w3, run1, row1, bel1, sz1⟩ := bytes_of (P := Try.prog) 9 33 5 Try.underlying9 Try.underlying33 Try.underlying5 U w2
  obtain ⟨cap2, w4, run2, row2, bel2, sz2⟩ := bytes_of (P := Try.prog) 9 33 5 Try.underlying9 Try.underlying33 Try.underlying5 X w3
  rw [sz1] at run2 row2
  have SZ1 := Lib.hid sz1
  have SZ2 := Lib.hid sz2
  clear sz1 sz2
  by_cases hw : U.size ≤ r
  · obtain rfl : X = U := of_toList (by rw [hX.out]; exact Inter.inter_wide _ r hr (by rw [toList_length]; exact hw))
    go_wp2_with fail
    go_loopw [63] (fun c wr => TrivRel w2 X X b8 c wr) (fun c _ => X.size - (intOf c).toNat)
    case atStart => exact ⟨0, Nat.zero_le _, rfl, by rw [xorTo_zero]; exact row1.below bel2 (by rw [SZ1.out]; omega), by rw [xorTo_zero]; exact row2, bel1.trans (bel2.mono (by rw [SZ1.out]; omega))⟩
    case round =>
      obtain ⟨k, hk, rfl, hr1, hr2, hb⟩ := hrel
      have hsx : X.size = X.size := rfl
      have hltX : k < X.size → k < X.size := fun h => by omega
      clear hsx
      by_cases hlt : k < X.size
      · have hltX := hltX hlt
        have hc1 := hr1.cell k _ (xor_cell X b8 k hlt)
        have hc2 := hr2.cell k _ (xor_cell X b8 k hltX)
        have hf1 := hr1.frozen k (xor_lt X b8 k hlt)
        have hf2 := hr2.frozen k (xor_lt X b8 k hltX)
        have x1 := xor_val X[k] b8
        have x2 := xor_val X[k] b8
        go_wp2_with fail
        go_region
        go_wp2_with fail
        go_roundw
        case rel => exact TrivRel.step rfl hlt hltX hr1 hr2 hb
        case measure => simp [intOf]; omega
      · obtain rfl : k = X.size := by omega
        clear hltX
        have cv1 := conv_row (P := Try.prog) 33 5 9 Try.underlying33 Try.underlying5 Try.underlying9 hr1 X.size cap1 (by rw [xorTo_length, toList_length])
        obtain ⟨S, hS⟩ : ∃ S : ByteArray, S = ⟨(xorTo X.size X.data.toList b8).toArray⟩ := ⟨_, rfl⟩
        rw [← hS] at cv1
        have zS : S.size = X.size := by rw [hS, mk_size, xorTo_length, toList_length]
        have dS : S.data.toList = X.data.toList.map (· ^^^ b8) := by rw [hS, ← xorTo_full, toList_length]
        have cS : S.size ≤ 300 := by omega
        have DS := Lib.hid dS
        clear hS zS dS
        go_wp2_with fail
        refine (Interleave_abs S r _ (by omega) (by omega) (by omega)).mono ?_
        rintro e w5 ⟨Z, rfl, hZ, _, hb5⟩
        rw [Int.toNat_natCast] at hZ
        have cv2 := conv_row (P := Try.prog) 33 5 9 Try.underlying33 Try.underlying5 Try.underlying9 (hr2.below hb5 hr2.lt) X.size cap2 (by rw [xorTo_length, toList_length])
        have e2 : (⟨(xorTo X.size X.data.toList b8).toArray⟩ : ByteArray) = Z := of_toList (by
          rw [hZ.out, DS.out, Inter.inter_map _ _ hr, ← hX.out, ← xorTo_full, toList_length])
        rw [e2] at cv2
        clear e2
        go_wp2_with (go_at_call 12; refine (awake_any _).mono ?_; rintro e w6 ⟨rfl, hb6⟩)
        go_ret
        exact ⟨rfl, bchain (bchain (bchain (bchain hb1 hb2) hb) hb5) hb6⟩
  · skip
    go_wp2_with fail
    go_loopw [63] (fun c wr => TrivRel w2 U X b8 c wr) (fun c _ => U.size - (intOf c).toNat)
    case atStart => exact ⟨0, Nat.zero_le _, rfl, by rw [xorTo_zero]; exact row1.below bel2 (by rw [SZ1.out]; omega), by rw [xorTo_zero]; exact row2, bel1.trans (bel2.mono (by rw [SZ1.out]; omega))⟩
    case round =>
      obtain ⟨k, hk, rfl, hr1, hr2, hb⟩ := hrel
      have hsx : X.size = U.size := zX.out
      have hltX : k < U.size → k < X.size := fun h => by omega
      have HSX := Lib.hid hsx
      clear hsx
      by_cases hlt : k < U.size
      · have hltX := hltX hlt
        have hc1 := hr1.cell k _ (xor_cell U b8 k hlt)
        have hc2 := hr2.cell k _ (xor_cell X b8 k hltX)
        have hf1 := hr1.frozen k (xor_lt U b8 k hlt)
        have hf2 := hr2.frozen k (xor_lt X b8 k hltX)
        have x1 := xor_val U[k] b8
        have x2 := xor_val X[k] b8
        go_wp2_with fail
        go_region
        go_wp2_with fail
        go_roundw
        case rel => exact TrivRel.step rfl hlt hltX hr1 hr2 hb
        case measure => simp [intOf]; omega
      · obtain rfl : k = U.size := by omega
        clear hltX
        have cv1 := conv_row (P := Try.prog) 33 5 9 Try.underlying33 Try.underlying5 Try.underlying9 hr1 U.size cap1 (by rw [xorTo_length, toList_length])
        obtain ⟨S, hS⟩ : ∃ S : ByteArray, S = ⟨(xorTo U.size U.data.toList b8).toArray⟩ := ⟨_, rfl⟩
        rw [← hS] at cv1
        have zS : S.size = U.size := by rw [hS, mk_size, xorTo_length, toList_length]
        have dS : S.data.toList = U.data.toList.map (· ^^^ b8) := by rw [hS, ← xorTo_full, toList_length]
        have cS : S.size ≤ 300 := by omega
        have DS := Lib.hid dS
        clear hS zS dS
        go_wp2_with fail
        refine (Interleave_abs S r _ (by omega) (by omega) (by omega)).mono ?_
        rintro e w5 ⟨Z, rfl, hZ, _, hb5⟩
        rw [Int.toNat_natCast] at hZ
        have cv2 := conv_row (P := Try.prog) 33 5 9 Try.underlying33 Try.underlying5 Try.underlying9 (hr2.below hb5 hr2.lt) X.size cap2 (by rw [xorTo_length, toList_length])
        have e2 : (⟨(xorTo U.size X.data.toList b8).toArray⟩ : ByteArray) = Z := of_toList (by
          rw [hZ.out, DS.out, Inter.inter_map _ _ hr, ← hX.out, ← xorTo_full, toList_length, HSX.out])
        rw [e2] at cv2
        clear e2
        go_wp2_with (go_at_call 12; refine (awake_any _).mono ?_; rintro e w6 ⟨rfl, hb6⟩)
        go_ret
        exact ⟨rfl, bchain (bchain (bchain (bchain hb1 hb2) hb) hb5) hb6⟩
end Go.Proofs.Ytkeknmncbncgkaa
