/-
  The law CellsLinear, walked.
-/
import Derived.Test.YtknppmfnmbkebaaDoorCellsLaw2
namespace Go.Proofs.YtknppmfnmbkebaaDoor
open Go.RowKit

namespace Cells
def flipTo (k : Nat) (l : List UInt8) : List UInt8 := (l.take k).map (· ^^^ 255) ++ l.drop k
theorem flipTo_length (k : Nat) (l : List UInt8) : (flipTo k l).length = l.length := by simp [flipTo]; omega
theorem flipTo_zero (l : List UInt8) : flipTo 0 l = l := by simp [flipTo]
theorem flipTo_full (l : List UInt8) : flipTo l.length l = l.map (· ^^^ 255) := by simp [flipTo]
theorem flipTo_get (k : Nat) (l : List UInt8) (hk : k < l.length) : (flipTo k l)[k]? = some l[k] := by
  unfold flipTo
  rw [List.getElem?_append_right (by simp; omega)]
  simp [Nat.min_eq_left (Nat.le_of_lt hk), hk]
theorem flipTo_succ (k : Nat) (l : List UInt8) (hk : k < l.length) : (flipTo k l).set k (l[k] ^^^ 255) = flipTo (k + 1) l := by
  unfold flipTo
  rw [List.set_append_right _ _ (by simp; omega), List.take_succ_eq_append_getElem hk, List.map_append, List.append_assoc]
  congr 1
  rw [List.length_map, List.length_take, Nat.min_eq_left (Nat.le_of_lt hk), Nat.sub_self, List.drop_eq_getElem_cons hk]
  rfl
theorem and_pred (m : Nat) (h : m < 256) (h0 : 0 < m) : bits .and .u8 (m : Int) ((m : Int) - 1) = ((m &&& (m - 1) : Nat) : Int) := by
  have e : (m : Int) - 1 = ((m - 1 : Nat) : Int) := by omega
  rw [e, u8_and_nat m (m - 1) h (by omega)]
theorem xor_flip (x : UInt8) : bits .xor .u8 (x.toNat : Int) 255 = ((x ^^^ 255).toNat : Int) := by
  rw [UInt8.toNat_xor]
  exact u8_xor_nat x.toNat 255 (UInt8.toNat_lt x) (by decide)
theorem ham_le (a b : List UInt8) : ham a b ≤ 8 * a.length := by
  induction a generalizing b with
  | nil => simp [ham]
  | cons x a ih =>
    cases b with
    | nil => simp [ham]
    | cons y b =>
      have := ih b
      have h2 := ones_le (x ^^^ y).toNat
      simp only [ham, List.zip_cons_cons, List.map_cons, List.sum_cons, List.length_cons] at this ⊢
      omega
end Cells
theorem flip_cell (s : ByteArray) (k : Nat) (hk : k < s.size) : (bytesL (Cells.flipTo k s.data.toList))[k]? = some (.int .u8 s[k].toNat) := by
  have h := Cells.flipTo_get k s.data.toList (by rw [toList_length]; exact hk)
  rw [bytesL, List.getElem?_map, h]
  rfl
theorem ham_succ (a b : ByteArray) (k : Nat) (ha : k < a.size) (hb : k < b.size) : Cells.ham (a.data.toList.take (k + 1)) (b.data.toList.take (k + 1)) = Cells.ham (a.data.toList.take k) (b.data.toList.take k) + Cells.ones (a[k].toNat ^^^ b[k].toNat) := by
  rw [← UInt8.toNat_xor]
  exact Cells.ham_take_succ a.data.toList b.data.toList k (by rw [toList_length]; exact ha) (by rw [toList_length]; exact hb)

set_option maxHeartbeats 2000000 in
theorem law_linear (a0 a1 : ByteArray) (w0 : a0.size ≤ 140737488351232) (_w1 : a1.size ≤ 140737488351232) (w : World) :
    Calls Tryd.prog 7 #[.string a0, .string a1] w fun e w' => e = .returned (.bool true) ∧ Below w.heap.size w w' := by
  by_cases h1 : 500 < (a0.size : Int)
  · go_enter Tryd.func7, Tryd.ntmps7
    go_wp2_with (go_at_call 12; refine (alive_any _).mono ?_; rintro e w1 ⟨rfl, hb1⟩)
    go_ret
    exact ⟨rfl, hb1⟩
  by_cases h2 : a0.size = a1.size
  rotate_left
  · have h2' : ((a0.size : Int) != (a1.size : Int)) = true := by rw [bne_iff_ne]; omega
    go_enter Tryd.func7, Tryd.ntmps7
    go_wp2_with (go_at_call 12; refine (alive_any _).mono ?_; rintro e w1 ⟨rfl, hb1⟩)
    go_ret
    exact ⟨rfl, hb1⟩
  have h2' : ((a0.size : Int) != (a1.size : Int)) = false := by rw [bne_eq_false_iff_eq]; omega
  go_enter Tryd.func7, Tryd.ntmps7
  go_wp2_with (go_at_call 12; refine (alive_any _).mono ?_; rintro e w1 ⟨rfl, hb1⟩; obtain ⟨cap1, w3, run1, row1, bel1, sz1⟩ := bytes_of (P := Tryd.prog) 9 35 5 Tryd.underlying9 Tryd.underlying35 Tryd.underlying5 a0 w1; clear sz1)
  go_loopg [5, 27] a0.size (fun g n i wr => ∃ k : Nat, g = a0.size - k ∧ k ≤ a0.size ∧ i = .int .i64 k ∧ n = .int .i64 (Cells.ham (a0.data.toList.take k) (a1.data.toList.take k)) ∧ Row wr w1.heap.size 5 (bytesL (Cells.flipTo k a0.data.toList)) ∧ Below w1.heap.size w1 wr)
  case atStart => exact ⟨0, rfl, Nat.zero_le _, rfl, rfl, by rw [Cells.flipTo_zero]; exact row1, bel1⟩
  case round =>
    obtain ⟨k, hg, hk, rfl, rfl, hrow, hb⟩ := hrel
    have HG := Lib.hid hg
    clear hg run1
    by_cases hlt : k < a0.size
    · have hlt1 : k < a1.size := by omega
      have hcell := hrow.cell k _ (flip_cell a0 k hlt)
      have hfr := hrow.frozen k (by rw [bytesL_length, Cells.flipTo_length, toList_length]; exact hlt)
      have HH := Lib.hid (ham_succ a0 a1 k hlt hlt1)
      go_wp2_with fail
      go_quiet (fail)
      have hxx := u8_xor_nat a0[k].toNat a1[k].toNat (UInt8.toNat_lt _) (UInt8.toNat_lt _)
      have hxl : a0[k].toNat ^^^ a1[k].toNat < 256 := by
        rw [← UInt8.toNat_xor]
        exact UInt8.toNat_lt _
      have hHl := Cells.ham_le (a0.data.toList.take k) (a1.data.toList.take k)
      have hHl2 : (a0.data.toList.take k).length ≤ 500 := by rw [List.length_take, toList_length]; omega
      generalize a0[k].toNat ^^^ a1[k].toNat = X0 at *
      generalize Cells.ham (a0.data.toList.take k) (a1.data.toList.take k) = H0 at *
      have ho8 := Cells.ones_le X0
      have HXX := Lib.hid hxx
      clear hxx
      go_wp2_with fail
      go_loopg [5, 8] X0 (fun g n x wi => ∃ m c : Nat, g = m ∧ m ≤ X0 ∧ c + Cells.ones m = H0 + Cells.ones X0 ∧ x = .int .u8 m ∧ n = .int .i64 c ∧ wi = wr.drewN nq)
      case atStart => exact ⟨X0, H0, rfl, Nat.le_refl _, rfl, by rw [HXX.out], rfl, rfl⟩
      case round =>
        obtain ⟨m, c, hg2, hm, hc, rfl, rfl, rfl⟩ := hrel
        have HG2 := Lib.hid hg2
        clear hg2
        by_cases hpos : 0 < m
        · obtain ⟨o1, o2⟩ := Cells.ones_step m (by omega) hpos
          go_wp2_with fail
          rw [Cells.and_pred m (by omega) hpos]
          go_roundg (m &&& (m - 1))
          case measure => have := HG2.out; omega
          case rel => exact ⟨m &&& (m - 1), c + 1, rfl, by omega, by omega, rfl, by go_num, rfl⟩
        · obtain rfl : m = 0 := by omega
          rw [Cells.ones_zero] at hc
          go_wp2_with fail
          rw [Cells.xor_flip]
          go_roundg (a0.size - (k + 1))
          case measure => have := HG.out; omega
          case rel => exact ⟨k + 1, rfl, by omega, by go_num, by rw [HH.out, ← hc]; rfl, by
            have e := Cells.flipTo_succ k a0.data.toList (by rw [toList_length]; exact hlt)
            have e2 : a0.data.toList[k]'(by rw [toList_length]; exact hlt) = a0[k] := rfl
            rw [e2] at e
            rw [← e, ← bytesL_set]
            exact (hrow.drewN nq).store k _, (below_drewN hb nq).setCell (by simp) _⟩
    · obtain rfl : k = a0.size := by omega
      have e1 : a0.data.toList.take a0.size = a0.data.toList := List.take_of_length_le (by rw [toList_length]; omega)
      have e2 : a1.data.toList.take a0.size = a1.data.toList := List.take_of_length_le (by rw [toList_length]; omega)
      have e3 : Cells.flipTo a0.size a0.data.toList = a0.data.toList.map (· ^^^ 255) := by rw [← Cells.flipTo_full, toList_length]
      rw [e1, e2]
      rw [e3] at hrow
      clear e1 e2 e3
      go_wp2_with fail
      refine (from_any a0 _ (by omega)).mono ?_
      rintro e w4 ⟨rfl, hb4⟩
      have hb5 := hb.trans (hb4.mono hb.size)
      have hrow4 := hrow.below hb4 (hrow.lt)
      clear hb hb4 hrow
      have zX : (⟨(Cells.fromBytes a0.data.toList).toArray⟩ : ByteArray).size = 8 * a0.size := by rw [mk_size, Cells.fromBytes_length, toList_length]
      have dX : (⟨(Cells.fromBytes a0.data.toList).toArray⟩ : ByteArray).data.toList = Cells.fromBytes a0.data.toList := rfl
      generalize hX : (⟨(Cells.fromBytes a0.data.toList).toArray⟩ : ByteArray) = X at zX dX ⊢
      have HX := Lib.hid hX
      have DX := Lib.hid dX
      clear hX dX
      go_wp2_with fail
      refine (from_any a1 _ (by omega)).mono ?_
      rintro e w5 ⟨rfl, hb6⟩
      have hb7 := hb5.trans (hb6.mono hb5.size)
      have hrow5 := hrow4.below hb6 (hrow4.lt)
      clear hb5 hb6 hrow4
      have zY : (⟨(Cells.fromBytes a1.data.toList).toArray⟩ : ByteArray).size = 8 * a1.size := by rw [mk_size, Cells.fromBytes_length, toList_length]
      have dY : (⟨(Cells.fromBytes a1.data.toList).toArray⟩ : ByteArray).data.toList = Cells.fromBytes a1.data.toList := rfl
      generalize (⟨(Cells.fromBytes a1.data.toList).toArray⟩ : ByteArray) = Y at zY dY ⊢
      have DY := Lib.hid dY
      clear dY
      go_wp2_with fail
      refine (dist_any X Y _ (by omega) (by omega)).mono ?_
      rintro e w6 ⟨rfl, hb8⟩
      have hb9 := hb7.trans (hb8.mono hb7.size)
      have hrow6 := hrow5.below hb8 (hrow5.lt)
      clear hb7 hb8 hrow5
      have kXY : (Cells.ok X.data.toList && Cells.ok Y.data.toList) = true := by rw [DX.out, DY.out, Cells.fromBytes_ok, Cells.fromBytes_ok]; rfl
      have lXY : X.data.toList.length = Y.data.toList.length := by rw [toList_length, toList_length]; omega
      rw [Cells.distV_ok kXY lXY, Cells.distE_ok kXY lXY, DX.out, DY.out, Cells.dist_from]
      clear kXY lXY
      have hcv := conv_row (P := Tryd.prog) 35 5 9 Tryd.underlying35 Tryd.underlying5 Tryd.underlying9 hrow6 a1.size cap1 (by rw [List.length_map, toList_length]; omega)
      have zF : (⟨(a0.data.toList.map (· ^^^ 255)).toArray⟩ : ByteArray).size = a0.size := by rw [mk_size, List.length_map, toList_length]
      have dF : (⟨(a0.data.toList.map (· ^^^ 255)).toArray⟩ : ByteArray).data.toList = a0.data.toList.map (· ^^^ 255) := rfl
      generalize (⟨(a0.data.toList.map (· ^^^ 255)).toArray⟩ : ByteArray) = F at zF dF hcv
      have DF := Lib.hid dF
      clear dF
      generalize Cells.ham a0.data.toList a1.data.toList = H0
      go_wp2_with fail
      refine (from_any F _ (by omega)).mono ?_
      rintro e w7 ⟨rfl, hb10⟩
      have e7 : (⟨(Cells.fromBytes F.data.toList).toArray⟩ : ByteArray) = ⟨(Cells.invert X.data.toList).toArray⟩ := by rw [DF.out, Cells.invert_from, DX.out]
      rw [e7]
      generalize hZ : (⟨(Cells.invert X.data.toList).toArray⟩ : ByteArray) = Z
      have HZ := Lib.hid hZ
      have hb11 := hb9.trans (hb10.mono hb9.size)
      clear hZ hb9 hb10 hcv e7
      go_wp2_with fail
      refine (from_any a0 _ (by omega)).mono ?_
      rintro e w8 ⟨rfl, hb12⟩
      have hb13 := hb11.trans (hb12.mono hb11.size)
      clear hb11 hb12
      rw [HX.out]
      go_wp2_with fail
      refine (invert_any X _ (by omega)).mono ?_
      rintro e w9 ⟨rfl, hb14⟩
      have hb15 := hb13.trans (hb14.mono hb13.size)
      clear hb13 hb14
      rw [HZ.out]
      go_wp2_with fail
      go_ret
      exact ⟨rfl, bchain hb1 hb15⟩
end Go.Proofs.YtknppmfnmbkebaaDoor
