/-
  The law CellsMetric, walked.
-/
import Derived.Test.YtknppmfnmbkebaaDoorCellsLaw2
namespace Go.Proofs.YtknppmfnmbkebaaDoor
open Go.RowKit

namespace Cells
theorem ok_append (a b : List UInt8) : ok (a ++ b) = (ok a && ok b) := by simp [ok]
theorem ok_append3 {a b c : List UInt8} (h : ok (a ++ b ++ c) = true) : ok a = true ∧ ok b = true ∧ ok c = true := by
  rw [ok_append, ok_append, Bool.and_eq_true, Bool.and_eq_true] at h
  exact ⟨h.1.1, h.1.2, h.2⟩
theorem clean_append3 {a b c : List UInt8} (h : (a ++ b ++ c).contains 63 = false) : (∀ x ∈ a, x ≠ 63) ∧ (∀ x ∈ b, x ≠ 63) ∧ ∀ x ∈ c, x ≠ 63 := by
  have h' : ∀ x ∈ a ++ b ++ c, x ≠ 63 := fun x hx e => by
    subst e
    have := List.contains_iff_mem.2 hx
    rw [h] at this
    cases this
  exact ⟨fun x hx => h' x (by simp [hx]), fun x hx => h' x (by simp [hx]), fun x hx => h' x (by simp [hx])⟩
end Cells

theorem dot_any (x y : ByteArray) (n : Nat) (w : World) (hx : x.size ≤ 65536) (hxy : x.size = y.size) (kx : Cells.ok x.data.toList = true) (ky : Cells.ok y.data.toList = true) (hn : Cells.dist x.data.toList y.data.toList = n) :
    Calls Tryd.prog 22 #[.string x, .string y] w fun e w' => e = .returned (.int .i64 n) ∧ Below w.heap.size w w' := by
  have e1 : Cells.distV x.data.toList y.data.toList = n := by rw [Cells.distV_ok (by rw [kx, ky]; rfl) (by rw [toList_length, toList_length]; exact hxy), hn]
  have E1 := Lib.hid e1
  clear e1 kx ky hn
  go_enter Tryd.func22, Tryd.ntmps22
  go_wp2_with fail
  refine (dist_any x y _ (by omega) (by omega)).mono ?_
  rintro e w1 ⟨rfl, hb1⟩
  rw [E1.out]
  go_wp2_with fail
  go_ret
  exact ⟨rfl, hb1⟩

set_option maxHeartbeats 4000000 in
theorem law_metric (a0 a1 a2 : ByteArray) (w0 : a0.size ≤ 140737488351232) (_w1 : a1.size ≤ 140737488351232) (w2 : a2.size ≤ 140737488351232) (w : World) :
    Calls Tryd.prog 6 #[.string a0, .string a1, .string a2] w fun e w' => e = .returned (.bool true) ∧ Below w.heap.size w w' := by
  by_cases h1 : 1000 < (a0.size : Int)
  · go_enter Tryd.func6, Tryd.ntmps6
    go_wp2_with (go_at_call 12; refine (alive_any _).mono ?_; rintro e w1 ⟨rfl, hb1⟩)
    go_ret
    exact ⟨rfl, hb1⟩
  by_cases h2 : a0.size = a1.size
  rotate_left
  · have h2' : ((a0.size : Int) != (a1.size : Int)) = true := by rw [bne_iff_ne]; omega
    go_enter Tryd.func6, Tryd.ntmps6
    go_wp2_with (go_at_call 12; refine (alive_any _).mono ?_; rintro e w1 ⟨rfl, hb1⟩)
    go_ret
    exact ⟨rfl, hb1⟩
  have h2' : ((a0.size : Int) != (a1.size : Int)) = false := by rw [bne_eq_false_iff_eq]; omega
  by_cases h3 : a0.size = a2.size
  rotate_left
  · have h3' : ((a0.size : Int) != (a2.size : Int)) = true := by rw [bne_iff_ne]; omega
    go_enter Tryd.func6, Tryd.ntmps6
    go_wp2_with (go_at_call 12; refine (alive_any _).mono ?_; rintro e w1 ⟨rfl, hb1⟩)
    go_ret
    exact ⟨rfl, hb1⟩
  have h3' : ((a0.size : Int) != (a2.size : Int)) = false := by rw [bne_eq_false_iff_eq]; omega
  have z01 : (a0 ++ a1).size = a0.size + a1.size := ByteArray.size_append
  have zP : (a0 ++ a1 ++ a2).size = a0.size + a1.size + a2.size := by rw [ByteArray.size_append, z01]
  have dP : (a0 ++ a1 ++ a2).data.toList = a0.data.toList ++ a1.data.toList ++ a2.data.toList := by rw [ByteArray.data_append, Array.toList_append, ByteArray.data_append, Array.toList_append]
  have DP := Lib.hid dP
  clear dP
  go_enter Tryd.func6, Tryd.ntmps6
  go_wp2_with (go_at_call 12; refine (alive_any _).mono ?_; rintro e w1 ⟨rfl, hb1⟩)
  refine (Tryd.strings_Contains_one (a0 ++ a1 ++ a2) 63 _).mono ?_
  rintro e w4 ⟨rfl, rfl⟩
  rw [contains_dec]
  cases hc : (a0 ++ a1 ++ a2).data.toList.contains 63
  rotate_left
  · go_wp2_with fail
    go_ret
    exact ⟨rfl, hb1⟩
  have HC := Lib.hid hc
  clear hc
  go_wp2_with fail
  refine (check_any (a0 ++ a1 ++ a2) _ (by omega)).mono ?_
  rintro e w5 ⟨rfl, hb5⟩
  have hb6 := bchain hb1 hb5
  clear hb1 hb5
  cases hk : Cells.ok (a0 ++ a1 ++ a2).data.toList
  · rw [Cells.err_bad hk]
    clear hk
    go_wp2_with fail
    go_ret
    exact ⟨rfl, hb6⟩
  rw [Cells.err_ok hk]
  have hc := HC.out
  rw [DP.out] at hc hk
  obtain ⟨ka, kb, kc⟩ := Cells.ok_append3 hk
  obtain ⟨na, nb, nc⟩ := Cells.clean_append3 hc
  have la := toList_length a0
  have lb := toList_length a1
  have lc := toList_length a2
  have tri := Cells.dist_tri a0.data.toList a1.data.toList a2.data.toList (by omega) (by omega) nb
  have hself := Cells.dist_invert_self a0.data.toList ka na
  have hin := Cells.dist_invert a0.data.toList a1.data.toList
  have hsym := Cells.dist_comm a1.data.toList a0.data.toList
  have hle := Cells.dist_le a0.data.toList a1.data.toList
  have hle2 := Cells.dist_le a1.data.toList a2.data.toList
  have hzero : (((Cells.dist a0.data.toList a1.data.toList : Nat) : Int) == 0) = (a0.toList == a1.toList) := by
    rw [Bool.eq_iff_iff, beq_iff_eq, beq_iff_eq, Lib.toList_data, Lib.toList_data]
    constructor
    · intro h
      exact Cells.eq_of_dist a0.data.toList a1.data.toList (by omega) na nb (by omega)
    · intro h
      rw [h, Cells.dist_self]
      rfl
  have kia := Cells.ok_invert a0.data.toList
  have kib := Cells.ok_invert a1.data.toList
  rw [ka] at kia
  rw [kb] at kib
  have zX : (⟨(Cells.invert a0.data.toList).toArray⟩ : ByteArray).size = a0.size := by rw [mk_size, Cells.invert_length, toList_length]
  have zY : (⟨(Cells.invert a1.data.toList).toArray⟩ : ByteArray).size = a1.size := by rw [mk_size, Cells.invert_length, toList_length]
  have dX : (⟨(Cells.invert a0.data.toList).toArray⟩ : ByteArray).data.toList = Cells.invert a0.data.toList := rfl
  have dY : (⟨(Cells.invert a1.data.toList).toArray⟩ : ByteArray).data.toList = Cells.invert a1.data.toList := rfl
  generalize hX : (⟨(Cells.invert a0.data.toList).toArray⟩ : ByteArray) = X at zX dX
  generalize hY : (⟨(Cells.invert a1.data.toList).toArray⟩ : ByteArray) = Y at zY dY
  rw [← dX] at hself hin kia
  rw [← dY] at hin kib
  rw [la] at hself hle
  rw [lb] at hle2
  generalize hab : Cells.dist a0.data.toList a1.data.toList = nab at *
  generalize hac : Cells.dist a0.data.toList a2.data.toList = nac at *
  generalize hbc : Cells.dist a1.data.toList a2.data.toList = nbc at *
  have HX := Lib.hid hX
  have HY := Lib.hid hY
  have HAB := Lib.hid hab
  have HAC := Lib.hid hac
  have HBC := Lib.hid hbc
  have HS := Lib.hid hself
  have HI := Lib.hid hin
  have HY2 := Lib.hid hsym
  have KA := Lib.hid ka
  have KB := Lib.hid kb
  have KC := Lib.hid kc
  have KX := Lib.hid kia
  have KY := Lib.hid kib
  clear hX hY hab hac hbc hself hin hsym ka kb kc kia kib na nb nc hk hc dX dY la lb lc
  clear DP HC
  obtain ⟨b, hz1, hz2⟩ : ∃ b, ((nab : Int) == 0) = b ∧ (a0.toList == a1.toList) = b := ⟨_, hzero, rfl⟩
  clear hzero
  have hc6 := hb6
  clear hb6
  have t1 : (nac : Int) ≤ (nab : Int) + nbc := by omega
  clear tri
  go_wp2_with fail
  refine (dot_any a0 a1 nab _ (by omega) (by omega) KA.out KB.out HAB.out).mono ?_
  rintro e w7 ⟨rfl, hb7⟩
  have hc7 := bchain hc6 hb7
  clear hc6 hb7
  go_wp2_with fail
  refine (dot_any a0 a1 nab _ (by omega) (by omega) KA.out KB.out HAB.out).mono ?_
  rintro e w8 ⟨rfl, hb8⟩
  have hc8 := bchain hc7 hb8
  clear hc7 hb8
  go_wp2_with fail
  refine (dot_any a1 a0 nab _ (by omega) (by omega) KB.out KA.out HY2.out).mono ?_
  rintro e w9 ⟨rfl, hb9⟩
  have hc9 := bchain hc8 hb9
  clear hc8 hb9
  go_wp2_with fail
  refine (dot_any a0 a2 nac _ (by omega) (by omega) KA.out KC.out HAC.out).mono ?_
  rintro e w10 ⟨rfl, hb10⟩
  have hc10 := bchain hc9 hb10
  clear hc9 hb10
  go_wp2_with fail
  refine (dot_any a0 a1 nab _ (by omega) (by omega) KA.out KB.out HAB.out).mono ?_
  rintro e w11 ⟨rfl, hb11⟩
  have hc11 := bchain hc10 hb11
  clear hc10 hb11
  go_wp2_with fail
  refine (dot_any a1 a2 nbc _ (by omega) (by omega) KB.out KC.out HBC.out).mono ?_
  rintro e w12 ⟨rfl, hb12⟩
  have hc12 := bchain hc11 hb12
  clear hc11 hb12
  go_wp2_with fail
  refine (invert_any a0 _ (by omega)).mono ?_
  rintro e w13 ⟨rfl, hb13⟩
  rw [HX.out]
  have hc13 := bchain hc12 hb13
  clear hc12 hb13
  go_wp2_with fail
  refine (invert_any a1 _ (by omega)).mono ?_
  rintro e w14 ⟨rfl, hb14⟩
  rw [HY.out]
  have hc14 := bchain hc13 hb14
  clear hc13 hb14
  go_wp2_with fail
  refine (dot_any X Y nab _ (by omega) (by omega) KX.out KY.out HI.out).mono ?_
  rintro e w15 ⟨rfl, hb15⟩
  have hc15 := bchain hc14 hb15
  clear hc14 hb15
  go_wp2_with fail
  refine (dot_any a0 a1 nab _ (by omega) (by omega) KA.out KB.out HAB.out).mono ?_
  rintro e w16 ⟨rfl, hb16⟩
  have hc16 := bchain hc15 hb16
  clear hc15 hb16
  go_wp2_with fail
  refine (invert_any a0 _ (by omega)).mono ?_
  rintro e w17 ⟨rfl, hb17⟩
  rw [HX.out]
  have hc17 := bchain hc16 hb17
  clear hc16 hb17
  go_wp2_with fail
  refine (dot_any a0 X a0.size _ (by omega) (by omega) KA.out KX.out HS.out).mono ?_
  rintro e w18 ⟨rfl, hb18⟩
  have hc18 := bchain hc17 hb18
  clear hc17 hb18
  go_wp2_with fail
  go_ret
  exact ⟨rfl, hc18⟩
end Go.Proofs.YtknppmfnmbkebaaDoor
