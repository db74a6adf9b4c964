/-
  The laws CellsBytes, CellsRoundTrip, walked.
-/
import Derived.Test.YtknppmfnmbkebaaDoorCellsLaw1
namespace Go.Proofs.YtknppmfnmbkebaaDoor
open Go.RowKit

namespace Cells
def resX (l : List UInt8) : List UInt8 := if ok l = true ∧ l.length % 8 = 0 then toBytes l else []
def resL (l : List UInt8) : List Nat := if ok l = true ∧ l.length % 8 = 0 then bad l else []
def resE (l : List UInt8) : Int := if ok l = true then (if l.length % 8 = 0 then 0 else 4) else 3
theorem bad_length (l : List UInt8) : (bad l).length ≤ l.length := by
  unfold bad
  refine Nat.le_trans (List.length_filter_le _ _) ?_
  rw [List.length_range]
  omega
theorem resL_length (l : List UInt8) : (resL l).length ≤ l.length := by
  unfold resL
  split
  · exact bad_length l
  · simp
theorem res_ok {l : List UInt8} (h : ok l = true) (h8 : l.length % 8 = 0) : resX l = toBytes l ∧ resL l = bad l ∧ resE l = 0 := by simp [resX, resL, resE, h, h8]
theorem res_short {l : List UInt8} (h : ok l = true) (h8 : l.length % 8 ≠ 0) : resX l = [] ∧ resL l = [] ∧ resE l = 4 := by simp [resX, resL, resE, h, h8]
theorem res_bad {l : List UInt8} (h : ok l = false) : resX l = [] ∧ resL l = [] ∧ resE l = 3 := by simp [resX, resL, resE, h]
end Cells

theorem to_is (s : ByteArray) (w : World) (hs : s.size ≤ 65536) :
    Calls Tryd.prog 13 #[.string s] w fun e w' => ∃ v, e = .returned (.tuple #[.string ⟨(Cells.resX s.data.toList).toArray⟩, v, .int .i64 (Cells.resE s.data.toList)]) ∧ IsL w' v (Cells.resL s.data.toList) ∧ Below w.heap.size w w' := by
  have hl := toList_length s
  cases hok : Cells.ok s.data.toList
  · obtain ⟨e1, e2, e3⟩ := Cells.res_bad hok
    rw [e1, e2, e3]
    refine (to_bad s w hs hok).mono ?_
    rintro e w' ⟨rfl, hb⟩
    exact ⟨_, rfl, IsL.nil _, hb⟩
  · by_cases h8 : s.size % 8 = 0
    · obtain ⟨e1, e2, e3⟩ := Cells.res_ok hok (by rw [hl]; exact h8)
      rw [e1, e2, e3]
      refine (to_any s w hs hok h8).mono ?_
      rintro e w' ⟨v, rfl, ho, hb⟩
      exact ⟨v, rfl, IsL.of_own ho, hb⟩
    · obtain ⟨e1, e2, e3⟩ := Cells.res_short hok (by rw [hl]; exact h8)
      rw [e1, e2, e3]
      refine (to_short s w hs hok h8).mono ?_
      rintro e w' ⟨rfl, hb⟩
      exact ⟨_, rfl, IsL.nil _, hb⟩
theorem rto_is (s : ByteArray) (w : World) (hs : s.size ≤ 65536) :
    Calls Tryd.prog 14 #[.string s] w fun e w' => ∃ v, e = .returned (.tuple #[.string ⟨(Cells.resX s.data.toList).toArray⟩, v, .int .i64 (Cells.resE s.data.toList)]) ∧ IsL w' v (Cells.resL s.data.toList) ∧ Below w.heap.size w w' := by
  have hl := toList_length s
  cases hok : Cells.ok s.data.toList
  · obtain ⟨e1, e2, e3⟩ := Cells.res_bad hok
    rw [e1, e2, e3]
    refine (rto_bad s w hs hok).mono ?_
    rintro e w' ⟨rfl, hb⟩
    exact ⟨_, rfl, IsL.nil _, hb⟩
  · by_cases h8 : s.size % 8 = 0
    · obtain ⟨e1, e2, e3⟩ := Cells.res_ok hok (by rw [hl]; exact h8)
      rw [e1, e2, e3]
      refine (rto_any s w hs hok h8).mono ?_
      rintro e w' ⟨v, rfl, ho, hb⟩
      exact ⟨v, rfl, IsL.of_own ho, hb⟩
    · obtain ⟨e1, e2, e3⟩ := Cells.res_short hok (by rw [hl]; exact h8)
      rw [e1, e2, e3]
      refine (rto_short s w hs hok h8).mono ?_
      rintro e w' ⟨rfl, hb⟩
      exact ⟨_, rfl, IsL.nil _, hb⟩

set_option maxHeartbeats 1000000 in
theorem law_bytes (a0 a1 : ByteArray) (w0 : a0.size ≤ 140737488351232) (w1 : a1.size ≤ 140737488351232) (w : World) :
    Calls Tryd.prog 3 #[.string a0, .string a1] w fun e w' => e = .returned (.bool true) ∧ Below w.heap.size w w' := by
  by_cases h1 : 4000 < (a0.size : Int) + a1.size
  · go_enter Tryd.func3, Tryd.ntmps3
    go_wp2_with (go_at_call 12; refine (alive_any _).mono ?_; rintro e w1 ⟨rfl, hb1⟩)
    go_ret
    exact ⟨rfl, hb1⟩
  · have hLL := Cells.resL_length a1.data.toList
    rw [toList_length] at hLL
    go_enter Tryd.func3, Tryd.ntmps3
    go_wp2_with (go_at_call 12; refine (alive_any _).mono ?_; rintro e w1 ⟨rfl, hb1⟩)
    refine (to_is a1 _ (by omega)).mono ?_
    rintro e w2 ⟨v, rfl, hl2, hb2⟩
    generalize hX : (⟨(Cells.resX a1.data.toList).toArray⟩ : ByteArray) = X
    generalize hE : Cells.resE a1.data.toList = E
    have HX := Lib.hid hX
    have HE := Lib.hid hE
    clear hX hE
    go_wp2_with fail
    refine (rto_is a1 _ (by omega)).mono ?_
    rintro e w3 ⟨v', rfl, hl3, hb3⟩
    rw [HX.out, HE.out]
    have hl2' := hl2.below hb3
    clear hl2
    go_wp2_with fail
    refine (from_any a0 _ (by omega)).mono ?_
    rintro e w4 ⟨rfl, hb4⟩
    have hl2 := hl2'.below hb4
    have hl4 := hl3.below hb4
    clear hl2' hl3
    generalize hY : (⟨(Cells.fromBytes a0.data.toList).toArray⟩ : ByteArray) = Y
    have HY := Lib.hid hY
    clear hY
    go_wp2_with fail
    refine (rfrom_any a0 _ (by omega)).mono ?_
    rintro e w5 ⟨rfl, hb5⟩
    rw [HY.out]
    go_wp2_with fail
    refine (same_any v v' _ _ (hl2.below hb5) (hl4.below hb5) (by omega)).mono ?_
    rintro e w6 ⟨rfl, hb6⟩
    go_wp2_with fail
    go_ret
    exact ⟨rfl, bchain (bchain (bchain (bchain (bchain hb1 hb2) hb3) hb4) hb5) hb6⟩

set_option maxHeartbeats 1000000 in
theorem law_trip (a0 a1 : ByteArray) (w0 : a0.size ≤ 140737488351232) (w1 : a1.size ≤ 140737488351232) (w : World) :
    Calls Tryd.prog 5 #[.string a0, .string a1] w fun e w' => e = .returned (.bool true) ∧ Below w.heap.size w w' := by
  by_cases h1 : 1000 < (a0.size : Int) + a1.size
  · go_enter Tryd.func5, Tryd.ntmps5
    go_wp2_with (go_at_call 12; refine (alive_any _).mono ?_; rintro e w1 ⟨rfl, hb1⟩)
    go_ret
    exact ⟨rfl, hb1⟩
  · go_enter Tryd.func5, Tryd.ntmps5
    go_wp2_with (go_at_call 12; refine (alive_any _).mono ?_; rintro e w1 ⟨rfl, hb1⟩)
    refine (from_any a0 _ (by omega)).mono ?_
    rintro e w2 ⟨rfl, hb2⟩
    have dX : (⟨(Cells.fromBytes a0.data.toList).toArray⟩ : ByteArray).data.toList = Cells.fromBytes a0.data.toList := rfl
    have zX : (⟨(Cells.fromBytes a0.data.toList).toArray⟩ : ByteArray).size = 8 * a0.size := by rw [mk_size, Cells.fromBytes_length, toList_length]
    generalize hX : (⟨(Cells.fromBytes a0.data.toList).toArray⟩ : ByteArray) = X at dX zX ⊢
    have HX := Lib.hid hX
    have DX := Lib.hid dX
    clear hX dX
    go_wp2_with fail
    refine (to_any X _ (by omega) (by rw [DX.out]; exact Cells.fromBytes_ok _) (by omega)).mono ?_
    rintro e w3 ⟨v, rfl, hl3, hb3⟩
    rw [DX.out, Cells.bad_from] at hl3
    obtain ⟨ao, cap, rfl, _⟩ := IsL.of_own hl3
    clear hl3
    rw [DX.out, Cells.to_from, mk_toList]
    go_wp2_with fail
    have zP : (a0 ++ a1).size = a0.size + a1.size := ByteArray.size_append
    have dP : (a0 ++ a1).data.toList = a0.data.toList ++ a1.data.toList := by rw [ByteArray.data_append, Array.toList_append]
    generalize a0 ++ a1 = P at zP dP ⊢
    have DP := Lib.hid dP
    clear dP
    refine (from_any P _ (by omega)).mono ?_
    rintro e w4 ⟨rfl, hb4⟩
    have e4 : (⟨(Cells.fromBytes P.data.toList).toArray⟩ : ByteArray) = X ++ ⟨(Cells.fromBytes a1.data.toList).toArray⟩ := by
      refine of_toList ?_
      rw [ByteArray.data_append, Array.toList_append, DX.out]
      show Cells.fromBytes P.data.toList = Cells.fromBytes a0.data.toList ++ Cells.fromBytes a1.data.toList
      rw [DP.out, Cells.fromBytes_append]
    rw [e4]
    clear e4
    have zY : (⟨(Cells.fromBytes a1.data.toList).toArray⟩ : ByteArray).size = 8 * a1.size := by rw [mk_size, Cells.fromBytes_length, toList_length]
    generalize hY : (⟨(Cells.fromBytes a1.data.toList).toArray⟩ : ByteArray) = Y at zY ⊢
    have HY := Lib.hid hY
    clear hY
    go_wp2_with fail
    refine (from_any a1 _ (by omega)).mono ?_
    rintro e w5 ⟨rfl, hb5⟩
    rw [HY.out]
    go_wp2_with fail
    refine (check_any X _ (by omega)).mono ?_
    rintro e w6 ⟨rfl, hb6⟩
    rw [DX.out, Cells.err_ok (Cells.fromBytes_ok _)]
    go_wp2_with fail
    go_ret
    exact ⟨rfl, bchain (bchain (bchain (bchain (bchain hb1 hb2) hb3) hb4) hb5) hb6⟩
end Go.Proofs.YtknppmfnmbkebaaDoor
