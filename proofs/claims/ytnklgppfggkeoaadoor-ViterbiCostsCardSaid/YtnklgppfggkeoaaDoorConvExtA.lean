/-
  Extract at any string.
-/
import Derived.Test.YtnklgppfggkeoaaDoorConvExtP
import Derived.Test.YtnklgppfggkeoaaDoorConvLaw1
namespace Go.Proofs.YtnklgppfggkeoaaDoor
open Go.RowKit

set_option maxHeartbeats 1000000 in
theorem extract_syntax (s : ByteArray) (w : World) (hs : s.size ≤ 9223372036854775807) (hok : Cells.ok s.data.toList = false) :
    Calls Tryd.prog 22 #[.string s] w fun e w' => e = .returned (.tuple #[.string ⟨#[]⟩, .int .i64 3]) ∧ Below w.heap.size w w' := by
  have hT := Any.strings_Trim_laid Tryd.lays160 (by kernel_rfl) s ⟨#[48, 49, 63]⟩ w hs (by decide) (ascii_of_all (by decide))
  have HT := Lib.hid hT
  clear hT
  go_enter Tryd.func22, Tryd.ntmps22
  go_wp2_with fail
  refine HT.out.mono ?_
  rintro e w1 ⟨rfl, hb⟩
  have hE : (⟨(Lib.trimS s.data.toList (⟨#[48, 49, 63]⟩ : ByteArray).data.toList).toArray⟩ : ByteArray).toList.isEmpty = Cells.ok s.data.toList := trim_empty s
  generalize (⟨(Lib.trimS s.data.toList (⟨#[48, 49, 63]⟩ : ByteArray).data.toList).toArray⟩ : ByteArray) = X at *
  clear HT
  rw [hok] at hE
  clear hok
  go_wp2_with fail
  go_ret2
  exact ⟨rfl, hb⟩

set_option maxHeartbeats 1000000 in
theorem extract_short (s : ByteArray) (w : World) (hs : s.size ≤ 9223372036854775807) (hok : Cells.ok s.data.toList = true) (h2 : ¬ (s.size % 2 = 0 ∧ 4 ≤ s.size)) :
    Calls Tryd.prog 22 #[.string s] w fun e w' => e = .returned (.tuple #[.string ⟨#[]⟩, .int .i64 4]) ∧ Below w.heap.size w w' := by
  have hT := Any.strings_Trim_laid Tryd.lays160 (by kernel_rfl) s ⟨#[48, 49, 63]⟩ w hs (by decide) (ascii_of_all (by decide))
  have HT := Lib.hid hT
  clear hT
  have hn : (((s.size : Int) % 2 != 0) = true) ∨ (((s.size : Int) % 2 != 0) = false ∧ (s.size : Int) < 4) := by
    by_cases e : s.size % 2 = 0
    · right
      refine ⟨by rw [bne_eq_false_iff_eq]; omega, by omega⟩
    · left
      rw [bne_iff_ne]
      omega
  clear h2
  rcases hn with hn | ⟨hn, hn2⟩
  all_goals
    go_enter Tryd.func22, Tryd.ntmps22
    go_wp2_with fail
    refine HT.out.mono ?_
    rintro e w1 ⟨rfl, hb⟩
    have hE : (⟨(Lib.trimS s.data.toList (⟨#[48, 49, 63]⟩ : ByteArray).data.toList).toArray⟩ : ByteArray).toList.isEmpty = Cells.ok s.data.toList := trim_empty s
    generalize (⟨(Lib.trimS s.data.toList (⟨#[48, 49, 63]⟩ : ByteArray).data.toList).toArray⟩ : ByteArray) = X at *
    clear HT
    rw [hok] at hE
    clear hok
    go_wp2_with fail
    go_ret2
    exact ⟨rfl, hb⟩

set_option maxHeartbeats 1000000 in
theorem extract_open (s : ByteArray) (w : World) (hs : s.size ≤ 9223372036854775807) (hok : Cells.ok s.data.toList = true) (h2 : s.size % 2 = 0 ∧ 4 ≤ s.size) (h3 : s.data.toList.contains 63 = true) :
    Calls Tryd.prog 22 #[.string s] w fun e w' => e = .returned (.tuple #[.string ⟨#[]⟩, .int .i64 11]) ∧ Below w.heap.size w w' := by
  have hT := Any.strings_Trim_laid Tryd.lays160 (by kernel_rfl) s ⟨#[48, 49, 63]⟩ w hs (by decide) (ascii_of_all (by decide))
  have HT := Lib.hid hT
  have H3 := Lib.hid h3
  have hn : ((s.size : Int) % 2 != 0) = false := by
    rw [bne_eq_false_iff_eq]
    omega
  have h4 : 4 ≤ s.size := h2.2
  clear hT h3 h2
  go_enter Tryd.func22, Tryd.ntmps22
  go_wp2_with fail
  refine HT.out.mono ?_
  rintro e w1 ⟨rfl, hb⟩
  have hE : (⟨(Lib.trimS s.data.toList (⟨#[48, 49, 63]⟩ : ByteArray).data.toList).toArray⟩ : ByteArray).toList.isEmpty = Cells.ok s.data.toList := trim_empty s
  generalize (⟨(Lib.trimS s.data.toList (⟨#[48, 49, 63]⟩ : ByteArray).data.toList).toArray⟩ : ByteArray) = X at *
  clear HT
  rw [hok] at hE
  clear hok
  go_wp2_with fail
  refine (Tryd.strings_Contains_one s 63 w1).mono ?_
  rintro e w2 ⟨rfl, rfl⟩
  rw [contains_dec, H3.out]
  go_wp2_with fail
  go_ret2
  exact ⟨rfl, hb⟩

theorem extract_all (s : ByteArray) (w : World) (hs : s.size ≤ 65536) :
    Calls Tryd.prog 22 #[.string s] w fun e w' => e = .returned (.tuple #[.string ⟨(Conv.ansX s.data.toList).toArray⟩, .int .i64 (Conv.ansE s.data.toList)]) ∧ Below w.heap.size w w' := by
  have hl := toList_length s
  cases hok : Cells.ok s.data.toList
  · obtain ⟨e1, e2⟩ := Conv.ans_syntax hok
    rw [e1, e2]
    exact extract_syntax s w (by omega) hok
  · by_cases h2 : s.size % 2 = 0 ∧ 4 ≤ s.size
    · cases h3 : s.data.toList.contains 63
      · have hk := Conv.ok_of_cells _ hok h3
        obtain ⟨e1, e2⟩ := Conv.ans_bits hk (by rw [hl]; exact h2) (by omega)
        rw [e1, e2]
        exact extract_any s w hs hk h2.1 h2.2
      · obtain ⟨e1, e2⟩ := Conv.ans_open hok (by rw [hl]; exact h2) h3
        rw [e1, e2]
        exact extract_open s w (by omega) hok h2 h3
    · obtain ⟨e1, e2⟩ := Conv.ans_short hok (by rw [hl]; exact h2)
      rw [e1, e2]
      exact extract_short s w (by omega) hok h2
end Go.Proofs.YtnklgppfggkeoaaDoor
