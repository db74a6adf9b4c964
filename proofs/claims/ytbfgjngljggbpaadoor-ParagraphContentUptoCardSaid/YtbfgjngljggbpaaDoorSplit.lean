/-
  strings.Split at one byte, and strings of bytes as cells.
-/
import Derived.Test.YtbfgjngljggbpaaDoorProg
import Derived.Test.YtbfgjngljggbpaaDoorShelf
import Derived.Test.YtbfgjngljggbpaaDoorStr
import Derived.Test.YtbfgjngljggbpaaDoorSepPlain
namespace Go.Proofs.YtbfgjngljggbpaaDoor
open Go.RowKit

theorem info_str : (Tryd.prog.info? 9).map (fun i => (i.zero, i.size, i.bytes)) = some (some (.string ByteArray.empty), 1, 16) := by kernel_rfl
def strsL (l : List (List UInt8)) : List Value := l.map fun x => Value.string ⟨x.toArray⟩
theorem strsL_length (l : List (List UInt8)) : (strsL l).length = l.length := by simp [strsL]
theorem strsL_of (l : List ByteArray) : strsL (l.map (·.data.toList)) = l.map Value.string := by
  unfold strsL
  rw [List.map_map]
  exact List.map_congr_left fun x _ => congrArg Value.string (mk_toList x)
theorem strsL_get (l : List (List UInt8)) (k : Nat) (x : List UInt8) (h : l[k]? = some x) : (strsL l)[k]? = some (.string ⟨x.toArray⟩) := by simp [strsL, h]
theorem strsL_snoc (l : List (List UInt8)) (x : List UInt8) : strsL l ++ [Value.string ⟨x.toArray⟩] = strsL (l ++ [x]) := by simp [strsL]
theorem strsL_snoc' (l : List (List UInt8)) (s : ByteArray) : strsL l ++ [Value.string s] = strsL (l ++ [s.data.toList]) := by rw [← strsL_snoc, mk_toList]

theorem indexByte_index (c : UInt8) : ∀ l : List UInt8, Lib.indexByte l c = Lib.index l [c]
  | [] => rfl
  | b :: l => by
    have ih := indexByte_index c l
    by_cases h : b = c
    · subst h
      simp [Lib.indexByte, Lib.index, List.isPrefixOf]
    · simp [Lib.indexByte, Lib.index, List.isPrefixOf, Ne.symm h, h, ih]
theorem index_one (s : ByteArray) (c : UInt8) (w : World) :
    Calls Tryd.prog 25 #[.string s, .string ⟨#[c]⟩] w fun e w' => e = .returned (.int .i64 (Lib.indexB s ⟨#[c]⟩)) ∧ w' = w := by
  refine (Tryd.strings_Index_one s c w).mono fun e w' ⟨he, hw⟩ => ⟨?_, hw⟩
  rw [he, indexByte_index]
theorem count_one (s : ByteArray) (c : UInt8) (w : World) :
    Calls Tryd.prog 33 #[.string s, .string ⟨#[c]⟩] w fun e w' => e = .returned (.int .i64 (Lib.countB s ⟨#[c]⟩)) ∧ w' = w := by
  refine (Tryd.strings_Count_one s c w).mono fun e w' ⟨he, hw⟩ => ⟨?_, hw⟩
  rw [he]
  show _ = Ending.returned (Value.int .i64 ((Lib.count s.data.toList [c] : Nat) : Int))
  rw [Lib.count_one]
  rfl
/-- strings.Split at one byte. -/
theorem split_any (s : ByteArray) (c : UInt8) (w : World) (hs : s.size < 4294967281) :
    Calls Tryd.prog 8 #[.string s, .string ⟨#[c]⟩] w fun e w' => ∃ v, e = .returned v ∧ Own w' w.heap.size 9 v (strsL (Sep.spA c [] s.data.toList)) ∧ Below w.heap.size w w' := by
  have hle := Lib.countB_le ⟨#[c]⟩ (Nat.le_refl _) s.size s (Nat.le_refl _)
  have hlen := Lib.splitB_all ⟨#[c]⟩ (Nat.le_refl _) 0 _ s rfl
  have cg : Calls Tryd.prog 17 #[.string s, .string ⟨#[c]⟩, .int .i64 ((0 : Nat) : Int), .int .i64 (-1)] w fun e w' =>
      e = .returned (.slice (some ⟨w.heap.size, 0, none⟩) (Lib.splitB ⟨#[c]⟩ 0 (Lib.countB s ⟨#[c]⟩) s).length (Lib.countB s ⟨#[c]⟩ + 1)) ∧ w' = w.alloc (.cells (Lib.cellsOf (Lib.splitB ⟨#[c]⟩ 0 (Lib.countB s ⟨#[c]⟩) s) (Lib.countB s ⟨#[c]⟩ + 1)) 9) :=
    Any.strings_genSplit_core Tryd.lays221 (by kernel_rfl) s ⟨#[c]⟩ 0 (-1) (Lib.countB s ⟨#[c]⟩ + 1) w hs (Nat.le_refl _) (Nat.zero_le _)
      (fun x k _ => index_one x c _) (count_one s c w) (by decide) (by decide) (by rw [if_pos (by decide)]; omega)
  have hel : (Lib.splitB ⟨#[c]⟩ 0 (Lib.countB s ⟨#[c]⟩) s).map Value.string = strsL (Sep.spA c [] s.data.toList) := by
    rw [← strsL_of, Lib.splitB_data]
    exact congrArg strsL (Sep.split_spA _ _ rfl)
  have e2 : Lib.cellsOf (Lib.splitB ⟨#[c]⟩ 0 (Lib.countB s ⟨#[c]⟩) s) (Lib.countB s ⟨#[c]⟩ + 1) = (strsL (Sep.spA c [] s.data.toList)).toArray := by
    rw [← hlen, Lib.cellsOf_full, hel]
  have hl2 : (strsL (Sep.spA c [] s.data.toList)).length = Lib.countB s ⟨#[c]⟩ + 1 := by rw [← hel, List.length_map, hlen]
  rw [hlen, e2] at cg
  generalize hn : Lib.countB s ⟨#[c]⟩ + 1 = n at cg hl2
  clear hel e2 hlen
  go_enter Tryd.func8, Tryd.ntmps8
  go_wp2_with (go_at_call 17; refine cg.mono ?_; rintro e w' ⟨rfl, rfl⟩)
  go_ret
  refine ⟨_, rfl, ?_, (Below.refl _ _).alloc (Nat.le_refl _) _⟩
  have h := Own.lit w w.heap.size 9 (strsL (Sep.spA c [] s.data.toList)).toArray n (Nat.le_refl _) (by unfold maxLen; omega) (by simpa using hl2)
  simpa using h
end Go.Proofs.YtbfgjngljggbpaaDoor
