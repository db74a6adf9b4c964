/-
  strings.Split at one byte, and strings of bytes as cells.
-/
import Derived.Test.YtghpolfmhnnbaaaDoorProg
import Derived.Test.YtghpolfmhnnbaaaDoorShelf
import Derived.Test.YtghpolfmhnnbaaaDoorStr
import Derived.Test.YtghpolfmhnnbaaaDoorSepPlain
namespace Go.Proofs.YtghpolfmhnnbaaaDoor
open Go.RowKit

theorem info_str : (Tryd.prog.info? 9).map (fun i => (i.zero, i.size, i.bytes)) = some (some (.string ByteArray.empty), 1, 16) := by kernel_rfl
def strsL (l : List (List UInt8)) : List Value := l.map fun x => Value.string ⟨x.toArray⟩
theorem strsL_length (l : List (List UInt8)) : (strsL l).length = l.length := by simp [strsL]
theorem strsL_of (l : List ByteArray) : strsL (l.map (·.data.toList)) = l.map Value.string := by
  unfold strsL
  rw [List.map_map]
  exact List.map_congr_left fun x _ => congrArg Value.string (mk_toList x)
theorem strsL_get (l : List (List UInt8)) (k : Nat) (x : List UInt8) (h : l[k]? = some x) : (strsL l)[k]? = some (.string ⟨x.toArray⟩) := by simp [strsL, h]
theorem strsL_snoc (l : List (List UInt8)) (x : List UInt8) : strsL l ++ [Value.string ⟨x.toArray⟩] = strsL (l ++ [x]) := by simp [strsL]
theorem strsL_snoc' (l : List (List UInt8)) (s : ByteArray) : strsL l ++ [Value.string s] = strsL (l ++ [s.data.toList]) := by rw [← strsL_snoc, mk_toList]

theorem indexByte_index (c : UInt8) : ∀ l : List UInt8, Lib.indexByte l c = Lib.index l [c]
  | [] => rfl
  | b :: l => by
    have ih := indexByte_index c l
    by_cases h : b = c
    · subst h
      simp [Lib.indexByte, Lib.index, List.isPrefixOf]
    · simp [Lib.indexByte, Lib.index, List.isPrefixOf, Ne.symm h, h, ih]
theorem index_one (s : ByteArray) (c : UInt8) (w : World) :
    Calls Tryd.prog 37 #[.string s, .string ⟨#[c]⟩] w fun e w' => e = .returned (.int .i64 (Lib.indexB s ⟨#[c]⟩)) ∧ w' = w := by
  refine (Tryd.strings_Index_one s c w).mono fun e w' ⟨he, hw⟩ => ⟨?_, hw⟩
  rw [he, indexByte_index]
theorem count_one (s : ByteArray) (c : UInt8) (w : World) :
    Calls Tryd.prog 15 #[.string s, .string ⟨#[c]⟩] w fun e w' => e = .returned (.int .i64 (Lib.countB s ⟨#[c]⟩)) ∧ w' = w := by
  refine (Tryd.strings_Count_one s c w).mono fun e w' ⟨he, hw⟩ => ⟨?_, hw⟩
  rw [he]
  show _ = Ending.returned (Value.int .i64 ((Lib.count s.data.toList [c] : Nat) : Int))
  rw [Lib.count_one]
  rfl
end Go.Proofs.YtghpolfmhnnbaaaDoor
