/-
  strings.Split at one byte, and strings of bytes as cells.
-/
import Derived.Test.YtghpolfmhnnbaaaProg
import Derived.Test.YtghpolfmhnnbaaaShelf
import Derived.Test.YtghpolfmhnnbaaaStr
import Derived.Test.YtghpolfmhnnbaaaSepPlain
namespace Go.Proofs.Ytghpolfmhnnbaaa
open Go.RowKit

theorem info_str : (Try.prog.info? 9).map (fun i => (i.zero, i.size, i.bytes)) = some (some (.string ByteArray.empty), 1, 16) := by kernel_rfl
def strsL (l : List (List UInt8)) : List Value := l.map fun x => Value.string ⟨x.toArray⟩
theorem strsL_length (l : List (List UInt8)) : (strsL l).length = l.length := by simp [strsL]
theorem strsL_of (l : List ByteArray) : strsL (l.map (·.data.toList)) = l.map Value.string := by
  unfold strsL
  rw [List.map_map]
  exact List.map_congr_left fun x _ => congrArg Value.string (mk_toList x)
theorem strsL_get (l : List (List UInt8)) (k : Nat) (x : List UInt8) (h : l[k]? = some x) : (strsL l)[k]? = some (.string ⟨x.toArray⟩) := by simp [strsL, h]
theorem strsL_snoc (l : List (List UInt8)) (x : List UInt8) : strsL l ++ [Value.string ⟨x.toArray⟩] = strsL (l ++ [x]) := by simp [strsL]
theorem strsL_snoc' (l : List (List UInt8)) (s : ByteArray) : strsL l ++ [Value.string s] = strsL (l ++ [s.data.toList]) := by rw [← strsL_snoc, mk_toList]

theorem indexByte_index (c : UInt8) : ∀ l : List UInt8, Lib.indexByte l c = Lib.index l [c]
  | [] => rfl
  | b :: l => by
    have ih := indexByte_index c l
    by_cases h : b = c
    · subst h
      simp [Lib.indexByte, Lib.index, List.isPrefixOf]
    · simp [Lib.indexByte, Lib.index, List.isPrefixOf, Ne.symm h, h, ih]
end Go.Proofs.Ytghpolfmhnnbaaa
