/-
  No cell of these rows narrows 'for every input' (looked for: loops, veiled, ifaces, maps, wideKeys, modest, calm, conditions, laid).
  DERIVED. THE GIVEN ROWS OF THIS SEAT. 7 by the template 'for every input the law returns true; each argument reads behind the call as it read before'; 0 by the template 'total and deterministic' (their statements: YtghpolfmhnnbaaaTotals.lean).
  GIVEN WITH THE SEED: the statements are not yours to turn. If you find one false, say at which input.
  Laid BY PROGRAM, IN A SANDBOX (cutbox-rows.mjs): the forced cells as the released guide's own fill.sh prints them over the translation 92fe3eb3657da9c7… (all of the seat's roots in one cut). By AI agents, Wed Nov 11 2026. No macro, syntax, notation, axiom, sorry.
-/
import Derived.Test.YtghpolfmhnnbaaaChecked
import GoSem.Claim
import GoSem.ClaimJoined
import GoSem.ClaimMapViews
import Derived.JoinedTies
import Derived.KernelRfl
namespace Go.Proofs.Ytghpolfmhnnbaaa
/- THE CELL 'sum', in the pinned program and in every row, IS THE sha256 OF THE DUMP (.gsa) THAT YtghpolfmhnnbaaaProg.lean LOADS. Nothing in Lean hashes anything: it is a label: what it is worth is what the hold of that sum in a sandbox is worth. -/
noncomputable def Try.pinned : Pinned := { name := "ytghpolfmhnnbaaa", sum := "92fe3eb3657da9c712cae3e53a35a7f02889377b388b742f77391175fcce1105", checked := Try.checked }
namespace Rows
def none {H : Type} : Left H := { results := [], args := [] }

/-- 'stelelaw59.AgerApplies': WHATEVER THE INPUT: true; the input reads as it did. -/
def agerAppliesSpec : ChangeSpec := { name := "agerApplies", fn := fun _ => fun
  | [d1, d2] => { results := [.lit (.bool true)], args := [d1, d2] }
  | _ => none }
def agerAppliesRow : OpenClaim := { program := "ytghpolfmhnnbaaa", sum := "92fe3eb3657da9c712cae3e53a35a7f02889377b388b742f77391175fcce1105", func := "stele/stelelaw59.AgerApplies", spec := "agerApplies", inPlace := ["internal/abi.NoEscape", "internal/bytealg.MakeNoZero"], unfollowed := true, recurses := true, apart := false }
def AgerAppliesSaid : Prop := agerAppliesRow.holds Try.pinned (OpenSpec.ofChange agerAppliesSpec)

/-- ITS FALSE NEIGHBOUR: 'it returns false'. Refute it at one input. -/
def agerAppliesWrong : ChangeSpec := { name := "agerApplies", fn := fun _ => fun
  | [d1, d2] => { results := [.lit (.bool false)], args := [d1, d2] }
  | _ => none }
def AgerAppliesWrongFalsely : Prop := agerAppliesRow.holds Try.pinned (OpenSpec.ofChange agerAppliesWrong)

/-- 'stelelaw59.AgerPlans': WHATEVER THE INPUT: true; the input reads as it did. -/
def agerPlansSpec : ChangeSpec := { name := "agerPlans", fn := fun _ => fun
  | [d1, d2, d3] => { results := [.lit (.bool true)], args := [d1, d2, d3] }
  | _ => none }
def agerPlansRow : OpenClaim := { program := "ytghpolfmhnnbaaa", sum := "92fe3eb3657da9c712cae3e53a35a7f02889377b388b742f77391175fcce1105", func := "stele/stelelaw59.AgerPlans", spec := "agerPlans", inPlace := ["internal/abi.NoEscape", "internal/bytealg.MakeNoZero"], unfollowed := true, recurses := true, apart := false }
def AgerPlansSaid : Prop := agerPlansRow.holds Try.pinned (OpenSpec.ofChange agerPlansSpec)

/-- ITS FALSE NEIGHBOUR: 'it returns false'. Refute it at one input. -/
def agerPlansWrong : ChangeSpec := { name := "agerPlans", fn := fun _ => fun
  | [d1, d2, d3] => { results := [.lit (.bool false)], args := [d1, d2, d3] }
  | _ => none }
def AgerPlansWrongFalsely : Prop := agerPlansRow.holds Try.pinned (OpenSpec.ofChange agerPlansWrong)

/-- 'stelelaw59.AgerPrefix': WHATEVER THE INPUT: true; the input reads as it did. -/
def agerPrefixSpec : ChangeSpec := { name := "agerPrefix", fn := fun _ => fun
  | [d1, d2, d3, d4] => { results := [.lit (.bool true)], args := [d1, d2, d3, d4] }
  | _ => none }
def agerPrefixRow : OpenClaim := { program := "ytghpolfmhnnbaaa", sum := "92fe3eb3657da9c712cae3e53a35a7f02889377b388b742f77391175fcce1105", func := "stele/stelelaw59.AgerPrefix", spec := "agerPrefix", inPlace := ["internal/abi.NoEscape", "internal/bytealg.MakeNoZero"], unfollowed := true, recurses := true, apart := false }
def AgerPrefixSaid : Prop := agerPrefixRow.holds Try.pinned (OpenSpec.ofChange agerPrefixSpec)

/-- ITS FALSE NEIGHBOUR: 'it returns false'. Refute it at one input. -/
def agerPrefixWrong : ChangeSpec := { name := "agerPrefix", fn := fun _ => fun
  | [d1, d2, d3, d4] => { results := [.lit (.bool false)], args := [d1, d2, d3, d4] }
  | _ => none }
def AgerPrefixWrongFalsely : Prop := agerPrefixRow.holds Try.pinned (OpenSpec.ofChange agerPrefixWrong)

/-- 'stelelaw59.AgerLocal': WHATEVER THE INPUT: true; the input reads as it did. -/
def agerLocalSpec : ChangeSpec := { name := "agerLocal", fn := fun _ => fun
  | [d1, d2] => { results := [.lit (.bool true)], args := [d1, d2] }
  | _ => none }
def agerLocalRow : OpenClaim := { program := "ytghpolfmhnnbaaa", sum := "92fe3eb3657da9c712cae3e53a35a7f02889377b388b742f77391175fcce1105", func := "stele/stelelaw59.AgerLocal", spec := "agerLocal", inPlace := ["internal/abi.NoEscape", "internal/bytealg.MakeNoZero"], unfollowed := true, recurses := true, apart := false }
def AgerLocalSaid : Prop := agerLocalRow.holds Try.pinned (OpenSpec.ofChange agerLocalSpec)

/-- ITS FALSE NEIGHBOUR: 'it returns false'. Refute it at one input. -/
def agerLocalWrong : ChangeSpec := { name := "agerLocal", fn := fun _ => fun
  | [d1, d2] => { results := [.lit (.bool false)], args := [d1, d2] }
  | _ => none }
def AgerLocalWrongFalsely : Prop := agerLocalRow.holds Try.pinned (OpenSpec.ofChange agerLocalWrong)

/-- 'stelelaw59.AgerUndo': WHATEVER THE INPUT: true; the input reads as it did. -/
def agerUndoSpec : ChangeSpec := { name := "agerUndo", fn := fun _ => fun
  | [d1, d2] => { results := [.lit (.bool true)], args := [d1, d2] }
  | _ => none }
def agerUndoRow : OpenClaim := { program := "ytghpolfmhnnbaaa", sum := "92fe3eb3657da9c712cae3e53a35a7f02889377b388b742f77391175fcce1105", func := "stele/stelelaw59.AgerUndo", spec := "agerUndo", inPlace := ["internal/abi.NoEscape", "internal/bytealg.MakeNoZero"], unfollowed := true, recurses := true, apart := false }
def AgerUndoSaid : Prop := agerUndoRow.holds Try.pinned (OpenSpec.ofChange agerUndoSpec)

/-- ITS FALSE NEIGHBOUR: 'it returns false'. Refute it at one input. -/
def agerUndoWrong : ChangeSpec := { name := "agerUndo", fn := fun _ => fun
  | [d1, d2] => { results := [.lit (.bool false)], args := [d1, d2] }
  | _ => none }
def AgerUndoWrongFalsely : Prop := agerUndoRow.holds Try.pinned (OpenSpec.ofChange agerUndoWrong)

/-- 'stelelaw59.AgerCells': WHATEVER THE INPUT: true; the input reads as it did. -/
def agerCellsSpec : ChangeSpec := { name := "agerCells", fn := fun _ => fun
  | [d1, d2] => { results := [.lit (.bool true)], args := [d1, d2] }
  | _ => none }
def agerCellsRow : OpenClaim := { program := "ytghpolfmhnnbaaa", sum := "92fe3eb3657da9c712cae3e53a35a7f02889377b388b742f77391175fcce1105", func := "stele/stelelaw59.AgerCells", spec := "agerCells", inPlace := ["internal/abi.NoEscape", "internal/bytealg.MakeNoZero"], unfollowed := true, recurses := true, apart := false }
def AgerCellsSaid : Prop := agerCellsRow.holds Try.pinned (OpenSpec.ofChange agerCellsSpec)

/-- ITS FALSE NEIGHBOUR: 'it returns false'. Refute it at one input. -/
def agerCellsWrong : ChangeSpec := { name := "agerCells", fn := fun _ => fun
  | [d1, d2] => { results := [.lit (.bool false)], args := [d1, d2] }
  | _ => none }
def AgerCellsWrongFalsely : Prop := agerCellsRow.holds Try.pinned (OpenSpec.ofChange agerCellsWrong)

/-- 'stelelaw59.AgerAges': WHATEVER THE INPUT: true; the input reads as it did. -/
def agerAgesSpec : ChangeSpec := { name := "agerAges", fn := fun _ => fun
  | [d1, d2, d3] => { results := [.lit (.bool true)], args := [d1, d2, d3] }
  | _ => none }
def agerAgesRow : OpenClaim := { program := "ytghpolfmhnnbaaa", sum := "92fe3eb3657da9c712cae3e53a35a7f02889377b388b742f77391175fcce1105", func := "stele/stelelaw59.AgerAges", spec := "agerAges", inPlace := ["internal/abi.NoEscape", "internal/bytealg.MakeNoZero"], unfollowed := true, recurses := true, apart := false }
def AgerAgesSaid : Prop := agerAgesRow.holds Try.pinned (OpenSpec.ofChange agerAgesSpec)

/-- ITS FALSE NEIGHBOUR: 'it returns false'. Refute it at one input. -/
def agerAgesWrong : ChangeSpec := { name := "agerAges", fn := fun _ => fun
  | [d1, d2, d3] => { results := [.lit (.bool false)], args := [d1, d2, d3] }
  | _ => none }
def AgerAgesWrongFalsely : Prop := agerAgesRow.holds Try.pinned (OpenSpec.ofChange agerAgesWrong)

/- THE SECOND FORM. 'bulk': how many values and letters a reading holds, each counted each time it is reached (what is shared counts as often as it is met; a slice's spare places count too). A statement '..UptoSaid' is the law's where the arguments, and the package variables that the reading takes, are together of bulk at most 1048576: NARROWER than '..Said'. Prove '..Said' where nothing that the law and all that it calls make is longer than what came in: it says more and counts as full. Else prove '..UptoSaid'. A law counts once. -/
mutual
def uptoBulk {H : Type} : DataW H → Nat
  | .lit (.string bytes) => bytes.length + 1
  | .lit _ => 1
  | .nil => 1
  | .ptr d => uptoBulk d + 1
  | .slice elems spare => uptoBulkAll elems + uptoBulkAll spare + 1
  | .agg parts => uptoBulkAll parts + 1
  | .iface _ d => uptoBulk d + 1
  | .map entries => uptoBulkEntries entries + 1
  | .held _ => 1
def uptoBulkAll {H : Type} : List (DataW H) → Nat
  | [] => 0
  | d :: r => uptoBulk d + uptoBulkAll r
def uptoBulkEntries {H : Type} : List (Lit × DataW H) → Nat
  | [] => 0
  | x :: r => uptoBulkEntry x + uptoBulkEntries r
def uptoBulkEntry {H : Type} : Lit × DataW H → Nat
  | (.string bytes, d) => bytes.length + uptoBulk d + 1
  | (_, d) => uptoBulk d + 1
 end
def uptoSmall : (H : Type) → List (DataW H) → Bool := fun _ ds => decide (uptoBulkAll ds ≤ 1048576)
def OpenSpec.upto (s : _root_.Go.ChangeSpec) : _root_.Go.OpenSpec := { _root_.Go.OpenSpec.ofChange s with cond := some uptoSmall }

/-- 'stelelaw59.AgerApplies', WHERE WHAT IT READS IS OF BULK AT MOST 1048576: true; the input reads as it did. -/
def agerAppliesUptoRow : OpenClaim := { program := "ytghpolfmhnnbaaa", sum := "92fe3eb3657da9c712cae3e53a35a7f02889377b388b742f77391175fcce1105", func := "stele/stelelaw59.AgerApplies", spec := "agerApplies", inPlace := ["internal/abi.NoEscape", "internal/bytealg.MakeNoZero"], unfollowed := true, recurses := true, apart := false, narrowed := true }
def AgerAppliesUptoSaid : Prop := agerAppliesUptoRow.holds Try.pinned (OpenSpec.upto agerAppliesSpec)

/-- 'stelelaw59.AgerPlans', WHERE WHAT IT READS IS OF BULK AT MOST 1048576: true; the input reads as it did. -/
def agerPlansUptoRow : OpenClaim := { program := "ytghpolfmhnnbaaa", sum := "92fe3eb3657da9c712cae3e53a35a7f02889377b388b742f77391175fcce1105", func := "stele/stelelaw59.AgerPlans", spec := "agerPlans", inPlace := ["internal/abi.NoEscape", "internal/bytealg.MakeNoZero"], unfollowed := true, recurses := true, apart := false, narrowed := true }
def AgerPlansUptoSaid : Prop := agerPlansUptoRow.holds Try.pinned (OpenSpec.upto agerPlansSpec)

/-- 'stelelaw59.AgerPrefix', WHERE WHAT IT READS IS OF BULK AT MOST 1048576: true; the input reads as it did. -/
def agerPrefixUptoRow : OpenClaim := { program := "ytghpolfmhnnbaaa", sum := "92fe3eb3657da9c712cae3e53a35a7f02889377b388b742f77391175fcce1105", func := "stele/stelelaw59.AgerPrefix", spec := "agerPrefix", inPlace := ["internal/abi.NoEscape", "internal/bytealg.MakeNoZero"], unfollowed := true, recurses := true, apart := false, narrowed := true }
def AgerPrefixUptoSaid : Prop := agerPrefixUptoRow.holds Try.pinned (OpenSpec.upto agerPrefixSpec)

/-- 'stelelaw59.AgerLocal', WHERE WHAT IT READS IS OF BULK AT MOST 1048576: true; the input reads as it did. -/
def agerLocalUptoRow : OpenClaim := { program := "ytghpolfmhnnbaaa", sum := "92fe3eb3657da9c712cae3e53a35a7f02889377b388b742f77391175fcce1105", func := "stele/stelelaw59.AgerLocal", spec := "agerLocal", inPlace := ["internal/abi.NoEscape", "internal/bytealg.MakeNoZero"], unfollowed := true, recurses := true, apart := false, narrowed := true }
def AgerLocalUptoSaid : Prop := agerLocalUptoRow.holds Try.pinned (OpenSpec.upto agerLocalSpec)

/-- 'stelelaw59.AgerUndo', WHERE WHAT IT READS IS OF BULK AT MOST 1048576: true; the input reads as it did. -/
def agerUndoUptoRow : OpenClaim := { program := "ytghpolfmhnnbaaa", sum := "92fe3eb3657da9c712cae3e53a35a7f02889377b388b742f77391175fcce1105", func := "stele/stelelaw59.AgerUndo", spec := "agerUndo", inPlace := ["internal/abi.NoEscape", "internal/bytealg.MakeNoZero"], unfollowed := true, recurses := true, apart := false, narrowed := true }
def AgerUndoUptoSaid : Prop := agerUndoUptoRow.holds Try.pinned (OpenSpec.upto agerUndoSpec)

/-- 'stelelaw59.AgerCells', WHERE WHAT IT READS IS OF BULK AT MOST 1048576: true; the input reads as it did. -/
def agerCellsUptoRow : OpenClaim := { program := "ytghpolfmhnnbaaa", sum := "92fe3eb3657da9c712cae3e53a35a7f02889377b388b742f77391175fcce1105", func := "stele/stelelaw59.AgerCells", spec := "agerCells", inPlace := ["internal/abi.NoEscape", "internal/bytealg.MakeNoZero"], unfollowed := true, recurses := true, apart := false, narrowed := true }
def AgerCellsUptoSaid : Prop := agerCellsUptoRow.holds Try.pinned (OpenSpec.upto agerCellsSpec)

/-- 'stelelaw59.AgerAges', WHERE WHAT IT READS IS OF BULK AT MOST 1048576: true; the input reads as it did. -/
def agerAgesUptoRow : OpenClaim := { program := "ytghpolfmhnnbaaa", sum := "92fe3eb3657da9c712cae3e53a35a7f02889377b388b742f77391175fcce1105", func := "stele/stelelaw59.AgerAges", spec := "agerAges", inPlace := ["internal/abi.NoEscape", "internal/bytealg.MakeNoZero"], unfollowed := true, recurses := true, apart := false, narrowed := true }
def AgerAgesUptoSaid : Prop := agerAgesUptoRow.holds Try.pinned (OpenSpec.upto agerAgesSpec)

end Rows
end Go.Proofs.Ytghpolfmhnnbaaa
