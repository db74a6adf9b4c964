/-
  No cell of these rows narrows 'for every input' (looked for: loops, veiled, ifaces, maps, wideKeys, modest, calm, conditions, laid).
  DERIVED. THE GIVEN ROWS OF THIS SEAT. 6 by the template 'for every input the law returns true; each argument reads behind the call as it read before'; 0 by the template 'total and deterministic' (their statements: YtbfgjngljggbpaaTotals.lean).
  GIVEN WITH THE SEED: the statements are not yours to turn. If you find one false, say at which input.
  Laid BY PROGRAM, IN A SANDBOX (cutbox-rows.mjs): the forced cells as the released guide's own fill.sh prints them over the translation bc318e1462809585… (all of the seat's roots in one cut). By AI agents, Wed Nov 11 2026. No macro, syntax, notation, axiom, sorry.
-/
import Derived.Test.YtbfgjngljggbpaaChecked
import GoSem.Claim
import GoSem.ClaimJoined
import GoSem.ClaimMapViews
import Derived.JoinedTies
import Derived.KernelRfl
namespace Go.Proofs.Ytbfgjngljggbpaa
/- THE CELL 'sum', in the pinned program and in every row, IS THE sha256 OF THE DUMP (.gsa) THAT YtbfgjngljggbpaaProg.lean LOADS. Nothing in Lean hashes anything: it is a label: what it is worth is what the hold of that sum in a sandbox is worth. -/
noncomputable def Try.pinned : Pinned := { name := "ytbfgjngljggbpaa", sum := "bc318e14628095857bf57a61d4d8da78f874b14487f48b9ff1b64c936f39dff8", checked := Try.checked }
namespace Rows
def none {H : Type} : Left H := { results := [], args := [] }

/-- 'stelelaw50.ParagraphMinimal': WHATEVER THE INPUT: true; the input reads as it did. -/
def paragraphMinimalSpec : ChangeSpec := { name := "paragraphMinimal", fn := fun _ => fun
  | [d1, d2, d3] => { results := [.lit (.bool true)], args := [d1, d2, d3] }
  | _ => none }
def paragraphMinimalRow : OpenClaim := { program := "ytbfgjngljggbpaa", sum := "bc318e14628095857bf57a61d4d8da78f874b14487f48b9ff1b64c936f39dff8", func := "stele/stelelaw50.ParagraphMinimal", spec := "paragraphMinimal", unfollowed := true, recurses := true, apart := false }
def ParagraphMinimalSaid : Prop := paragraphMinimalRow.holds Try.pinned (OpenSpec.ofChange paragraphMinimalSpec)

/-- ITS FALSE NEIGHBOUR: 'it returns false'. Refute it at one input. -/
def paragraphMinimalWrong : ChangeSpec := { name := "paragraphMinimal", fn := fun _ => fun
  | [d1, d2, d3] => { results := [.lit (.bool false)], args := [d1, d2, d3] }
  | _ => none }
def ParagraphMinimalWrongFalsely : Prop := paragraphMinimalRow.holds Try.pinned (OpenSpec.ofChange paragraphMinimalWrong)

/-- 'stelelaw50.ParagraphPrefix': WHATEVER THE INPUT: true; the input reads as it did. -/
def paragraphPrefixSpec : ChangeSpec := { name := "paragraphPrefix", fn := fun _ => fun
  | [d1, d2, d3] => { results := [.lit (.bool true)], args := [d1, d2, d3] }
  | _ => none }
def paragraphPrefixRow : OpenClaim := { program := "ytbfgjngljggbpaa", sum := "bc318e14628095857bf57a61d4d8da78f874b14487f48b9ff1b64c936f39dff8", func := "stele/stelelaw50.ParagraphPrefix", spec := "paragraphPrefix", unfollowed := true, recurses := true, apart := false }
def ParagraphPrefixSaid : Prop := paragraphPrefixRow.holds Try.pinned (OpenSpec.ofChange paragraphPrefixSpec)

/-- ITS FALSE NEIGHBOUR: 'it returns false'. Refute it at one input. -/
def paragraphPrefixWrong : ChangeSpec := { name := "paragraphPrefix", fn := fun _ => fun
  | [d1, d2, d3] => { results := [.lit (.bool false)], args := [d1, d2, d3] }
  | _ => none }
def ParagraphPrefixWrongFalsely : Prop := paragraphPrefixRow.holds Try.pinned (OpenSpec.ofChange paragraphPrefixWrong)

/-- 'stelelaw50.ParagraphSingle': WHATEVER THE INPUT: true; the input reads as it did. -/
def paragraphSingleSpec : ChangeSpec := { name := "paragraphSingle", fn := fun _ => fun
  | [d1, d2] => { results := [.lit (.bool true)], args := [d1, d2] }
  | _ => none }
def paragraphSingleRow : OpenClaim := { program := "ytbfgjngljggbpaa", sum := "bc318e14628095857bf57a61d4d8da78f874b14487f48b9ff1b64c936f39dff8", func := "stele/stelelaw50.ParagraphSingle", spec := "paragraphSingle", inPlace := ["internal/abi.NoEscape", "internal/bytealg.MakeNoZero"], unfollowed := true, recurses := true, apart := false }
def ParagraphSingleSaid : Prop := paragraphSingleRow.holds Try.pinned (OpenSpec.ofChange paragraphSingleSpec)

/-- ITS FALSE NEIGHBOUR: 'it returns false'. Refute it at one input. -/
def paragraphSingleWrong : ChangeSpec := { name := "paragraphSingle", fn := fun _ => fun
  | [d1, d2] => { results := [.lit (.bool false)], args := [d1, d2] }
  | _ => none }
def ParagraphSingleWrongFalsely : Prop := paragraphSingleRow.holds Try.pinned (OpenSpec.ofChange paragraphSingleWrong)

/-- 'stelelaw50.ParagraphGreedy': WHATEVER THE INPUT: true; the input reads as it did. -/
def paragraphGreedySpec : ChangeSpec := { name := "paragraphGreedy", fn := fun _ => fun
  | [d1, d2] => { results := [.lit (.bool true)], args := [d1, d2] }
  | _ => none }
def paragraphGreedyRow : OpenClaim := { program := "ytbfgjngljggbpaa", sum := "bc318e14628095857bf57a61d4d8da78f874b14487f48b9ff1b64c936f39dff8", func := "stele/stelelaw50.ParagraphGreedy", spec := "paragraphGreedy", inPlace := ["internal/bytealg.IndexByteString", "internal/bytealg.IndexString"], unfollowed := true, recurses := true, named := ["internal/bytealg.MaxLen"], apart := false }
def ParagraphGreedySaid : Prop := paragraphGreedyRow.holds Try.pinned (OpenSpec.ofChange paragraphGreedySpec)

/-- ITS FALSE NEIGHBOUR: 'it returns false'. Refute it at one input. -/
def paragraphGreedyWrong : ChangeSpec := { name := "paragraphGreedy", fn := fun _ => fun
  | [d1, d2] => { results := [.lit (.bool false)], args := [d1, d2] }
  | _ => none }
def ParagraphGreedyWrongFalsely : Prop := paragraphGreedyRow.holds Try.pinned (OpenSpec.ofChange paragraphGreedyWrong)

/-- 'stelelaw50.ParagraphResult': WHATEVER THE INPUT: true; the input reads as it did. -/
def paragraphResultSpec : ChangeSpec := { name := "paragraphResult", fn := fun _ => fun
  | [d1, d2] => { results := [.lit (.bool true)], args := [d1, d2] }
  | _ => none }
def paragraphResultRow : OpenClaim := { program := "ytbfgjngljggbpaa", sum := "bc318e14628095857bf57a61d4d8da78f874b14487f48b9ff1b64c936f39dff8", func := "stele/stelelaw50.ParagraphResult", spec := "paragraphResult", inPlace := ["internal/abi.NoEscape", "internal/bytealg.MakeNoZero"], unfollowed := true, recurses := true, apart := false }
def ParagraphResultSaid : Prop := paragraphResultRow.holds Try.pinned (OpenSpec.ofChange paragraphResultSpec)

/-- ITS FALSE NEIGHBOUR: 'it returns false'. Refute it at one input. -/
def paragraphResultWrong : ChangeSpec := { name := "paragraphResult", fn := fun _ => fun
  | [d1, d2] => { results := [.lit (.bool false)], args := [d1, d2] }
  | _ => none }
def ParagraphResultWrongFalsely : Prop := paragraphResultRow.holds Try.pinned (OpenSpec.ofChange paragraphResultWrong)

/-- 'stelelaw50.ParagraphHeading': WHATEVER THE INPUT: true; the input reads as it did. -/
def paragraphHeadingSpec : ChangeSpec := { name := "paragraphHeading", fn := fun _ => fun
  | [d1, d2] => { results := [.lit (.bool true)], args := [d1, d2] }
  | _ => none }
def paragraphHeadingRow : OpenClaim := { program := "ytbfgjngljggbpaa", sum := "bc318e14628095857bf57a61d4d8da78f874b14487f48b9ff1b64c936f39dff8", func := "stele/stelelaw50.ParagraphHeading", spec := "paragraphHeading", inPlace := ["internal/abi.NoEscape", "internal/bytealg.MakeNoZero"], unfollowed := true, recurses := true, apart := false }
def ParagraphHeadingSaid : Prop := paragraphHeadingRow.holds Try.pinned (OpenSpec.ofChange paragraphHeadingSpec)

/-- ITS FALSE NEIGHBOUR: 'it returns false'. Refute it at one input. -/
def paragraphHeadingWrong : ChangeSpec := { name := "paragraphHeading", fn := fun _ => fun
  | [d1, d2] => { results := [.lit (.bool false)], args := [d1, d2] }
  | _ => none }
def ParagraphHeadingWrongFalsely : Prop := paragraphHeadingRow.holds Try.pinned (OpenSpec.ofChange paragraphHeadingWrong)

/- THE SECOND FORM. 'bulk': how many values and letters a reading holds, each counted each time it is reached (what is shared counts as often as it is met; a slice's spare places count too). A statement '..UptoSaid' is the law's where the arguments, and the package variables that the reading takes, are together of bulk at most 1048576: NARROWER than '..Said'. Prove '..Said' where nothing that the law and all that it calls make is longer than what came in: it says more and counts as full. Else prove '..UptoSaid'. A law counts once. -/
mutual
def uptoBulk {H : Type} : DataW H → Nat
  | .lit (.string bytes) => bytes.length + 1
  | .lit _ => 1
  | .nil => 1
  | .ptr d => uptoBulk d + 1
  | .slice elems spare => uptoBulkAll elems + uptoBulkAll spare + 1
  | .agg parts => uptoBulkAll parts + 1
  | .iface _ d => uptoBulk d + 1
  | .map entries => uptoBulkEntries entries + 1
  | .held _ => 1
def uptoBulkAll {H : Type} : List (DataW H) → Nat
  | [] => 0
  | d :: r => uptoBulk d + uptoBulkAll r
def uptoBulkEntries {H : Type} : List (Lit × DataW H) → Nat
  | [] => 0
  | x :: r => uptoBulkEntry x + uptoBulkEntries r
def uptoBulkEntry {H : Type} : Lit × DataW H → Nat
  | (.string bytes, d) => bytes.length + uptoBulk d + 1
  | (_, d) => uptoBulk d + 1
 end
def uptoSmall : (H : Type) → List (DataW H) → Bool := fun _ ds => decide (uptoBulkAll ds ≤ 1048576)
def OpenSpec.upto (s : _root_.Go.ChangeSpec) : _root_.Go.OpenSpec := { _root_.Go.OpenSpec.ofChange s with cond := some uptoSmall }

/-- 'stelelaw50.ParagraphMinimal', WHERE WHAT IT READS IS OF BULK AT MOST 1048576: true; the input reads as it did. -/
def paragraphMinimalUptoRow : OpenClaim := { program := "ytbfgjngljggbpaa", sum := "bc318e14628095857bf57a61d4d8da78f874b14487f48b9ff1b64c936f39dff8", func := "stele/stelelaw50.ParagraphMinimal", spec := "paragraphMinimal", unfollowed := true, recurses := true, apart := false, narrowed := true }
def ParagraphMinimalUptoSaid : Prop := paragraphMinimalUptoRow.holds Try.pinned (OpenSpec.upto paragraphMinimalSpec)

/-- 'stelelaw50.ParagraphPrefix', WHERE WHAT IT READS IS OF BULK AT MOST 1048576: true; the input reads as it did. -/
def paragraphPrefixUptoRow : OpenClaim := { program := "ytbfgjngljggbpaa", sum := "bc318e14628095857bf57a61d4d8da78f874b14487f48b9ff1b64c936f39dff8", func := "stele/stelelaw50.ParagraphPrefix", spec := "paragraphPrefix", unfollowed := true, recurses := true, apart := false, narrowed := true }
def ParagraphPrefixUptoSaid : Prop := paragraphPrefixUptoRow.holds Try.pinned (OpenSpec.upto paragraphPrefixSpec)

/-- 'stelelaw50.ParagraphSingle', WHERE WHAT IT READS IS OF BULK AT MOST 1048576: true; the input reads as it did. -/
def paragraphSingleUptoRow : OpenClaim := { program := "ytbfgjngljggbpaa", sum := "bc318e14628095857bf57a61d4d8da78f874b14487f48b9ff1b64c936f39dff8", func := "stele/stelelaw50.ParagraphSingle", spec := "paragraphSingle", inPlace := ["internal/abi.NoEscape", "internal/bytealg.MakeNoZero"], unfollowed := true, recurses := true, apart := false, narrowed := true }
def ParagraphSingleUptoSaid : Prop := paragraphSingleUptoRow.holds Try.pinned (OpenSpec.upto paragraphSingleSpec)

/-- 'stelelaw50.ParagraphGreedy', WHERE WHAT IT READS IS OF BULK AT MOST 1048576: true; the input reads as it did. -/
def paragraphGreedyUptoRow : OpenClaim := { program := "ytbfgjngljggbpaa", sum := "bc318e14628095857bf57a61d4d8da78f874b14487f48b9ff1b64c936f39dff8", func := "stele/stelelaw50.ParagraphGreedy", spec := "paragraphGreedy", inPlace := ["internal/bytealg.IndexByteString", "internal/bytealg.IndexString"], unfollowed := true, recurses := true, named := ["internal/bytealg.MaxLen"], apart := false, narrowed := true }
def ParagraphGreedyUptoSaid : Prop := paragraphGreedyUptoRow.holds Try.pinned (OpenSpec.upto paragraphGreedySpec)

/-- 'stelelaw50.ParagraphResult', WHERE WHAT IT READS IS OF BULK AT MOST 1048576: true; the input reads as it did. -/
def paragraphResultUptoRow : OpenClaim := { program := "ytbfgjngljggbpaa", sum := "bc318e14628095857bf57a61d4d8da78f874b14487f48b9ff1b64c936f39dff8", func := "stele/stelelaw50.ParagraphResult", spec := "paragraphResult", inPlace := ["internal/abi.NoEscape", "internal/bytealg.MakeNoZero"], unfollowed := true, recurses := true, apart := false, narrowed := true }
def ParagraphResultUptoSaid : Prop := paragraphResultUptoRow.holds Try.pinned (OpenSpec.upto paragraphResultSpec)

/-- 'stelelaw50.ParagraphHeading', WHERE WHAT IT READS IS OF BULK AT MOST 1048576: true; the input reads as it did. -/
def paragraphHeadingUptoRow : OpenClaim := { program := "ytbfgjngljggbpaa", sum := "bc318e14628095857bf57a61d4d8da78f874b14487f48b9ff1b64c936f39dff8", func := "stele/stelelaw50.ParagraphHeading", spec := "paragraphHeading", inPlace := ["internal/abi.NoEscape", "internal/bytealg.MakeNoZero"], unfollowed := true, recurses := true, apart := false, narrowed := true }
def ParagraphHeadingUptoSaid : Prop := paragraphHeadingUptoRow.holds Try.pinned (OpenSpec.upto paragraphHeadingSpec)

end Rows
end Go.Proofs.Ytbfgjngljggbpaa
