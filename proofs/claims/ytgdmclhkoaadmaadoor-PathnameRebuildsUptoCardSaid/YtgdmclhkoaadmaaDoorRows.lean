/-
  NARROWER THAN 'FOR EVERY INPUT', by the rows' own cells (each row's printed sentence says how): PathnameChecks: laid · PathnameOrder: laid · PathnameJoins: laid · PathnameLimits: laid · PathnameRelations: laid · PathnameSubtrees: laid · PathnameUnder: laid · PathnameRebuilds: laid.
  DERIVED. THE GIVEN ROWS OF THIS SEAT. 8 by the template 'for every input the law returns true; each argument reads behind the call as it read before'; 0 by the template 'total and deterministic' (their statements: YtgdmclhkoaadmaaDoorTotals.lean).
  GIVEN WITH THE SEED: the statements are not yours to turn. If you find one false, say at which input.
  Laid BY PROGRAM, IN A SANDBOX (cutbox-rows.mjs): the forced cells as the released guide's own fill.sh prints them over the translation edfb55661d207c34… (all of the seat's roots in one cut). By AI agents, Wed Nov 11 2026. No macro, syntax, notation, axiom, sorry.
-/
import Derived.Test.YtgdmclhkoaadmaaDoorChecked
import GoSem.PinnedTables
import GoSem.Claim
import GoSem.ClaimJoined
import GoSem.ClaimMapViews
import Derived.JoinedTies
import Derived.KernelRfl
namespace Go.Proofs.YtgdmclhkoaadmaaDoor
/- THE CELL 'sum', in the pinned program and in every row, IS THE sha256 OF THE DUMP (.gsa) THAT YtgdmclhkoaadmaaDoorProg.lean LOADS. Nothing in Lean hashes anything: it is a label: what it is worth is what the hold of that sum in a sandbox is worth. -/
noncomputable def Tryd.pinned : Pinned := { name := "ytgdmclhkoaadmaadoor", sum := "edfb55661d207c34a678a666b03b55b7cb1a2e06cd7bf372dad981b9bf45f1ab", checked := Tryd.checked }
namespace Rows
def none {H : Type} : Left H := { results := [], args := [] }

/- WHAT THE LISTED PACKAGE-LEVEL VARIABLES READ AS WHEN THE CALL BEGINS. Each datum BY PROGRAM (the guide's laid-datum.mjs) off the statement by which the dump's own 'gosem.cut.vars' lays the variable. In a bare row this is a premise. The card (YtgdmclhkoaadmaaDoorCards.lean) ties it to the program's text. -/
def laid_unicode_utf8_acceptRanges {H : Type} : DataW H := .agg [.agg [.lit (.int .u8 128), .lit (.int .u8 191)], .agg [.lit (.int .u8 160), .lit (.int .u8 191)], .agg [.lit (.int .u8 128), .lit (.int .u8 159)], .agg [.lit (.int .u8 144), .lit (.int .u8 191)], .agg [.lit (.int .u8 128), .lit (.int .u8 143)], .agg [.lit (.int .u8 0), .lit (.int .u8 0)], .agg [.lit (.int .u8 0), .lit (.int .u8 0)], .agg [.lit (.int .u8 0), .lit (.int .u8 0)], .agg [.lit (.int .u8 0), .lit (.int .u8 0)], .agg [.lit (.int .u8 0), .lit (.int .u8 0)], .agg [.lit (.int .u8 0), .lit (.int .u8 0)], .agg [.lit (.int .u8 0), .lit (.int .u8 0)], .agg [.lit (.int .u8 0), .lit (.int .u8 0)], .agg [.lit (.int .u8 0), .lit (.int .u8 0)], .agg [.lit (.int .u8 0), .lit (.int .u8 0)], .agg [.lit (.int .u8 0), .lit (.int .u8 0)]]
/-- One of Go's own tables, pinned by name: the form's constant. -/
def laid_unicode_utf8_first : DataW Unit := Go.Pinned.utf8First

/-- 'stelelaw31.PathnameChecks': WHATEVER THE INPUT: true; the input reads as it did. -/
def pathnameChecksSpec : ChangeSpec := { name := "pathnameChecks", fn := fun _ => fun
  | [d] => { results := [.lit (.bool true)], args := [d] }
  | _ => none }
def pathnameChecksRow : OpenClaim := { program := "ytgdmclhkoaadmaadoor", sum := "edfb55661d207c34a678a666b03b55b7cb1a2e06cd7bf372dad981b9bf45f1ab", func := "stele/stelelaw31.PathnameChecks", spec := "pathnameChecks", inPlace := ["internal/bytealg.CountString", "internal/bytealg.IndexByteString", "internal/bytealg.IndexString", "internal/abi.NoEscape", "internal/bytealg.MakeNoZero"], unfollowed := true, recurses := true, named := ["unicode/utf8.first", "unicode/utf8.acceptRanges", "internal/bytealg.MaxLen"], apart := false, laid := [("unicode/utf8.acceptRanges", laid_unicode_utf8_acceptRanges), ("unicode/utf8.first", laid_unicode_utf8_first)] }
def PathnameChecksSaid : Prop := pathnameChecksRow.holds Tryd.pinned (OpenSpec.ofChange pathnameChecksSpec)

/-- ITS FALSE NEIGHBOUR: 'it returns false'. Refute it at one input. -/
def pathnameChecksWrong : ChangeSpec := { name := "pathnameChecks", fn := fun _ => fun
  | [d] => { results := [.lit (.bool false)], args := [d] }
  | _ => none }
def PathnameChecksWrongFalsely : Prop := pathnameChecksRow.holds Tryd.pinned (OpenSpec.ofChange pathnameChecksWrong)

/-- 'stelelaw31.PathnameOrder': WHATEVER THE INPUT: true; the input reads as it did. -/
def pathnameOrderSpec : ChangeSpec := { name := "pathnameOrder", fn := fun _ => fun
  | [d1, d2, d3] => { results := [.lit (.bool true)], args := [d1, d2, d3] }
  | _ => none }
def pathnameOrderRow : OpenClaim := { program := "ytgdmclhkoaadmaadoor", sum := "edfb55661d207c34a678a666b03b55b7cb1a2e06cd7bf372dad981b9bf45f1ab", func := "stele/stelelaw31.PathnameOrder", spec := "pathnameOrder", inPlace := ["internal/bytealg.CountString", "internal/bytealg.IndexByteString", "internal/bytealg.IndexString", "internal/abi.NoEscape", "internal/bytealg.MakeNoZero"], unfollowed := true, recurses := true, named := ["unicode/utf8.first", "unicode/utf8.acceptRanges", "internal/bytealg.MaxLen"], apart := false, laid := [("unicode/utf8.acceptRanges", laid_unicode_utf8_acceptRanges), ("unicode/utf8.first", laid_unicode_utf8_first)] }
def PathnameOrderSaid : Prop := pathnameOrderRow.holds Tryd.pinned (OpenSpec.ofChange pathnameOrderSpec)

/-- ITS FALSE NEIGHBOUR: 'it returns false'. Refute it at one input. -/
def pathnameOrderWrong : ChangeSpec := { name := "pathnameOrder", fn := fun _ => fun
  | [d1, d2, d3] => { results := [.lit (.bool false)], args := [d1, d2, d3] }
  | _ => none }
def PathnameOrderWrongFalsely : Prop := pathnameOrderRow.holds Tryd.pinned (OpenSpec.ofChange pathnameOrderWrong)

/-- 'stelelaw31.PathnameJoins': WHATEVER THE INPUT: true; the input reads as it did. -/
def pathnameJoinsSpec : ChangeSpec := { name := "pathnameJoins", fn := fun _ => fun
  | [d1, d2] => { results := [.lit (.bool true)], args := [d1, d2] }
  | _ => none }
def pathnameJoinsRow : OpenClaim := { program := "ytgdmclhkoaadmaadoor", sum := "edfb55661d207c34a678a666b03b55b7cb1a2e06cd7bf372dad981b9bf45f1ab", func := "stele/stelelaw31.PathnameJoins", spec := "pathnameJoins", inPlace := ["internal/bytealg.CountString", "internal/bytealg.IndexByteString", "internal/bytealg.IndexString", "internal/abi.NoEscape", "internal/bytealg.MakeNoZero"], unfollowed := true, recurses := true, named := ["unicode/utf8.first", "unicode/utf8.acceptRanges", "internal/bytealg.MaxLen"], apart := false, laid := [("unicode/utf8.acceptRanges", laid_unicode_utf8_acceptRanges), ("unicode/utf8.first", laid_unicode_utf8_first)] }
def PathnameJoinsSaid : Prop := pathnameJoinsRow.holds Tryd.pinned (OpenSpec.ofChange pathnameJoinsSpec)

/-- ITS FALSE NEIGHBOUR: 'it returns false'. Refute it at one input. -/
def pathnameJoinsWrong : ChangeSpec := { name := "pathnameJoins", fn := fun _ => fun
  | [d1, d2] => { results := [.lit (.bool false)], args := [d1, d2] }
  | _ => none }
def PathnameJoinsWrongFalsely : Prop := pathnameJoinsRow.holds Tryd.pinned (OpenSpec.ofChange pathnameJoinsWrong)

/-- 'stelelaw31.PathnameLimits': WHATEVER THE INPUT: true; the input reads as it did. -/
def pathnameLimitsSpec : ChangeSpec := { name := "pathnameLimits", fn := fun _ => fun
  | [d1, d2] => { results := [.lit (.bool true)], args := [d1, d2] }
  | _ => none }
def pathnameLimitsRow : OpenClaim := { program := "ytgdmclhkoaadmaadoor", sum := "edfb55661d207c34a678a666b03b55b7cb1a2e06cd7bf372dad981b9bf45f1ab", func := "stele/stelelaw31.PathnameLimits", spec := "pathnameLimits", inPlace := ["internal/bytealg.CountString", "internal/bytealg.IndexByteString", "internal/bytealg.IndexString", "internal/abi.NoEscape", "internal/bytealg.MakeNoZero"], unfollowed := true, recurses := true, named := ["unicode/utf8.first", "unicode/utf8.acceptRanges", "internal/bytealg.MaxLen"], apart := false, laid := [("unicode/utf8.acceptRanges", laid_unicode_utf8_acceptRanges), ("unicode/utf8.first", laid_unicode_utf8_first)] }
def PathnameLimitsSaid : Prop := pathnameLimitsRow.holds Tryd.pinned (OpenSpec.ofChange pathnameLimitsSpec)

/-- ITS FALSE NEIGHBOUR: 'it returns false'. Refute it at one input. -/
def pathnameLimitsWrong : ChangeSpec := { name := "pathnameLimits", fn := fun _ => fun
  | [d1, d2] => { results := [.lit (.bool false)], args := [d1, d2] }
  | _ => none }
def PathnameLimitsWrongFalsely : Prop := pathnameLimitsRow.holds Tryd.pinned (OpenSpec.ofChange pathnameLimitsWrong)

/-- 'stelelaw31.PathnameRelations': WHATEVER THE INPUT: true; the input reads as it did. -/
def pathnameRelationsSpec : ChangeSpec := { name := "pathnameRelations", fn := fun _ => fun
  | [d1, d2] => { results := [.lit (.bool true)], args := [d1, d2] }
  | _ => none }
def pathnameRelationsRow : OpenClaim := { program := "ytgdmclhkoaadmaadoor", sum := "edfb55661d207c34a678a666b03b55b7cb1a2e06cd7bf372dad981b9bf45f1ab", func := "stele/stelelaw31.PathnameRelations", spec := "pathnameRelations", inPlace := ["internal/bytealg.CountString", "internal/bytealg.IndexByteString", "internal/bytealg.IndexString", "internal/abi.NoEscape", "internal/bytealg.MakeNoZero"], unfollowed := true, recurses := true, named := ["unicode/utf8.first", "unicode/utf8.acceptRanges", "internal/bytealg.MaxLen"], apart := false, laid := [("unicode/utf8.acceptRanges", laid_unicode_utf8_acceptRanges), ("unicode/utf8.first", laid_unicode_utf8_first)] }
def PathnameRelationsSaid : Prop := pathnameRelationsRow.holds Tryd.pinned (OpenSpec.ofChange pathnameRelationsSpec)

/-- ITS FALSE NEIGHBOUR: 'it returns false'. Refute it at one input. -/
def pathnameRelationsWrong : ChangeSpec := { name := "pathnameRelations", fn := fun _ => fun
  | [d1, d2] => { results := [.lit (.bool false)], args := [d1, d2] }
  | _ => none }
def PathnameRelationsWrongFalsely : Prop := pathnameRelationsRow.holds Tryd.pinned (OpenSpec.ofChange pathnameRelationsWrong)

/-- 'stelelaw31.PathnameSubtrees': WHATEVER THE INPUT: true; the input reads as it did. -/
def pathnameSubtreesSpec : ChangeSpec := { name := "pathnameSubtrees", fn := fun _ => fun
  | [d1, d2, d3, d4] => { results := [.lit (.bool true)], args := [d1, d2, d3, d4] }
  | _ => none }
def pathnameSubtreesRow : OpenClaim := { program := "ytgdmclhkoaadmaadoor", sum := "edfb55661d207c34a678a666b03b55b7cb1a2e06cd7bf372dad981b9bf45f1ab", func := "stele/stelelaw31.PathnameSubtrees", spec := "pathnameSubtrees", inPlace := ["internal/bytealg.CountString", "internal/bytealg.IndexByteString", "internal/bytealg.IndexString", "internal/abi.NoEscape", "internal/bytealg.MakeNoZero"], unfollowed := true, recurses := true, named := ["unicode/utf8.first", "unicode/utf8.acceptRanges", "internal/bytealg.MaxLen"], apart := false, laid := [("unicode/utf8.acceptRanges", laid_unicode_utf8_acceptRanges), ("unicode/utf8.first", laid_unicode_utf8_first)] }
def PathnameSubtreesSaid : Prop := pathnameSubtreesRow.holds Tryd.pinned (OpenSpec.ofChange pathnameSubtreesSpec)

/-- ITS FALSE NEIGHBOUR: 'it returns false'. Refute it at one input. -/
def pathnameSubtreesWrong : ChangeSpec := { name := "pathnameSubtrees", fn := fun _ => fun
  | [d1, d2, d3, d4] => { results := [.lit (.bool false)], args := [d1, d2, d3, d4] }
  | _ => none }
def PathnameSubtreesWrongFalsely : Prop := pathnameSubtreesRow.holds Tryd.pinned (OpenSpec.ofChange pathnameSubtreesWrong)

/-- 'stelelaw31.PathnameUnder': WHATEVER THE INPUT: true; the input reads as it did. -/
def pathnameUnderSpec : ChangeSpec := { name := "pathnameUnder", fn := fun _ => fun
  | [d1, d2, d3] => { results := [.lit (.bool true)], args := [d1, d2, d3] }
  | _ => none }
def pathnameUnderRow : OpenClaim := { program := "ytgdmclhkoaadmaadoor", sum := "edfb55661d207c34a678a666b03b55b7cb1a2e06cd7bf372dad981b9bf45f1ab", func := "stele/stelelaw31.PathnameUnder", spec := "pathnameUnder", inPlace := ["internal/bytealg.CountString", "internal/bytealg.IndexByteString", "internal/bytealg.IndexString", "internal/abi.NoEscape", "internal/bytealg.MakeNoZero"], unfollowed := true, recurses := true, named := ["unicode/utf8.first", "unicode/utf8.acceptRanges", "internal/bytealg.MaxLen"], apart := false, laid := [("unicode/utf8.acceptRanges", laid_unicode_utf8_acceptRanges), ("unicode/utf8.first", laid_unicode_utf8_first)] }
def PathnameUnderSaid : Prop := pathnameUnderRow.holds Tryd.pinned (OpenSpec.ofChange pathnameUnderSpec)

/-- ITS FALSE NEIGHBOUR: 'it returns false'. Refute it at one input. -/
def pathnameUnderWrong : ChangeSpec := { name := "pathnameUnder", fn := fun _ => fun
  | [d1, d2, d3] => { results := [.lit (.bool false)], args := [d1, d2, d3] }
  | _ => none }
def PathnameUnderWrongFalsely : Prop := pathnameUnderRow.holds Tryd.pinned (OpenSpec.ofChange pathnameUnderWrong)

/-- 'stelelaw31.PathnameRebuilds': WHATEVER THE INPUT: true; the input reads as it did. -/
def pathnameRebuildsSpec : ChangeSpec := { name := "pathnameRebuilds", fn := fun _ => fun
  | [d] => { results := [.lit (.bool true)], args := [d] }
  | _ => none }
def pathnameRebuildsRow : OpenClaim := { program := "ytgdmclhkoaadmaadoor", sum := "edfb55661d207c34a678a666b03b55b7cb1a2e06cd7bf372dad981b9bf45f1ab", func := "stele/stelelaw31.PathnameRebuilds", spec := "pathnameRebuilds", inPlace := ["internal/bytealg.CountString", "internal/bytealg.IndexByteString", "internal/bytealg.IndexString", "internal/abi.NoEscape", "internal/bytealg.MakeNoZero"], unfollowed := true, recurses := true, named := ["unicode/utf8.first", "unicode/utf8.acceptRanges", "internal/bytealg.MaxLen"], apart := false, laid := [("unicode/utf8.acceptRanges", laid_unicode_utf8_acceptRanges), ("unicode/utf8.first", laid_unicode_utf8_first)] }
def PathnameRebuildsSaid : Prop := pathnameRebuildsRow.holds Tryd.pinned (OpenSpec.ofChange pathnameRebuildsSpec)

/-- ITS FALSE NEIGHBOUR: 'it returns false'. Refute it at one input. -/
def pathnameRebuildsWrong : ChangeSpec := { name := "pathnameRebuilds", fn := fun _ => fun
  | [d] => { results := [.lit (.bool false)], args := [d] }
  | _ => none }
def PathnameRebuildsWrongFalsely : Prop := pathnameRebuildsRow.holds Tryd.pinned (OpenSpec.ofChange pathnameRebuildsWrong)

/- THE SECOND FORM. 'bulk': how many values and letters a reading holds, each counted each time it is reached (what is shared counts as often as it is met; a slice's spare places count too). A statement '..UptoSaid' is the law's where the arguments, and the package variables that the reading takes, are together of bulk at most 1048576: NARROWER than '..Said'. Prove '..Said' where nothing that the law and all that it calls make is longer than what came in: it says more and counts as full. Else prove '..UptoSaid'. A law counts once. -/
mutual
def uptoBulk {H : Type} : DataW H → Nat
  | .lit (.string bytes) => bytes.length + 1
  | .lit _ => 1
  | .nil => 1
  | .ptr d => uptoBulk d + 1
  | .slice elems spare => uptoBulkAll elems + uptoBulkAll spare + 1
  | .agg parts => uptoBulkAll parts + 1
  | .iface _ d => uptoBulk d + 1
  | .map entries => uptoBulkEntries entries + 1
  | .held _ => 1
def uptoBulkAll {H : Type} : List (DataW H) → Nat
  | [] => 0
  | d :: r => uptoBulk d + uptoBulkAll r
def uptoBulkEntries {H : Type} : List (Lit × DataW H) → Nat
  | [] => 0
  | x :: r => uptoBulkEntry x + uptoBulkEntries r
def uptoBulkEntry {H : Type} : Lit × DataW H → Nat
  | (.string bytes, d) => bytes.length + uptoBulk d + 1
  | (_, d) => uptoBulk d + 1
 end
def uptoSmall : (H : Type) → List (DataW H) → Bool := fun _ ds => decide (uptoBulkAll ds ≤ 1048576)
def OpenSpec.upto (s : _root_.Go.ChangeSpec) : _root_.Go.OpenSpec := { _root_.Go.OpenSpec.ofChange s with cond := some uptoSmall }

/-- 'stelelaw31.PathnameChecks', WHERE WHAT IT READS IS OF BULK AT MOST 1048576: true; the input reads as it did. -/
def pathnameChecksUptoRow : OpenClaim := { program := "ytgdmclhkoaadmaadoor", sum := "edfb55661d207c34a678a666b03b55b7cb1a2e06cd7bf372dad981b9bf45f1ab", func := "stele/stelelaw31.PathnameChecks", spec := "pathnameChecks", inPlace := ["internal/bytealg.CountString", "internal/bytealg.IndexByteString", "internal/bytealg.IndexString", "internal/abi.NoEscape", "internal/bytealg.MakeNoZero"], unfollowed := true, recurses := true, named := ["unicode/utf8.first", "unicode/utf8.acceptRanges", "internal/bytealg.MaxLen"], apart := false, laid := [("unicode/utf8.acceptRanges", laid_unicode_utf8_acceptRanges), ("unicode/utf8.first", laid_unicode_utf8_first)], narrowed := true }
def PathnameChecksUptoSaid : Prop := pathnameChecksUptoRow.holds Tryd.pinned (OpenSpec.upto pathnameChecksSpec)

/-- 'stelelaw31.PathnameOrder', WHERE WHAT IT READS IS OF BULK AT MOST 1048576: true; the input reads as it did. -/
def pathnameOrderUptoRow : OpenClaim := { program := "ytgdmclhkoaadmaadoor", sum := "edfb55661d207c34a678a666b03b55b7cb1a2e06cd7bf372dad981b9bf45f1ab", func := "stele/stelelaw31.PathnameOrder", spec := "pathnameOrder", inPlace := ["internal/bytealg.CountString", "internal/bytealg.IndexByteString", "internal/bytealg.IndexString", "internal/abi.NoEscape", "internal/bytealg.MakeNoZero"], unfollowed := true, recurses := true, named := ["unicode/utf8.first", "unicode/utf8.acceptRanges", "internal/bytealg.MaxLen"], apart := false, laid := [("unicode/utf8.acceptRanges", laid_unicode_utf8_acceptRanges), ("unicode/utf8.first", laid_unicode_utf8_first)], narrowed := true }
def PathnameOrderUptoSaid : Prop := pathnameOrderUptoRow.holds Tryd.pinned (OpenSpec.upto pathnameOrderSpec)

/-- 'stelelaw31.PathnameJoins', WHERE WHAT IT READS IS OF BULK AT MOST 1048576: true; the input reads as it did. -/
def pathnameJoinsUptoRow : OpenClaim := { program := "ytgdmclhkoaadmaadoor", sum := "edfb55661d207c34a678a666b03b55b7cb1a2e06cd7bf372dad981b9bf45f1ab", func := "stele/stelelaw31.PathnameJoins", spec := "pathnameJoins", inPlace := ["internal/bytealg.CountString", "internal/bytealg.IndexByteString", "internal/bytealg.IndexString", "internal/abi.NoEscape", "internal/bytealg.MakeNoZero"], unfollowed := true, recurses := true, named := ["unicode/utf8.first", "unicode/utf8.acceptRanges", "internal/bytealg.MaxLen"], apart := false, laid := [("unicode/utf8.acceptRanges", laid_unicode_utf8_acceptRanges), ("unicode/utf8.first", laid_unicode_utf8_first)], narrowed := true }
def PathnameJoinsUptoSaid : Prop := pathnameJoinsUptoRow.holds Tryd.pinned (OpenSpec.upto pathnameJoinsSpec)

/-- 'stelelaw31.PathnameLimits', WHERE WHAT IT READS IS OF BULK AT MOST 1048576: true; the input reads as it did. -/
def pathnameLimitsUptoRow : OpenClaim := { program := "ytgdmclhkoaadmaadoor", sum := "edfb55661d207c34a678a666b03b55b7cb1a2e06cd7bf372dad981b9bf45f1ab", func := "stele/stelelaw31.PathnameLimits", spec := "pathnameLimits", inPlace := ["internal/bytealg.CountString", "internal/bytealg.IndexByteString", "internal/bytealg.IndexString", "internal/abi.NoEscape", "internal/bytealg.MakeNoZero"], unfollowed := true, recurses := true, named := ["unicode/utf8.first", "unicode/utf8.acceptRanges", "internal/bytealg.MaxLen"], apart := false, laid := [("unicode/utf8.acceptRanges", laid_unicode_utf8_acceptRanges), ("unicode/utf8.first", laid_unicode_utf8_first)], narrowed := true }
def PathnameLimitsUptoSaid : Prop := pathnameLimitsUptoRow.holds Tryd.pinned (OpenSpec.upto pathnameLimitsSpec)

/-- 'stelelaw31.PathnameRelations', WHERE WHAT IT READS IS OF BULK AT MOST 1048576: true; the input reads as it did. -/
def pathnameRelationsUptoRow : OpenClaim := { program := "ytgdmclhkoaadmaadoor", sum := "edfb55661d207c34a678a666b03b55b7cb1a2e06cd7bf372dad981b9bf45f1ab", func := "stele/stelelaw31.PathnameRelations", spec := "pathnameRelations", inPlace := ["internal/bytealg.CountString", "internal/bytealg.IndexByteString", "internal/bytealg.IndexString", "internal/abi.NoEscape", "internal/bytealg.MakeNoZero"], unfollowed := true, recurses := true, named := ["unicode/utf8.first", "unicode/utf8.acceptRanges", "internal/bytealg.MaxLen"], apart := false, laid := [("unicode/utf8.acceptRanges", laid_unicode_utf8_acceptRanges), ("unicode/utf8.first", laid_unicode_utf8_first)], narrowed := true }
def PathnameRelationsUptoSaid : Prop := pathnameRelationsUptoRow.holds Tryd.pinned (OpenSpec.upto pathnameRelationsSpec)

/-- 'stelelaw31.PathnameSubtrees', WHERE WHAT IT READS IS OF BULK AT MOST 1048576: true; the input reads as it did. -/
def pathnameSubtreesUptoRow : OpenClaim := { program := "ytgdmclhkoaadmaadoor", sum := "edfb55661d207c34a678a666b03b55b7cb1a2e06cd7bf372dad981b9bf45f1ab", func := "stele/stelelaw31.PathnameSubtrees", spec := "pathnameSubtrees", inPlace := ["internal/bytealg.CountString", "internal/bytealg.IndexByteString", "internal/bytealg.IndexString", "internal/abi.NoEscape", "internal/bytealg.MakeNoZero"], unfollowed := true, recurses := true, named := ["unicode/utf8.first", "unicode/utf8.acceptRanges", "internal/bytealg.MaxLen"], apart := false, laid := [("unicode/utf8.acceptRanges", laid_unicode_utf8_acceptRanges), ("unicode/utf8.first", laid_unicode_utf8_first)], narrowed := true }
def PathnameSubtreesUptoSaid : Prop := pathnameSubtreesUptoRow.holds Tryd.pinned (OpenSpec.upto pathnameSubtreesSpec)

/-- 'stelelaw31.PathnameUnder', WHERE WHAT IT READS IS OF BULK AT MOST 1048576: true; the input reads as it did. -/
def pathnameUnderUptoRow : OpenClaim := { program := "ytgdmclhkoaadmaadoor", sum := "edfb55661d207c34a678a666b03b55b7cb1a2e06cd7bf372dad981b9bf45f1ab", func := "stele/stelelaw31.PathnameUnder", spec := "pathnameUnder", inPlace := ["internal/bytealg.CountString", "internal/bytealg.IndexByteString", "internal/bytealg.IndexString", "internal/abi.NoEscape", "internal/bytealg.MakeNoZero"], unfollowed := true, recurses := true, named := ["unicode/utf8.first", "unicode/utf8.acceptRanges", "internal/bytealg.MaxLen"], apart := false, laid := [("unicode/utf8.acceptRanges", laid_unicode_utf8_acceptRanges), ("unicode/utf8.first", laid_unicode_utf8_first)], narrowed := true }
def PathnameUnderUptoSaid : Prop := pathnameUnderUptoRow.holds Tryd.pinned (OpenSpec.upto pathnameUnderSpec)

/-- 'stelelaw31.PathnameRebuilds', WHERE WHAT IT READS IS OF BULK AT MOST 1048576: true; the input reads as it did. -/
def pathnameRebuildsUptoRow : OpenClaim := { program := "ytgdmclhkoaadmaadoor", sum := "edfb55661d207c34a678a666b03b55b7cb1a2e06cd7bf372dad981b9bf45f1ab", func := "stele/stelelaw31.PathnameRebuilds", spec := "pathnameRebuilds", inPlace := ["internal/bytealg.CountString", "internal/bytealg.IndexByteString", "internal/bytealg.IndexString", "internal/abi.NoEscape", "internal/bytealg.MakeNoZero"], unfollowed := true, recurses := true, named := ["unicode/utf8.first", "unicode/utf8.acceptRanges", "internal/bytealg.MaxLen"], apart := false, laid := [("unicode/utf8.acceptRanges", laid_unicode_utf8_acceptRanges), ("unicode/utf8.first", laid_unicode_utf8_first)], narrowed := true }
def PathnameRebuildsUptoSaid : Prop := pathnameRebuildsUptoRow.holds Tryd.pinned (OpenSpec.upto pathnameRebuildsSpec)

end Rows
end Go.Proofs.YtgdmclhkoaadmaaDoor
