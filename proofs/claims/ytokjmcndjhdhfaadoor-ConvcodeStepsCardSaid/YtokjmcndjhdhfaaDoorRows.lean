/-
  NARROWER THAN 'FOR EVERY INPUT', by the rows' own cells (each row's printed sentence says how): ConvcodeExtracts: laid · ConvcodeSteps: laid · ConvcodeRoundTrip: laid · ConvcodeLinear: laid · ConvcodePrefix: laid · ConvcodeEncodes: laid · ConvcodeDistance: laid · ConvcodeShift: laid.
  DERIVED. THE GIVEN ROWS OF THIS SEAT. 8 by the template 'for every input the law returns true; each argument reads behind the call as it read before'; 0 by the template 'total and deterministic' (their statements: YtokjmcndjhdhfaaDoorTotals.lean).
  GIVEN WITH THE SEED: the statements are not yours to turn. If you find one false, say at which input.
  Laid BY PROGRAM, IN A SANDBOX (cutbox-rows.mjs): the forced cells as the released guide's own fill.sh prints them over the translation 21d059d1ea8fb5ef… (all of the seat's roots in one cut). By AI agents, Wed Nov 11 2026. No macro, syntax, notation, axiom, sorry.
-/
import Derived.Test.YtokjmcndjhdhfaaDoorChecked
import GoSem.PinnedTables
import GoSem.Claim
import GoSem.ClaimJoined
import GoSem.ClaimMapViews
import Derived.JoinedTies
import Derived.KernelRfl
namespace Go.Proofs.YtokjmcndjhdhfaaDoor
/- THE CELL 'sum', in the pinned program and in every row, IS THE sha256 OF THE DUMP (.gsa) THAT YtokjmcndjhdhfaaDoorProg.lean LOADS. Nothing in Lean hashes anything: it is a label: what it is worth is what the hold of that sum in a sandbox is worth. -/
noncomputable def Tryd.pinned : Pinned := { name := "ytokjmcndjhdhfaadoor", sum := "21d059d1ea8fb5ef5c6bda3f50657900303305300851b88fce01be4e63b9a6ba", checked := Tryd.checked }
namespace Rows
def none {H : Type} : Left H := { results := [], args := [] }

/- WHAT THE LISTED PACKAGE-LEVEL VARIABLES READ AS WHEN THE CALL BEGINS. Each datum BY PROGRAM (the guide's laid-datum.mjs) off the statement by which the dump's own 'gosem.cut.vars' lays the variable. In a bare row this is a premise. The card (YtokjmcndjhdhfaaDoorCards.lean) ties it to the program's text. -/
def laid_unicode_utf8_acceptRanges {H : Type} : DataW H := .agg [.agg [.lit (.int .u8 128), .lit (.int .u8 191)], .agg [.lit (.int .u8 160), .lit (.int .u8 191)], .agg [.lit (.int .u8 128), .lit (.int .u8 159)], .agg [.lit (.int .u8 144), .lit (.int .u8 191)], .agg [.lit (.int .u8 128), .lit (.int .u8 143)], .agg [.lit (.int .u8 0), .lit (.int .u8 0)], .agg [.lit (.int .u8 0), .lit (.int .u8 0)], .agg [.lit (.int .u8 0), .lit (.int .u8 0)], .agg [.lit (.int .u8 0), .lit (.int .u8 0)], .agg [.lit (.int .u8 0), .lit (.int .u8 0)], .agg [.lit (.int .u8 0), .lit (.int .u8 0)], .agg [.lit (.int .u8 0), .lit (.int .u8 0)], .agg [.lit (.int .u8 0), .lit (.int .u8 0)], .agg [.lit (.int .u8 0), .lit (.int .u8 0)], .agg [.lit (.int .u8 0), .lit (.int .u8 0)], .agg [.lit (.int .u8 0), .lit (.int .u8 0)]]
/-- One of Go's own tables, pinned by name: the form's constant. -/
def laid_unicode_utf8_first : DataW Unit := Go.Pinned.utf8First

/-- 'stelelaw09.ConvcodeExtracts': WHATEVER THE INPUT: true; the input reads as it did. -/
def convcodeExtractsSpec : ChangeSpec := { name := "convcodeExtracts", fn := fun _ => fun
  | [d] => { results := [.lit (.bool true)], args := [d] }
  | _ => none }
def convcodeExtractsRow : OpenClaim := { program := "ytokjmcndjhdhfaadoor", sum := "21d059d1ea8fb5ef5c6bda3f50657900303305300851b88fce01be4e63b9a6ba", func := "stele/stelelaw09.ConvcodeExtracts", spec := "convcodeExtracts", inPlace := ["internal/bytealg.IndexByteString", "internal/bytealg.IndexString", "internal/abi.NoEscape"], unfollowed := true, recurses := true, named := ["unicode/utf8.first", "unicode/utf8.acceptRanges", "internal/bytealg.MaxLen"], apart := false, laid := [("unicode/utf8.acceptRanges", laid_unicode_utf8_acceptRanges), ("unicode/utf8.first", laid_unicode_utf8_first)] }
def ConvcodeExtractsSaid : Prop := convcodeExtractsRow.holds Tryd.pinned (OpenSpec.ofChange convcodeExtractsSpec)

/-- ITS FALSE NEIGHBOUR: 'it returns false'. Refute it at one input. -/
def convcodeExtractsWrong : ChangeSpec := { name := "convcodeExtracts", fn := fun _ => fun
  | [d] => { results := [.lit (.bool false)], args := [d] }
  | _ => none }
def ConvcodeExtractsWrongFalsely : Prop := convcodeExtractsRow.holds Tryd.pinned (OpenSpec.ofChange convcodeExtractsWrong)

/-- 'stelelaw09.ConvcodeSteps': WHATEVER THE INPUT: true; the input reads as it did. -/
def convcodeStepsSpec : ChangeSpec := { name := "convcodeSteps", fn := fun _ => fun
  | [d1, d2, d3] => { results := [.lit (.bool true)], args := [d1, d2, d3] }
  | _ => none }
def convcodeStepsRow : OpenClaim := { program := "ytokjmcndjhdhfaadoor", sum := "21d059d1ea8fb5ef5c6bda3f50657900303305300851b88fce01be4e63b9a6ba", func := "stele/stelelaw09.ConvcodeSteps", spec := "convcodeSteps", inPlace := ["internal/bytealg.IndexByteString", "internal/bytealg.IndexString", "internal/abi.NoEscape"], unfollowed := true, recurses := true, named := ["unicode/utf8.first", "unicode/utf8.acceptRanges", "internal/bytealg.MaxLen"], apart := false, laid := [("unicode/utf8.acceptRanges", laid_unicode_utf8_acceptRanges), ("unicode/utf8.first", laid_unicode_utf8_first)] }
def ConvcodeStepsSaid : Prop := convcodeStepsRow.holds Tryd.pinned (OpenSpec.ofChange convcodeStepsSpec)

/-- ITS FALSE NEIGHBOUR: 'it returns false'. Refute it at one input. -/
def convcodeStepsWrong : ChangeSpec := { name := "convcodeSteps", fn := fun _ => fun
  | [d1, d2, d3] => { results := [.lit (.bool false)], args := [d1, d2, d3] }
  | _ => none }
def ConvcodeStepsWrongFalsely : Prop := convcodeStepsRow.holds Tryd.pinned (OpenSpec.ofChange convcodeStepsWrong)

/-- 'stelelaw09.ConvcodeRoundTrip': WHATEVER THE INPUT: true; the input reads as it did. -/
def convcodeRoundTripSpec : ChangeSpec := { name := "convcodeRoundTrip", fn := fun _ => fun
  | [d1, d2, d3] => { results := [.lit (.bool true)], args := [d1, d2, d3] }
  | _ => none }
def convcodeRoundTripRow : OpenClaim := { program := "ytokjmcndjhdhfaadoor", sum := "21d059d1ea8fb5ef5c6bda3f50657900303305300851b88fce01be4e63b9a6ba", func := "stele/stelelaw09.ConvcodeRoundTrip", spec := "convcodeRoundTrip", inPlace := ["internal/bytealg.IndexByteString", "internal/bytealg.IndexString", "internal/abi.NoEscape"], unfollowed := true, recurses := true, named := ["unicode/utf8.first", "unicode/utf8.acceptRanges", "internal/bytealg.MaxLen"], apart := false, laid := [("unicode/utf8.acceptRanges", laid_unicode_utf8_acceptRanges), ("unicode/utf8.first", laid_unicode_utf8_first)] }
def ConvcodeRoundTripSaid : Prop := convcodeRoundTripRow.holds Tryd.pinned (OpenSpec.ofChange convcodeRoundTripSpec)

/-- ITS FALSE NEIGHBOUR: 'it returns false'. Refute it at one input. -/
def convcodeRoundTripWrong : ChangeSpec := { name := "convcodeRoundTrip", fn := fun _ => fun
  | [d1, d2, d3] => { results := [.lit (.bool false)], args := [d1, d2, d3] }
  | _ => none }
def ConvcodeRoundTripWrongFalsely : Prop := convcodeRoundTripRow.holds Tryd.pinned (OpenSpec.ofChange convcodeRoundTripWrong)

/-- 'stelelaw09.ConvcodeLinear': WHATEVER THE INPUT: true; the input reads as it did. -/
def convcodeLinearSpec : ChangeSpec := { name := "convcodeLinear", fn := fun _ => fun
  | [d1, d2] => { results := [.lit (.bool true)], args := [d1, d2] }
  | _ => none }
def convcodeLinearRow : OpenClaim := { program := "ytokjmcndjhdhfaadoor", sum := "21d059d1ea8fb5ef5c6bda3f50657900303305300851b88fce01be4e63b9a6ba", func := "stele/stelelaw09.ConvcodeLinear", spec := "convcodeLinear", inPlace := ["internal/bytealg.IndexByteString", "internal/bytealg.IndexString", "internal/abi.NoEscape"], unfollowed := true, recurses := true, named := ["unicode/utf8.first", "unicode/utf8.acceptRanges", "internal/bytealg.MaxLen"], apart := false, laid := [("unicode/utf8.acceptRanges", laid_unicode_utf8_acceptRanges), ("unicode/utf8.first", laid_unicode_utf8_first)] }
def ConvcodeLinearSaid : Prop := convcodeLinearRow.holds Tryd.pinned (OpenSpec.ofChange convcodeLinearSpec)

/-- ITS FALSE NEIGHBOUR: 'it returns false'. Refute it at one input. -/
def convcodeLinearWrong : ChangeSpec := { name := "convcodeLinear", fn := fun _ => fun
  | [d1, d2] => { results := [.lit (.bool false)], args := [d1, d2] }
  | _ => none }
def ConvcodeLinearWrongFalsely : Prop := convcodeLinearRow.holds Tryd.pinned (OpenSpec.ofChange convcodeLinearWrong)

/-- 'stelelaw09.ConvcodePrefix': WHATEVER THE INPUT: true; the input reads as it did. -/
def convcodePrefixSpec : ChangeSpec := { name := "convcodePrefix", fn := fun _ => fun
  | [d1, d2, d3] => { results := [.lit (.bool true)], args := [d1, d2, d3] }
  | _ => none }
def convcodePrefixRow : OpenClaim := { program := "ytokjmcndjhdhfaadoor", sum := "21d059d1ea8fb5ef5c6bda3f50657900303305300851b88fce01be4e63b9a6ba", func := "stele/stelelaw09.ConvcodePrefix", spec := "convcodePrefix", inPlace := ["internal/bytealg.IndexByteString", "internal/bytealg.IndexString", "internal/abi.NoEscape"], unfollowed := true, recurses := true, named := ["unicode/utf8.first", "unicode/utf8.acceptRanges", "internal/bytealg.MaxLen"], apart := false, laid := [("unicode/utf8.acceptRanges", laid_unicode_utf8_acceptRanges), ("unicode/utf8.first", laid_unicode_utf8_first)] }
def ConvcodePrefixSaid : Prop := convcodePrefixRow.holds Tryd.pinned (OpenSpec.ofChange convcodePrefixSpec)

/-- ITS FALSE NEIGHBOUR: 'it returns false'. Refute it at one input. -/
def convcodePrefixWrong : ChangeSpec := { name := "convcodePrefix", fn := fun _ => fun
  | [d1, d2, d3] => { results := [.lit (.bool false)], args := [d1, d2, d3] }
  | _ => none }
def ConvcodePrefixWrongFalsely : Prop := convcodePrefixRow.holds Tryd.pinned (OpenSpec.ofChange convcodePrefixWrong)

/-- 'stelelaw09.ConvcodeEncodes': WHATEVER THE INPUT: true; the input reads as it did. -/
def convcodeEncodesSpec : ChangeSpec := { name := "convcodeEncodes", fn := fun _ => fun
  | [d] => { results := [.lit (.bool true)], args := [d] }
  | _ => none }
def convcodeEncodesRow : OpenClaim := { program := "ytokjmcndjhdhfaadoor", sum := "21d059d1ea8fb5ef5c6bda3f50657900303305300851b88fce01be4e63b9a6ba", func := "stele/stelelaw09.ConvcodeEncodes", spec := "convcodeEncodes", inPlace := ["internal/bytealg.IndexByteString", "internal/bytealg.IndexString", "internal/abi.NoEscape", "internal/bytealg.CountString"], unfollowed := true, recurses := true, named := ["unicode/utf8.first", "unicode/utf8.acceptRanges", "internal/bytealg.MaxLen"], apart := false, laid := [("unicode/utf8.acceptRanges", laid_unicode_utf8_acceptRanges), ("unicode/utf8.first", laid_unicode_utf8_first)] }
def ConvcodeEncodesSaid : Prop := convcodeEncodesRow.holds Tryd.pinned (OpenSpec.ofChange convcodeEncodesSpec)

/-- ITS FALSE NEIGHBOUR: 'it returns false'. Refute it at one input. -/
def convcodeEncodesWrong : ChangeSpec := { name := "convcodeEncodes", fn := fun _ => fun
  | [d] => { results := [.lit (.bool false)], args := [d] }
  | _ => none }
def ConvcodeEncodesWrongFalsely : Prop := convcodeEncodesRow.holds Tryd.pinned (OpenSpec.ofChange convcodeEncodesWrong)

/-- 'stelelaw09.ConvcodeDistance': WHATEVER THE INPUT: true; the input reads as it did. -/
def convcodeDistanceSpec : ChangeSpec := { name := "convcodeDistance", fn := fun _ => fun
  | [d1, d2] => { results := [.lit (.bool true)], args := [d1, d2] }
  | _ => none }
def convcodeDistanceRow : OpenClaim := { program := "ytokjmcndjhdhfaadoor", sum := "21d059d1ea8fb5ef5c6bda3f50657900303305300851b88fce01be4e63b9a6ba", func := "stele/stelelaw09.ConvcodeDistance", spec := "convcodeDistance", inPlace := ["internal/bytealg.IndexByteString", "internal/bytealg.IndexString", "internal/abi.NoEscape", "internal/bytealg.CountString"], unfollowed := true, recurses := true, named := ["unicode/utf8.first", "unicode/utf8.acceptRanges", "internal/bytealg.MaxLen"], apart := false, laid := [("unicode/utf8.acceptRanges", laid_unicode_utf8_acceptRanges), ("unicode/utf8.first", laid_unicode_utf8_first)] }
def ConvcodeDistanceSaid : Prop := convcodeDistanceRow.holds Tryd.pinned (OpenSpec.ofChange convcodeDistanceSpec)

/-- ITS FALSE NEIGHBOUR: 'it returns false'. Refute it at one input. -/
def convcodeDistanceWrong : ChangeSpec := { name := "convcodeDistance", fn := fun _ => fun
  | [d1, d2] => { results := [.lit (.bool false)], args := [d1, d2] }
  | _ => none }
def ConvcodeDistanceWrongFalsely : Prop := convcodeDistanceRow.holds Tryd.pinned (OpenSpec.ofChange convcodeDistanceWrong)

/-- 'stelelaw09.ConvcodeShift': WHATEVER THE INPUT: true; the input reads as it did. -/
def convcodeShiftSpec : ChangeSpec := { name := "convcodeShift", fn := fun _ => fun
  | [d1, d2] => { results := [.lit (.bool true)], args := [d1, d2] }
  | _ => none }
def convcodeShiftRow : OpenClaim := { program := "ytokjmcndjhdhfaadoor", sum := "21d059d1ea8fb5ef5c6bda3f50657900303305300851b88fce01be4e63b9a6ba", func := "stele/stelelaw09.ConvcodeShift", spec := "convcodeShift", inPlace := ["internal/bytealg.IndexByteString", "internal/bytealg.IndexString", "internal/abi.NoEscape", "internal/bytealg.CountString"], unfollowed := true, recurses := true, named := ["unicode/utf8.first", "unicode/utf8.acceptRanges", "internal/bytealg.MaxLen"], apart := false, laid := [("unicode/utf8.acceptRanges", laid_unicode_utf8_acceptRanges), ("unicode/utf8.first", laid_unicode_utf8_first)] }
def ConvcodeShiftSaid : Prop := convcodeShiftRow.holds Tryd.pinned (OpenSpec.ofChange convcodeShiftSpec)

/-- ITS FALSE NEIGHBOUR: 'it returns false'. Refute it at one input. -/
def convcodeShiftWrong : ChangeSpec := { name := "convcodeShift", fn := fun _ => fun
  | [d1, d2] => { results := [.lit (.bool false)], args := [d1, d2] }
  | _ => none }
def ConvcodeShiftWrongFalsely : Prop := convcodeShiftRow.holds Tryd.pinned (OpenSpec.ofChange convcodeShiftWrong)

/- THE SECOND FORM. 'bulk': how many values and letters a reading holds, each counted each time it is reached (what is shared counts as often as it is met; a slice's spare places count too). A statement '..UptoSaid' is the law's where the arguments, and the package variables that the reading takes, are together of bulk at most 1048576: NARROWER than '..Said'. Prove '..Said' where nothing that the law and all that it calls make is longer than what came in: it says more and counts as full. Else prove '..UptoSaid'. A law counts once. -/
mutual
def uptoBulk {H : Type} : DataW H → Nat
  | .lit (.string bytes) => bytes.length + 1
  | .lit _ => 1
  | .nil => 1
  | .ptr d => uptoBulk d + 1
  | .slice elems spare => uptoBulkAll elems + uptoBulkAll spare + 1
  | .agg parts => uptoBulkAll parts + 1
  | .iface _ d => uptoBulk d + 1
  | .map entries => uptoBulkEntries entries + 1
  | .held _ => 1
def uptoBulkAll {H : Type} : List (DataW H) → Nat
  | [] => 0
  | d :: r => uptoBulk d + uptoBulkAll r
def uptoBulkEntries {H : Type} : List (Lit × DataW H) → Nat
  | [] => 0
  | x :: r => uptoBulkEntry x + uptoBulkEntries r
def uptoBulkEntry {H : Type} : Lit × DataW H → Nat
  | (.string bytes, d) => bytes.length + uptoBulk d + 1
  | (_, d) => uptoBulk d + 1
 end
def uptoSmall : (H : Type) → List (DataW H) → Bool := fun _ ds => decide (uptoBulkAll ds ≤ 1048576)
def OpenSpec.upto (s : _root_.Go.ChangeSpec) : _root_.Go.OpenSpec := { _root_.Go.OpenSpec.ofChange s with cond := some uptoSmall }

/-- 'stelelaw09.ConvcodeExtracts', WHERE WHAT IT READS IS OF BULK AT MOST 1048576: true; the input reads as it did. -/
def convcodeExtractsUptoRow : OpenClaim := { program := "ytokjmcndjhdhfaadoor", sum := "21d059d1ea8fb5ef5c6bda3f50657900303305300851b88fce01be4e63b9a6ba", func := "stele/stelelaw09.ConvcodeExtracts", spec := "convcodeExtracts", inPlace := ["internal/bytealg.IndexByteString", "internal/bytealg.IndexString", "internal/abi.NoEscape"], unfollowed := true, recurses := true, named := ["unicode/utf8.first", "unicode/utf8.acceptRanges", "internal/bytealg.MaxLen"], apart := false, laid := [("unicode/utf8.acceptRanges", laid_unicode_utf8_acceptRanges), ("unicode/utf8.first", laid_unicode_utf8_first)], narrowed := true }
def ConvcodeExtractsUptoSaid : Prop := convcodeExtractsUptoRow.holds Tryd.pinned (OpenSpec.upto convcodeExtractsSpec)

/-- 'stelelaw09.ConvcodeSteps', WHERE WHAT IT READS IS OF BULK AT MOST 1048576: true; the input reads as it did. -/
def convcodeStepsUptoRow : OpenClaim := { program := "ytokjmcndjhdhfaadoor", sum := "21d059d1ea8fb5ef5c6bda3f50657900303305300851b88fce01be4e63b9a6ba", func := "stele/stelelaw09.ConvcodeSteps", spec := "convcodeSteps", inPlace := ["internal/bytealg.IndexByteString", "internal/bytealg.IndexString", "internal/abi.NoEscape"], unfollowed := true, recurses := true, named := ["unicode/utf8.first", "unicode/utf8.acceptRanges", "internal/bytealg.MaxLen"], apart := false, laid := [("unicode/utf8.acceptRanges", laid_unicode_utf8_acceptRanges), ("unicode/utf8.first", laid_unicode_utf8_first)], narrowed := true }
def ConvcodeStepsUptoSaid : Prop := convcodeStepsUptoRow.holds Tryd.pinned (OpenSpec.upto convcodeStepsSpec)

/-- 'stelelaw09.ConvcodeRoundTrip', WHERE WHAT IT READS IS OF BULK AT MOST 1048576: true; the input reads as it did. -/
def convcodeRoundTripUptoRow : OpenClaim := { program := "ytokjmcndjhdhfaadoor", sum := "21d059d1ea8fb5ef5c6bda3f50657900303305300851b88fce01be4e63b9a6ba", func := "stele/stelelaw09.ConvcodeRoundTrip", spec := "convcodeRoundTrip", inPlace := ["internal/bytealg.IndexByteString", "internal/bytealg.IndexString", "internal/abi.NoEscape"], unfollowed := true, recurses := true, named := ["unicode/utf8.first", "unicode/utf8.acceptRanges", "internal/bytealg.MaxLen"], apart := false, laid := [("unicode/utf8.acceptRanges", laid_unicode_utf8_acceptRanges), ("unicode/utf8.first", laid_unicode_utf8_first)], narrowed := true }
def ConvcodeRoundTripUptoSaid : Prop := convcodeRoundTripUptoRow.holds Tryd.pinned (OpenSpec.upto convcodeRoundTripSpec)

/-- 'stelelaw09.ConvcodeLinear', WHERE WHAT IT READS IS OF BULK AT MOST 1048576: true; the input reads as it did. -/
def convcodeLinearUptoRow : OpenClaim := { program := "ytokjmcndjhdhfaadoor", sum := "21d059d1ea8fb5ef5c6bda3f50657900303305300851b88fce01be4e63b9a6ba", func := "stele/stelelaw09.ConvcodeLinear", spec := "convcodeLinear", inPlace := ["internal/bytealg.IndexByteString", "internal/bytealg.IndexString", "internal/abi.NoEscape"], unfollowed := true, recurses := true, named := ["unicode/utf8.first", "unicode/utf8.acceptRanges", "internal/bytealg.MaxLen"], apart := false, laid := [("unicode/utf8.acceptRanges", laid_unicode_utf8_acceptRanges), ("unicode/utf8.first", laid_unicode_utf8_first)], narrowed := true }
def ConvcodeLinearUptoSaid : Prop := convcodeLinearUptoRow.holds Tryd.pinned (OpenSpec.upto convcodeLinearSpec)

/-- 'stelelaw09.ConvcodePrefix', WHERE WHAT IT READS IS OF BULK AT MOST 1048576: true; the input reads as it did. -/
def convcodePrefixUptoRow : OpenClaim := { program := "ytokjmcndjhdhfaadoor", sum := "21d059d1ea8fb5ef5c6bda3f50657900303305300851b88fce01be4e63b9a6ba", func := "stele/stelelaw09.ConvcodePrefix", spec := "convcodePrefix", inPlace := ["internal/bytealg.IndexByteString", "internal/bytealg.IndexString", "internal/abi.NoEscape"], unfollowed := true, recurses := true, named := ["unicode/utf8.first", "unicode/utf8.acceptRanges", "internal/bytealg.MaxLen"], apart := false, laid := [("unicode/utf8.acceptRanges", laid_unicode_utf8_acceptRanges), ("unicode/utf8.first", laid_unicode_utf8_first)], narrowed := true }
def ConvcodePrefixUptoSaid : Prop := convcodePrefixUptoRow.holds Tryd.pinned (OpenSpec.upto convcodePrefixSpec)

/-- 'stelelaw09.ConvcodeEncodes', WHERE WHAT IT READS IS OF BULK AT MOST 1048576: true; the input reads as it did. -/
def convcodeEncodesUptoRow : OpenClaim := { program := "ytokjmcndjhdhfaadoor", sum := "21d059d1ea8fb5ef5c6bda3f50657900303305300851b88fce01be4e63b9a6ba", func := "stele/stelelaw09.ConvcodeEncodes", spec := "convcodeEncodes", inPlace := ["internal/bytealg.IndexByteString", "internal/bytealg.IndexString", "internal/abi.NoEscape", "internal/bytealg.CountString"], unfollowed := true, recurses := true, named := ["unicode/utf8.first", "unicode/utf8.acceptRanges", "internal/bytealg.MaxLen"], apart := false, laid := [("unicode/utf8.acceptRanges", laid_unicode_utf8_acceptRanges), ("unicode/utf8.first", laid_unicode_utf8_first)], narrowed := true }
def ConvcodeEncodesUptoSaid : Prop := convcodeEncodesUptoRow.holds Tryd.pinned (OpenSpec.upto convcodeEncodesSpec)

/-- 'stelelaw09.ConvcodeDistance', WHERE WHAT IT READS IS OF BULK AT MOST 1048576: true; the input reads as it did. -/
def convcodeDistanceUptoRow : OpenClaim := { program := "ytokjmcndjhdhfaadoor", sum := "21d059d1ea8fb5ef5c6bda3f50657900303305300851b88fce01be4e63b9a6ba", func := "stele/stelelaw09.ConvcodeDistance", spec := "convcodeDistance", inPlace := ["internal/bytealg.IndexByteString", "internal/bytealg.IndexString", "internal/abi.NoEscape", "internal/bytealg.CountString"], unfollowed := true, recurses := true, named := ["unicode/utf8.first", "unicode/utf8.acceptRanges", "internal/bytealg.MaxLen"], apart := false, laid := [("unicode/utf8.acceptRanges", laid_unicode_utf8_acceptRanges), ("unicode/utf8.first", laid_unicode_utf8_first)], narrowed := true }
def ConvcodeDistanceUptoSaid : Prop := convcodeDistanceUptoRow.holds Tryd.pinned (OpenSpec.upto convcodeDistanceSpec)

/-- 'stelelaw09.ConvcodeShift', WHERE WHAT IT READS IS OF BULK AT MOST 1048576: true; the input reads as it did. -/
def convcodeShiftUptoRow : OpenClaim := { program := "ytokjmcndjhdhfaadoor", sum := "21d059d1ea8fb5ef5c6bda3f50657900303305300851b88fce01be4e63b9a6ba", func := "stele/stelelaw09.ConvcodeShift", spec := "convcodeShift", inPlace := ["internal/bytealg.IndexByteString", "internal/bytealg.IndexString", "internal/abi.NoEscape", "internal/bytealg.CountString"], unfollowed := true, recurses := true, named := ["unicode/utf8.first", "unicode/utf8.acceptRanges", "internal/bytealg.MaxLen"], apart := false, laid := [("unicode/utf8.acceptRanges", laid_unicode_utf8_acceptRanges), ("unicode/utf8.first", laid_unicode_utf8_first)], narrowed := true }
def ConvcodeShiftUptoSaid : Prop := convcodeShiftUptoRow.holds Tryd.pinned (OpenSpec.upto convcodeShiftSpec)

end Rows
end Go.Proofs.YtokjmcndjhdhfaaDoor
