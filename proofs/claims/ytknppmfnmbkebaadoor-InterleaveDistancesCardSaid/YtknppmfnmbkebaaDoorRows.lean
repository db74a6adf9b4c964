/-
  NARROWER THAN 'FOR EVERY INPUT', by the rows' own cells (each row's printed sentence says how): CellsBytes: laid · CellsDistance: laid · CellsRoundTrip: laid · CellsMetric: laid · CellsLinear: laid · CellsErasure: laid · CellsCheck: laid · CellsInvert: laid · InterleaveDistances: laid.
  DERIVED. THE GIVEN ROWS OF THIS SEAT. 9 by the template 'for every input the law returns true; each argument reads behind the call as it read before'; 0 by the template 'total and deterministic' (their statements: YtknppmfnmbkebaaDoorTotals.lean).
  GIVEN WITH THE SEED: the statements are not yours to turn. If you find one false, say at which input.
  Laid BY PROGRAM, IN A SANDBOX (cutbox-rows.mjs): the forced cells as the released guide's own fill.sh prints them over the translation 495b835c90cd178b… (all of the seat's roots in one cut). By AI agents, Wed Nov 11 2026. No macro, syntax, notation, axiom, sorry.
-/
import Derived.Test.YtknppmfnmbkebaaDoorChecked
import GoSem.PinnedTables
import GoSem.Claim
import GoSem.ClaimJoined
import GoSem.ClaimMapViews
import Derived.JoinedTies
import Derived.KernelRfl
namespace Go.Proofs.YtknppmfnmbkebaaDoor
/- THE CELL 'sum', in the pinned program and in every row, IS THE sha256 OF THE DUMP (.gsa) THAT YtknppmfnmbkebaaDoorProg.lean LOADS. Nothing in Lean hashes anything: it is a label: what it is worth is what the hold of that sum in a sandbox is worth. -/
noncomputable def Tryd.pinned : Pinned := { name := "ytknppmfnmbkebaadoor", sum := "495b835c90cd178bff5a13b510f0f94c45cdec5f2f42091a058d2783cdef501e", checked := Tryd.checked }
namespace Rows
def none {H : Type} : Left H := { results := [], args := [] }

/- WHAT THE LISTED PACKAGE-LEVEL VARIABLES READ AS WHEN THE CALL BEGINS. Each datum BY PROGRAM (the guide's laid-datum.mjs) off the statement by which the dump's own 'gosem.cut.vars' lays the variable. In a bare row this is a premise. The card (YtknppmfnmbkebaaDoorCards.lean) ties it to the program's text. -/
def laid_unicode_utf8_acceptRanges {H : Type} : DataW H := .agg [.agg [.lit (.int .u8 128), .lit (.int .u8 191)], .agg [.lit (.int .u8 160), .lit (.int .u8 191)], .agg [.lit (.int .u8 128), .lit (.int .u8 159)], .agg [.lit (.int .u8 144), .lit (.int .u8 191)], .agg [.lit (.int .u8 128), .lit (.int .u8 143)], .agg [.lit (.int .u8 0), .lit (.int .u8 0)], .agg [.lit (.int .u8 0), .lit (.int .u8 0)], .agg [.lit (.int .u8 0), .lit (.int .u8 0)], .agg [.lit (.int .u8 0), .lit (.int .u8 0)], .agg [.lit (.int .u8 0), .lit (.int .u8 0)], .agg [.lit (.int .u8 0), .lit (.int .u8 0)], .agg [.lit (.int .u8 0), .lit (.int .u8 0)], .agg [.lit (.int .u8 0), .lit (.int .u8 0)], .agg [.lit (.int .u8 0), .lit (.int .u8 0)], .agg [.lit (.int .u8 0), .lit (.int .u8 0)], .agg [.lit (.int .u8 0), .lit (.int .u8 0)]]
/-- One of Go's own tables, pinned by name: the form's constant. -/
def laid_unicode_utf8_first : DataW Unit := Go.Pinned.utf8First

/-- 'stelelaw01.CellsBytes': WHATEVER THE INPUT: true; the input reads as it did. -/
def cellsBytesSpec : ChangeSpec := { name := "cellsBytes", fn := fun _ => fun
  | [d1, d2] => { results := [.lit (.bool true)], args := [d1, d2] }
  | _ => none }
def cellsBytesRow : OpenClaim := { program := "ytknppmfnmbkebaadoor", sum := "495b835c90cd178bff5a13b510f0f94c45cdec5f2f42091a058d2783cdef501e", func := "stele/stelelaw01.CellsBytes", spec := "cellsBytes", inPlace := ["internal/bytealg.IndexByteString", "internal/bytealg.IndexString", "internal/abi.NoEscape"], named := ["unicode/utf8.first", "unicode/utf8.acceptRanges", "internal/bytealg.MaxLen"], apart := false, laid := [("unicode/utf8.acceptRanges", laid_unicode_utf8_acceptRanges), ("unicode/utf8.first", laid_unicode_utf8_first)] }
def CellsBytesSaid : Prop := cellsBytesRow.holds Tryd.pinned (OpenSpec.ofChange cellsBytesSpec)

/-- ITS FALSE NEIGHBOUR: 'it returns false'. Refute it at one input. -/
def cellsBytesWrong : ChangeSpec := { name := "cellsBytes", fn := fun _ => fun
  | [d1, d2] => { results := [.lit (.bool false)], args := [d1, d2] }
  | _ => none }
def CellsBytesWrongFalsely : Prop := cellsBytesRow.holds Tryd.pinned (OpenSpec.ofChange cellsBytesWrong)

/-- 'stelelaw01.CellsDistance': WHATEVER THE INPUT: true; the input reads as it did. -/
def cellsDistanceSpec : ChangeSpec := { name := "cellsDistance", fn := fun _ => fun
  | [d1, d2] => { results := [.lit (.bool true)], args := [d1, d2] }
  | _ => none }
def cellsDistanceRow : OpenClaim := { program := "ytknppmfnmbkebaadoor", sum := "495b835c90cd178bff5a13b510f0f94c45cdec5f2f42091a058d2783cdef501e", func := "stele/stelelaw01.CellsDistance", spec := "cellsDistance", inPlace := ["internal/bytealg.IndexByteString", "internal/bytealg.IndexString", "internal/abi.NoEscape"], named := ["unicode/utf8.first", "unicode/utf8.acceptRanges", "internal/bytealg.MaxLen"], apart := false, laid := [("unicode/utf8.acceptRanges", laid_unicode_utf8_acceptRanges), ("unicode/utf8.first", laid_unicode_utf8_first)] }
def CellsDistanceSaid : Prop := cellsDistanceRow.holds Tryd.pinned (OpenSpec.ofChange cellsDistanceSpec)

/-- ITS FALSE NEIGHBOUR: 'it returns false'. Refute it at one input. -/
def cellsDistanceWrong : ChangeSpec := { name := "cellsDistance", fn := fun _ => fun
  | [d1, d2] => { results := [.lit (.bool false)], args := [d1, d2] }
  | _ => none }
def CellsDistanceWrongFalsely : Prop := cellsDistanceRow.holds Tryd.pinned (OpenSpec.ofChange cellsDistanceWrong)

/-- 'stelelaw01.CellsRoundTrip': WHATEVER THE INPUT: true; the input reads as it did. -/
def cellsRoundTripSpec : ChangeSpec := { name := "cellsRoundTrip", fn := fun _ => fun
  | [d1, d2] => { results := [.lit (.bool true)], args := [d1, d2] }
  | _ => none }
def cellsRoundTripRow : OpenClaim := { program := "ytknppmfnmbkebaadoor", sum := "495b835c90cd178bff5a13b510f0f94c45cdec5f2f42091a058d2783cdef501e", func := "stele/stelelaw01.CellsRoundTrip", spec := "cellsRoundTrip", inPlace := ["internal/bytealg.IndexByteString", "internal/bytealg.IndexString", "internal/abi.NoEscape"], named := ["unicode/utf8.first", "unicode/utf8.acceptRanges", "internal/bytealg.MaxLen"], apart := false, laid := [("unicode/utf8.acceptRanges", laid_unicode_utf8_acceptRanges), ("unicode/utf8.first", laid_unicode_utf8_first)] }
def CellsRoundTripSaid : Prop := cellsRoundTripRow.holds Tryd.pinned (OpenSpec.ofChange cellsRoundTripSpec)

/-- ITS FALSE NEIGHBOUR: 'it returns false'. Refute it at one input. -/
def cellsRoundTripWrong : ChangeSpec := { name := "cellsRoundTrip", fn := fun _ => fun
  | [d1, d2] => { results := [.lit (.bool false)], args := [d1, d2] }
  | _ => none }
def CellsRoundTripWrongFalsely : Prop := cellsRoundTripRow.holds Tryd.pinned (OpenSpec.ofChange cellsRoundTripWrong)

/-- 'stelelaw01.CellsMetric': WHATEVER THE INPUT: true; the input reads as it did. -/
def cellsMetricSpec : ChangeSpec := { name := "cellsMetric", fn := fun _ => fun
  | [d1, d2, d3] => { results := [.lit (.bool true)], args := [d1, d2, d3] }
  | _ => none }
def cellsMetricRow : OpenClaim := { program := "ytknppmfnmbkebaadoor", sum := "495b835c90cd178bff5a13b510f0f94c45cdec5f2f42091a058d2783cdef501e", func := "stele/stelelaw01.CellsMetric", spec := "cellsMetric", inPlace := ["internal/bytealg.IndexByteString", "internal/bytealg.IndexString", "internal/abi.NoEscape"], unfollowed := true, recurses := true, named := ["unicode/utf8.first", "unicode/utf8.acceptRanges", "internal/bytealg.MaxLen"], apart := false, laid := [("unicode/utf8.acceptRanges", laid_unicode_utf8_acceptRanges), ("unicode/utf8.first", laid_unicode_utf8_first)] }
def CellsMetricSaid : Prop := cellsMetricRow.holds Tryd.pinned (OpenSpec.ofChange cellsMetricSpec)

/-- ITS FALSE NEIGHBOUR: 'it returns false'. Refute it at one input. -/
def cellsMetricWrong : ChangeSpec := { name := "cellsMetric", fn := fun _ => fun
  | [d1, d2, d3] => { results := [.lit (.bool false)], args := [d1, d2, d3] }
  | _ => none }
def CellsMetricWrongFalsely : Prop := cellsMetricRow.holds Tryd.pinned (OpenSpec.ofChange cellsMetricWrong)

/-- 'stelelaw01.CellsLinear': WHATEVER THE INPUT: true; the input reads as it did. -/
def cellsLinearSpec : ChangeSpec := { name := "cellsLinear", fn := fun _ => fun
  | [d1, d2] => { results := [.lit (.bool true)], args := [d1, d2] }
  | _ => none }
def cellsLinearRow : OpenClaim := { program := "ytknppmfnmbkebaadoor", sum := "495b835c90cd178bff5a13b510f0f94c45cdec5f2f42091a058d2783cdef501e", func := "stele/stelelaw01.CellsLinear", spec := "cellsLinear", inPlace := ["internal/bytealg.IndexByteString", "internal/bytealg.IndexString", "internal/abi.NoEscape"], named := ["unicode/utf8.first", "unicode/utf8.acceptRanges", "internal/bytealg.MaxLen"], apart := false, laid := [("unicode/utf8.acceptRanges", laid_unicode_utf8_acceptRanges), ("unicode/utf8.first", laid_unicode_utf8_first)] }
def CellsLinearSaid : Prop := cellsLinearRow.holds Tryd.pinned (OpenSpec.ofChange cellsLinearSpec)

/-- ITS FALSE NEIGHBOUR: 'it returns false'. Refute it at one input. -/
def cellsLinearWrong : ChangeSpec := { name := "cellsLinear", fn := fun _ => fun
  | [d1, d2] => { results := [.lit (.bool false)], args := [d1, d2] }
  | _ => none }
def CellsLinearWrongFalsely : Prop := cellsLinearRow.holds Tryd.pinned (OpenSpec.ofChange cellsLinearWrong)

/-- 'stelelaw01.CellsErasure': WHATEVER THE INPUT: true; the input reads as it did. -/
def cellsErasureSpec : ChangeSpec := { name := "cellsErasure", fn := fun _ => fun
  | [d1, d2] => { results := [.lit (.bool true)], args := [d1, d2] }
  | _ => none }
def cellsErasureRow : OpenClaim := { program := "ytknppmfnmbkebaadoor", sum := "495b835c90cd178bff5a13b510f0f94c45cdec5f2f42091a058d2783cdef501e", func := "stele/stelelaw01.CellsErasure", spec := "cellsErasure", inPlace := ["internal/bytealg.IndexByteString", "internal/bytealg.IndexString", "internal/abi.NoEscape", "internal/bytealg.CountString"], named := ["unicode/utf8.first", "unicode/utf8.acceptRanges", "internal/bytealg.MaxLen"], apart := false, laid := [("unicode/utf8.acceptRanges", laid_unicode_utf8_acceptRanges), ("unicode/utf8.first", laid_unicode_utf8_first)] }
def CellsErasureSaid : Prop := cellsErasureRow.holds Tryd.pinned (OpenSpec.ofChange cellsErasureSpec)

/-- ITS FALSE NEIGHBOUR: 'it returns false'. Refute it at one input. -/
def cellsErasureWrong : ChangeSpec := { name := "cellsErasure", fn := fun _ => fun
  | [d1, d2] => { results := [.lit (.bool false)], args := [d1, d2] }
  | _ => none }
def CellsErasureWrongFalsely : Prop := cellsErasureRow.holds Tryd.pinned (OpenSpec.ofChange cellsErasureWrong)

/-- 'stelelaw01.CellsCheck': WHATEVER THE INPUT: true; the input reads as it did. -/
def cellsCheckSpec : ChangeSpec := { name := "cellsCheck", fn := fun _ => fun
  | [d] => { results := [.lit (.bool true)], args := [d] }
  | _ => none }
def cellsCheckRow : OpenClaim := { program := "ytknppmfnmbkebaadoor", sum := "495b835c90cd178bff5a13b510f0f94c45cdec5f2f42091a058d2783cdef501e", func := "stele/stelelaw01.CellsCheck", spec := "cellsCheck", inPlace := ["internal/bytealg.IndexByteString", "internal/bytealg.IndexString", "internal/abi.NoEscape", "internal/bytealg.CountString"], named := ["unicode/utf8.first", "unicode/utf8.acceptRanges", "internal/bytealg.MaxLen"], apart := false, laid := [("unicode/utf8.acceptRanges", laid_unicode_utf8_acceptRanges), ("unicode/utf8.first", laid_unicode_utf8_first)] }
def CellsCheckSaid : Prop := cellsCheckRow.holds Tryd.pinned (OpenSpec.ofChange cellsCheckSpec)

/-- ITS FALSE NEIGHBOUR: 'it returns false'. Refute it at one input. -/
def cellsCheckWrong : ChangeSpec := { name := "cellsCheck", fn := fun _ => fun
  | [d] => { results := [.lit (.bool false)], args := [d] }
  | _ => none }
def CellsCheckWrongFalsely : Prop := cellsCheckRow.holds Tryd.pinned (OpenSpec.ofChange cellsCheckWrong)

/-- 'stelelaw01.CellsInvert': WHATEVER THE INPUT: true; the input reads as it did. -/
def cellsInvertSpec : ChangeSpec := { name := "cellsInvert", fn := fun _ => fun
  | [d] => { results := [.lit (.bool true)], args := [d] }
  | _ => none }
def cellsInvertRow : OpenClaim := { program := "ytknppmfnmbkebaadoor", sum := "495b835c90cd178bff5a13b510f0f94c45cdec5f2f42091a058d2783cdef501e", func := "stele/stelelaw01.CellsInvert", spec := "cellsInvert", inPlace := ["internal/bytealg.IndexByteString", "internal/bytealg.IndexString", "internal/abi.NoEscape", "internal/bytealg.CountString"], named := ["unicode/utf8.first", "unicode/utf8.acceptRanges", "internal/bytealg.MaxLen"], apart := false, laid := [("unicode/utf8.acceptRanges", laid_unicode_utf8_acceptRanges), ("unicode/utf8.first", laid_unicode_utf8_first)] }
def CellsInvertSaid : Prop := cellsInvertRow.holds Tryd.pinned (OpenSpec.ofChange cellsInvertSpec)

/-- ITS FALSE NEIGHBOUR: 'it returns false'. Refute it at one input. -/
def cellsInvertWrong : ChangeSpec := { name := "cellsInvert", fn := fun _ => fun
  | [d] => { results := [.lit (.bool false)], args := [d] }
  | _ => none }
def CellsInvertWrongFalsely : Prop := cellsInvertRow.holds Tryd.pinned (OpenSpec.ofChange cellsInvertWrong)

/-- 'stelelaw11.InterleaveDistances': WHATEVER THE INPUT: true; the input reads as it did. -/
def interleaveDistancesSpec : ChangeSpec := { name := "interleaveDistances", fn := fun _ => fun
  | [d1, d2, d3] => { results := [.lit (.bool true)], args := [d1, d2, d3] }
  | _ => none }
def interleaveDistancesRow : OpenClaim := { program := "ytknppmfnmbkebaadoor", sum := "495b835c90cd178bff5a13b510f0f94c45cdec5f2f42091a058d2783cdef501e", func := "stele/stelelaw11.InterleaveDistances", spec := "interleaveDistances", inPlace := ["internal/bytealg.IndexByteString", "internal/bytealg.IndexString", "internal/bytealg.CountString"], unfollowed := true, recurses := true, named := ["unicode/utf8.first", "unicode/utf8.acceptRanges", "internal/bytealg.MaxLen"], apart := false, laid := [("unicode/utf8.acceptRanges", laid_unicode_utf8_acceptRanges), ("unicode/utf8.first", laid_unicode_utf8_first)] }
def InterleaveDistancesSaid : Prop := interleaveDistancesRow.holds Tryd.pinned (OpenSpec.ofChange interleaveDistancesSpec)

/-- ITS FALSE NEIGHBOUR: 'it returns false'. Refute it at one input. -/
def interleaveDistancesWrong : ChangeSpec := { name := "interleaveDistances", fn := fun _ => fun
  | [d1, d2, d3] => { results := [.lit (.bool false)], args := [d1, d2, d3] }
  | _ => none }
def InterleaveDistancesWrongFalsely : Prop := interleaveDistancesRow.holds Tryd.pinned (OpenSpec.ofChange interleaveDistancesWrong)

/- THE SECOND FORM. 'bulk': how many values and letters a reading holds, each counted each time it is reached (what is shared counts as often as it is met; a slice's spare places count too). A statement '..UptoSaid' is the law's where the arguments, and the package variables that the reading takes, are together of bulk at most 1048576: NARROWER than '..Said'. Prove '..Said' where nothing that the law and all that it calls make is longer than what came in: it says more and counts as full. Else prove '..UptoSaid'. A law counts once. -/
mutual
def uptoBulk {H : Type} : DataW H → Nat
  | .lit (.string bytes) => bytes.length + 1
  | .lit _ => 1
  | .nil => 1
  | .ptr d => uptoBulk d + 1
  | .slice elems spare => uptoBulkAll elems + uptoBulkAll spare + 1
  | .agg parts => uptoBulkAll parts + 1
  | .iface _ d => uptoBulk d + 1
  | .map entries => uptoBulkEntries entries + 1
  | .held _ => 1
def uptoBulkAll {H : Type} : List (DataW H) → Nat
  | [] => 0
  | d :: r => uptoBulk d + uptoBulkAll r
def uptoBulkEntries {H : Type} : List (Lit × DataW H) → Nat
  | [] => 0
  | x :: r => uptoBulkEntry x + uptoBulkEntries r
def uptoBulkEntry {H : Type} : Lit × DataW H → Nat
  | (.string bytes, d) => bytes.length + uptoBulk d + 1
  | (_, d) => uptoBulk d + 1
 end
def uptoSmall : (H : Type) → List (DataW H) → Bool := fun _ ds => decide (uptoBulkAll ds ≤ 1048576)
def OpenSpec.upto (s : _root_.Go.ChangeSpec) : _root_.Go.OpenSpec := { _root_.Go.OpenSpec.ofChange s with cond := some uptoSmall }

/-- 'stelelaw01.CellsBytes', WHERE WHAT IT READS IS OF BULK AT MOST 1048576: true; the input reads as it did. -/
def cellsBytesUptoRow : OpenClaim := { program := "ytknppmfnmbkebaadoor", sum := "495b835c90cd178bff5a13b510f0f94c45cdec5f2f42091a058d2783cdef501e", func := "stele/stelelaw01.CellsBytes", spec := "cellsBytes", inPlace := ["internal/bytealg.IndexByteString", "internal/bytealg.IndexString", "internal/abi.NoEscape"], named := ["unicode/utf8.first", "unicode/utf8.acceptRanges", "internal/bytealg.MaxLen"], apart := false, laid := [("unicode/utf8.acceptRanges", laid_unicode_utf8_acceptRanges), ("unicode/utf8.first", laid_unicode_utf8_first)], narrowed := true }
def CellsBytesUptoSaid : Prop := cellsBytesUptoRow.holds Tryd.pinned (OpenSpec.upto cellsBytesSpec)

/-- 'stelelaw01.CellsDistance', WHERE WHAT IT READS IS OF BULK AT MOST 1048576: true; the input reads as it did. -/
def cellsDistanceUptoRow : OpenClaim := { program := "ytknppmfnmbkebaadoor", sum := "495b835c90cd178bff5a13b510f0f94c45cdec5f2f42091a058d2783cdef501e", func := "stele/stelelaw01.CellsDistance", spec := "cellsDistance", inPlace := ["internal/bytealg.IndexByteString", "internal/bytealg.IndexString", "internal/abi.NoEscape"], named := ["unicode/utf8.first", "unicode/utf8.acceptRanges", "internal/bytealg.MaxLen"], apart := false, laid := [("unicode/utf8.acceptRanges", laid_unicode_utf8_acceptRanges), ("unicode/utf8.first", laid_unicode_utf8_first)], narrowed := true }
def CellsDistanceUptoSaid : Prop := cellsDistanceUptoRow.holds Tryd.pinned (OpenSpec.upto cellsDistanceSpec)

/-- 'stelelaw01.CellsRoundTrip', WHERE WHAT IT READS IS OF BULK AT MOST 1048576: true; the input reads as it did. -/
def cellsRoundTripUptoRow : OpenClaim := { program := "ytknppmfnmbkebaadoor", sum := "495b835c90cd178bff5a13b510f0f94c45cdec5f2f42091a058d2783cdef501e", func := "stele/stelelaw01.CellsRoundTrip", spec := "cellsRoundTrip", inPlace := ["internal/bytealg.IndexByteString", "internal/bytealg.IndexString", "internal/abi.NoEscape"], named := ["unicode/utf8.first", "unicode/utf8.acceptRanges", "internal/bytealg.MaxLen"], apart := false, laid := [("unicode/utf8.acceptRanges", laid_unicode_utf8_acceptRanges), ("unicode/utf8.first", laid_unicode_utf8_first)], narrowed := true }
def CellsRoundTripUptoSaid : Prop := cellsRoundTripUptoRow.holds Tryd.pinned (OpenSpec.upto cellsRoundTripSpec)

/-- 'stelelaw01.CellsMetric', WHERE WHAT IT READS IS OF BULK AT MOST 1048576: true; the input reads as it did. -/
def cellsMetricUptoRow : OpenClaim := { program := "ytknppmfnmbkebaadoor", sum := "495b835c90cd178bff5a13b510f0f94c45cdec5f2f42091a058d2783cdef501e", func := "stele/stelelaw01.CellsMetric", spec := "cellsMetric", inPlace := ["internal/bytealg.IndexByteString", "internal/bytealg.IndexString", "internal/abi.NoEscape"], unfollowed := true, recurses := true, named := ["unicode/utf8.first", "unicode/utf8.acceptRanges", "internal/bytealg.MaxLen"], apart := false, laid := [("unicode/utf8.acceptRanges", laid_unicode_utf8_acceptRanges), ("unicode/utf8.first", laid_unicode_utf8_first)], narrowed := true }
def CellsMetricUptoSaid : Prop := cellsMetricUptoRow.holds Tryd.pinned (OpenSpec.upto cellsMetricSpec)

/-- 'stelelaw01.CellsLinear', WHERE WHAT IT READS IS OF BULK AT MOST 1048576: true; the input reads as it did. -/
def cellsLinearUptoRow : OpenClaim := { program := "ytknppmfnmbkebaadoor", sum := "495b835c90cd178bff5a13b510f0f94c45cdec5f2f42091a058d2783cdef501e", func := "stele/stelelaw01.CellsLinear", spec := "cellsLinear", inPlace := ["internal/bytealg.IndexByteString", "internal/bytealg.IndexString", "internal/abi.NoEscape"], named := ["unicode/utf8.first", "unicode/utf8.acceptRanges", "internal/bytealg.MaxLen"], apart := false, laid := [("unicode/utf8.acceptRanges", laid_unicode_utf8_acceptRanges), ("unicode/utf8.first", laid_unicode_utf8_first)], narrowed := true }
def CellsLinearUptoSaid : Prop := cellsLinearUptoRow.holds Tryd.pinned (OpenSpec.upto cellsLinearSpec)

/-- 'stelelaw01.CellsErasure', WHERE WHAT IT READS IS OF BULK AT MOST 1048576: true; the input reads as it did. -/
def cellsErasureUptoRow : OpenClaim := { program := "ytknppmfnmbkebaadoor", sum := "495b835c90cd178bff5a13b510f0f94c45cdec5f2f42091a058d2783cdef501e", func := "stele/stelelaw01.CellsErasure", spec := "cellsErasure", inPlace := ["internal/bytealg.IndexByteString", "internal/bytealg.IndexString", "internal/abi.NoEscape", "internal/bytealg.CountString"], named := ["unicode/utf8.first", "unicode/utf8.acceptRanges", "internal/bytealg.MaxLen"], apart := false, laid := [("unicode/utf8.acceptRanges", laid_unicode_utf8_acceptRanges), ("unicode/utf8.first", laid_unicode_utf8_first)], narrowed := true }
def CellsErasureUptoSaid : Prop := cellsErasureUptoRow.holds Tryd.pinned (OpenSpec.upto cellsErasureSpec)

/-- 'stelelaw01.CellsCheck', WHERE WHAT IT READS IS OF BULK AT MOST 1048576: true; the input reads as it did. -/
def cellsCheckUptoRow : OpenClaim := { program := "ytknppmfnmbkebaadoor", sum := "495b835c90cd178bff5a13b510f0f94c45cdec5f2f42091a058d2783cdef501e", func := "stele/stelelaw01.CellsCheck", spec := "cellsCheck", inPlace := ["internal/bytealg.IndexByteString", "internal/bytealg.IndexString", "internal/abi.NoEscape", "internal/bytealg.CountString"], named := ["unicode/utf8.first", "unicode/utf8.acceptRanges", "internal/bytealg.MaxLen"], apart := false, laid := [("unicode/utf8.acceptRanges", laid_unicode_utf8_acceptRanges), ("unicode/utf8.first", laid_unicode_utf8_first)], narrowed := true }
def CellsCheckUptoSaid : Prop := cellsCheckUptoRow.holds Tryd.pinned (OpenSpec.upto cellsCheckSpec)

/-- 'stelelaw01.CellsInvert', WHERE WHAT IT READS IS OF BULK AT MOST 1048576: true; the input reads as it did. -/
def cellsInvertUptoRow : OpenClaim := { program := "ytknppmfnmbkebaadoor", sum := "495b835c90cd178bff5a13b510f0f94c45cdec5f2f42091a058d2783cdef501e", func := "stele/stelelaw01.CellsInvert", spec := "cellsInvert", inPlace := ["internal/bytealg.IndexByteString", "internal/bytealg.IndexString", "internal/abi.NoEscape", "internal/bytealg.CountString"], named := ["unicode/utf8.first", "unicode/utf8.acceptRanges", "internal/bytealg.MaxLen"], apart := false, laid := [("unicode/utf8.acceptRanges", laid_unicode_utf8_acceptRanges), ("unicode/utf8.first", laid_unicode_utf8_first)], narrowed := true }
def CellsInvertUptoSaid : Prop := cellsInvertUptoRow.holds Tryd.pinned (OpenSpec.upto cellsInvertSpec)

/-- 'stelelaw11.InterleaveDistances', WHERE WHAT IT READS IS OF BULK AT MOST 1048576: true; the input reads as it did. -/
def interleaveDistancesUptoRow : OpenClaim := { program := "ytknppmfnmbkebaadoor", sum := "495b835c90cd178bff5a13b510f0f94c45cdec5f2f42091a058d2783cdef501e", func := "stele/stelelaw11.InterleaveDistances", spec := "interleaveDistances", inPlace := ["internal/bytealg.IndexByteString", "internal/bytealg.IndexString", "internal/bytealg.CountString"], unfollowed := true, recurses := true, named := ["unicode/utf8.first", "unicode/utf8.acceptRanges", "internal/bytealg.MaxLen"], apart := false, laid := [("unicode/utf8.acceptRanges", laid_unicode_utf8_acceptRanges), ("unicode/utf8.first", laid_unicode_utf8_first)], narrowed := true }
def InterleaveDistancesUptoSaid : Prop := interleaveDistancesUptoRow.holds Tryd.pinned (OpenSpec.upto interleaveDistancesSpec)

end Rows
end Go.Proofs.YtknppmfnmbkebaaDoor
