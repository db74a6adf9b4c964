/-
  DERIVED. GIVEN WITH THE SEED: THE CARDS: each row of YtnklgppfggkeoaaDoorRows.lean that lists a variable, with what it lists TIED to the program's text (the seventh form; the later family's looks); each row that meets fmt, with fmt's text TOLD by the authors' own Lean function (tested against real Go, not proved from fmt's source: count such statements apart). THE CARD IS WHAT COUNTS. Prove the row's statement (the work); the ties are given (YtnklgppfggkeoaaDoorTie.lean); close each card by the builder's one call (the guide's Derived/Test/ToyasCard.lean, 'card_holds'). Laid BY PROGRAM, IN A SANDBOX (cutbox-door.mjs). By AI agents, Wed Nov 11 2026. No macro, syntax, notation, axiom, sorry.
-/
import Derived.Test.YtnklgppfggkeoaaDoorRows
import GoSem.ClaimSeven
namespace Go.Proofs.YtnklgppfggkeoaaDoor
namespace Rows

/-- THE TIED CARD OF 'stelelaw10.ViterbiResult'. -/
def viterbiResultCard : Claim7 := { stood := { row := viterbiResultRow, standIns := [], harness := (true, "acfb935019ba21a265897558e8d4b6fbee52dfe45c99e93fbbb8664f28e463fd"), looks := false }, kinds := [], alts := [], laidByText := true, laidKinds := [.data, .pinned], laidTests := true, laidLooks := .later }
def ViterbiResultCardSaid : Prop := Claim7.holds Tryd.pinned (.plain (OpenSpec.ofChange viterbiResultSpec)) viterbiResultCard

/-- THE TIED CARD OF 'stelelaw10.ViterbiMonotonicity'. -/
def viterbiMonotonicityCard : Claim7 := { stood := { row := viterbiMonotonicityRow, standIns := [], harness := (true, "acfb935019ba21a265897558e8d4b6fbee52dfe45c99e93fbbb8664f28e463fd"), looks := false }, kinds := [], alts := [], laidByText := true, laidKinds := [.data, .pinned], laidTests := true, laidLooks := .later }
def ViterbiMonotonicityCardSaid : Prop := Claim7.holds Tryd.pinned (.plain (OpenSpec.ofChange viterbiMonotonicitySpec)) viterbiMonotonicityCard

/-- THE TIED CARD OF 'stelelaw10.ViterbiCosts'. -/
def viterbiCostsCard : Claim7 := { stood := { row := viterbiCostsRow, standIns := [], harness := (true, "acfb935019ba21a265897558e8d4b6fbee52dfe45c99e93fbbb8664f28e463fd"), looks := false }, kinds := [], alts := [], laidByText := true, laidKinds := [.data, .pinned], laidTests := true, laidLooks := .later }
def ViterbiCostsCardSaid : Prop := Claim7.holds Tryd.pinned (.plain (OpenSpec.ofChange viterbiCostsSpec)) viterbiCostsCard

/-- THE TIED CARD OF 'stelelaw10.ViterbiTransitions'. -/
def viterbiTransitionsCard : Claim7 := { stood := { row := viterbiTransitionsRow, standIns := [], harness := (true, "acfb935019ba21a265897558e8d4b6fbee52dfe45c99e93fbbb8664f28e463fd"), looks := false }, kinds := [], alts := [], laidByText := true, laidKinds := [.data, .pinned], laidTests := true, laidLooks := .later }
def ViterbiTransitionsCardSaid : Prop := Claim7.holds Tryd.pinned (.plain (OpenSpec.ofChange viterbiTransitionsSpec)) viterbiTransitionsCard

/-- THE TIED CARD OF 'stelelaw10.ViterbiErasures'. -/
def viterbiErasuresCard : Claim7 := { stood := { row := viterbiErasuresRow, standIns := [], harness := (true, "acfb935019ba21a265897558e8d4b6fbee52dfe45c99e93fbbb8664f28e463fd"), looks := false }, kinds := [], alts := [], laidByText := true, laidKinds := [.data, .pinned], laidTests := true, laidLooks := .later }
def ViterbiErasuresCardSaid : Prop := Claim7.holds Tryd.pinned (.plain (OpenSpec.ofChange viterbiErasuresSpec)) viterbiErasuresCard

/-- THE TIED CARD OF 'stelelaw10.ViterbiCorrection'. -/
def viterbiCorrectionCard : Claim7 := { stood := { row := viterbiCorrectionRow, standIns := [], harness := (true, "acfb935019ba21a265897558e8d4b6fbee52dfe45c99e93fbbb8664f28e463fd"), looks := false }, kinds := [], alts := [], laidByText := true, laidKinds := [.data, .pinned], laidTests := true, laidLooks := .later }
def ViterbiCorrectionCardSaid : Prop := Claim7.holds Tryd.pinned (.plain (OpenSpec.ofChange viterbiCorrectionSpec)) viterbiCorrectionCard

/-- THE TIED CARD OF 'stelelaw10.ViterbiOptimality'. -/
def viterbiOptimalityCard : Claim7 := { stood := { row := viterbiOptimalityRow, standIns := [], harness := (true, "acfb935019ba21a265897558e8d4b6fbee52dfe45c99e93fbbb8664f28e463fd"), looks := false }, kinds := [], alts := [], laidByText := true, laidKinds := [.data, .pinned], laidTests := true, laidLooks := .later }
def ViterbiOptimalityCardSaid : Prop := Claim7.holds Tryd.pinned (.plain (OpenSpec.ofChange viterbiOptimalitySpec)) viterbiOptimalityCard

/-- THE TIED CARD OF 'stelelaw10.ViterbiExtract'. -/
def viterbiExtractCard : Claim7 := { stood := { row := viterbiExtractRow, standIns := [], harness := (true, "acfb935019ba21a265897558e8d4b6fbee52dfe45c99e93fbbb8664f28e463fd"), looks := false }, kinds := [], alts := [], laidByText := true, laidKinds := [.data, .pinned], laidTests := true, laidLooks := .later }
def ViterbiExtractCardSaid : Prop := Claim7.holds Tryd.pinned (.plain (OpenSpec.ofChange viterbiExtractSpec)) viterbiExtractCard

/-- THE SECOND FORM's CARD OF 'stelelaw10.ViterbiResult'. -/
def viterbiResultUptoCard : Claim7 := { stood := { row := viterbiResultUptoRow, standIns := [], harness := (true, "acfb935019ba21a265897558e8d4b6fbee52dfe45c99e93fbbb8664f28e463fd"), looks := false }, kinds := [], alts := [], laidByText := true, laidKinds := [.data, .pinned], laidTests := true, laidLooks := .later }
def ViterbiResultUptoCardSaid : Prop := Claim7.holds Tryd.pinned (.plain (OpenSpec.upto viterbiResultSpec)) viterbiResultUptoCard

/-- THE SECOND FORM's CARD OF 'stelelaw10.ViterbiMonotonicity'. -/
def viterbiMonotonicityUptoCard : Claim7 := { stood := { row := viterbiMonotonicityUptoRow, standIns := [], harness := (true, "acfb935019ba21a265897558e8d4b6fbee52dfe45c99e93fbbb8664f28e463fd"), looks := false }, kinds := [], alts := [], laidByText := true, laidKinds := [.data, .pinned], laidTests := true, laidLooks := .later }
def ViterbiMonotonicityUptoCardSaid : Prop := Claim7.holds Tryd.pinned (.plain (OpenSpec.upto viterbiMonotonicitySpec)) viterbiMonotonicityUptoCard

/-- THE SECOND FORM's CARD OF 'stelelaw10.ViterbiCosts'. -/
def viterbiCostsUptoCard : Claim7 := { stood := { row := viterbiCostsUptoRow, standIns := [], harness := (true, "acfb935019ba21a265897558e8d4b6fbee52dfe45c99e93fbbb8664f28e463fd"), looks := false }, kinds := [], alts := [], laidByText := true, laidKinds := [.data, .pinned], laidTests := true, laidLooks := .later }
def ViterbiCostsUptoCardSaid : Prop := Claim7.holds Tryd.pinned (.plain (OpenSpec.upto viterbiCostsSpec)) viterbiCostsUptoCard

/-- THE SECOND FORM's CARD OF 'stelelaw10.ViterbiTransitions'. -/
def viterbiTransitionsUptoCard : Claim7 := { stood := { row := viterbiTransitionsUptoRow, standIns := [], harness := (true, "acfb935019ba21a265897558e8d4b6fbee52dfe45c99e93fbbb8664f28e463fd"), looks := false }, kinds := [], alts := [], laidByText := true, laidKinds := [.data, .pinned], laidTests := true, laidLooks := .later }
def ViterbiTransitionsUptoCardSaid : Prop := Claim7.holds Tryd.pinned (.plain (OpenSpec.upto viterbiTransitionsSpec)) viterbiTransitionsUptoCard

/-- THE SECOND FORM's CARD OF 'stelelaw10.ViterbiErasures'. -/
def viterbiErasuresUptoCard : Claim7 := { stood := { row := viterbiErasuresUptoRow, standIns := [], harness := (true, "acfb935019ba21a265897558e8d4b6fbee52dfe45c99e93fbbb8664f28e463fd"), looks := false }, kinds := [], alts := [], laidByText := true, laidKinds := [.data, .pinned], laidTests := true, laidLooks := .later }
def ViterbiErasuresUptoCardSaid : Prop := Claim7.holds Tryd.pinned (.plain (OpenSpec.upto viterbiErasuresSpec)) viterbiErasuresUptoCard

/-- THE SECOND FORM's CARD OF 'stelelaw10.ViterbiCorrection'. -/
def viterbiCorrectionUptoCard : Claim7 := { stood := { row := viterbiCorrectionUptoRow, standIns := [], harness := (true, "acfb935019ba21a265897558e8d4b6fbee52dfe45c99e93fbbb8664f28e463fd"), looks := false }, kinds := [], alts := [], laidByText := true, laidKinds := [.data, .pinned], laidTests := true, laidLooks := .later }
def ViterbiCorrectionUptoCardSaid : Prop := Claim7.holds Tryd.pinned (.plain (OpenSpec.upto viterbiCorrectionSpec)) viterbiCorrectionUptoCard

/-- THE SECOND FORM's CARD OF 'stelelaw10.ViterbiOptimality'. -/
def viterbiOptimalityUptoCard : Claim7 := { stood := { row := viterbiOptimalityUptoRow, standIns := [], harness := (true, "acfb935019ba21a265897558e8d4b6fbee52dfe45c99e93fbbb8664f28e463fd"), looks := false }, kinds := [], alts := [], laidByText := true, laidKinds := [.data, .pinned], laidTests := true, laidLooks := .later }
def ViterbiOptimalityUptoCardSaid : Prop := Claim7.holds Tryd.pinned (.plain (OpenSpec.upto viterbiOptimalitySpec)) viterbiOptimalityUptoCard

/-- THE SECOND FORM's CARD OF 'stelelaw10.ViterbiExtract'. -/
def viterbiExtractUptoCard : Claim7 := { stood := { row := viterbiExtractUptoRow, standIns := [], harness := (true, "acfb935019ba21a265897558e8d4b6fbee52dfe45c99e93fbbb8664f28e463fd"), looks := false }, kinds := [], alts := [], laidByText := true, laidKinds := [.data, .pinned], laidTests := true, laidLooks := .later }
def ViterbiExtractUptoCardSaid : Prop := Claim7.holds Tryd.pinned (.plain (OpenSpec.upto viterbiExtractSpec)) viterbiExtractUptoCard
end Rows
end Go.Proofs.YtnklgppfggkeoaaDoor
