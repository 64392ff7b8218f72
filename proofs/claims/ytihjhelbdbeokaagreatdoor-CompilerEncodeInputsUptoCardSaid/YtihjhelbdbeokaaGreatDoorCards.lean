/-
  DERIVED. GIVEN WITH THE SEED: THE CARDS: each row of YtihjhelbdbeokaaGreatDoorRows.lean that lists a variable, with what it lists TIED to the program's text (the seventh form; the later family's looks); each row that meets fmt, with fmt's text TOLD by the authors' own Lean function (tested against real Go, not proved from fmt's source: count such statements apart). THE CARD IS WHAT COUNTS. Prove the row's statement (the work); the ties are given (YtihjhelbdbeokaaGreatDoorTie.lean); close each card by the builder's one call (the guide's Derived/Test/ToyasCard.lean, 'card_holds'). Laid BY PROGRAM, IN A SANDBOX (cutbox-door.mjs). By AI agents, Wed Nov 11 2026. No macro, syntax, notation, axiom, sorry.
-/
import Derived.Test.YtihjhelbdbeokaaGreatDoorRows
import GoSem.ClaimSeven
namespace Go.Proofs.YtihjhelbdbeokaaGreatDoor
namespace Rows

/-- THE TIED CARD OF 'privitylaw35.CompilerCorrect'. -/
def compilerCorrectCard : Claim7 := { stood := { row := compilerCorrectRow, standIns := [], harness := (true, "f567eb8e29d987a03544d27170fcf5704c3fcac404f65729cf36a59f38584dcd"), looks := true }, kinds := [], alts := [], laidByText := true, laidKinds := [.data, .data], laidTests := true, laidLooks := .later }
def CompilerCorrectCardSaid : Prop := Claim7.holds Tryz.pinned (.plain (OpenSpec.ofChange compilerCorrectSpec)) compilerCorrectCard

/-- THE TIED CARD OF 'privitylaw35.CompilerErrors'. -/
def compilerErrorsCard : Claim7 := { stood := { row := compilerErrorsRow, standIns := [], harness := (true, "f567eb8e29d987a03544d27170fcf5704c3fcac404f65729cf36a59f38584dcd"), looks := true }, kinds := [], alts := [], laidByText := true, laidKinds := [.data, .data], laidTests := true, laidLooks := .later }
def CompilerErrorsCardSaid : Prop := Claim7.holds Tryz.pinned (.plain (OpenSpec.ofChange compilerErrorsSpec)) compilerErrorsCard

/-- THE TIED CARD OF 'privitylaw35.CompilerEncodeInputs'. -/
def compilerEncodeInputsCard : Claim7 := { stood := { row := compilerEncodeInputsRow, standIns := [], harness := (true, "f567eb8e29d987a03544d27170fcf5704c3fcac404f65729cf36a59f38584dcd"), looks := true }, kinds := [], alts := [], laidByText := true, laidKinds := [.data, .data], laidTests := true, laidLooks := .later }
def CompilerEncodeInputsCardSaid : Prop := Claim7.holds Tryz.pinned (.plain (OpenSpec.ofChange compilerEncodeInputsSpec)) compilerEncodeInputsCard

/-- THE TIED CARD OF 'privitylaw35.CompilerInputs'. -/
def compilerInputsCard : Claim7 := { stood := { row := compilerInputsRow, standIns := [], harness := (true, "f567eb8e29d987a03544d27170fcf5704c3fcac404f65729cf36a59f38584dcd"), looks := true }, kinds := [], alts := [], laidByText := true, laidKinds := [.data, .data], laidTests := true, laidLooks := .later }
def CompilerInputsCardSaid : Prop := Claim7.holds Tryz.pinned (.plain (OpenSpec.ofChange compilerInputsSpec)) compilerInputsCard

/-- THE TIED CARD OF 'privitylaw35.CompilerFields'. -/
def compilerFieldsCard : Claim7 := { stood := { row := compilerFieldsRow, standIns := [], harness := (true, "f567eb8e29d987a03544d27170fcf5704c3fcac404f65729cf36a59f38584dcd"), looks := true }, kinds := [], alts := [], laidByText := true, laidKinds := [.data, .data], laidTests := true, laidLooks := .later }
def CompilerFieldsCardSaid : Prop := Claim7.holds Tryz.pinned (.plain (OpenSpec.ofChange compilerFieldsSpec)) compilerFieldsCard

/-- THE TIED CARD OF 'privitylaw35.CompilerBranches'. -/
def compilerBranchesCard : Claim7 := { stood := { row := compilerBranchesRow, standIns := [], harness := (true, "f567eb8e29d987a03544d27170fcf5704c3fcac404f65729cf36a59f38584dcd"), looks := true }, kinds := [], alts := [], laidByText := true, laidKinds := [.data, .data], laidTests := true, laidLooks := .later }
def CompilerBranchesCardSaid : Prop := Claim7.holds Tryz.pinned (.plain (OpenSpec.ofChange compilerBranchesSpec)) compilerBranchesCard

/-- THE TIED CARD OF 'privitylaw35.CompilerUnusedVariable'. -/
def compilerUnusedVariableCard : Claim7 := { stood := { row := compilerUnusedVariableRow, standIns := [], harness := (true, "f567eb8e29d987a03544d27170fcf5704c3fcac404f65729cf36a59f38584dcd"), looks := true }, kinds := [], alts := [], laidByText := true, laidKinds := [.data, .data], laidTests := true, laidLooks := .later }
def CompilerUnusedVariableCardSaid : Prop := Claim7.holds Tryz.pinned (.plain (OpenSpec.ofChange compilerUnusedVariableSpec)) compilerUnusedVariableCard

/-- THE SECOND FORM's CARD OF 'privitylaw35.CompilerCorrect'. -/
def compilerCorrectUptoCard : Claim7 := { stood := { row := compilerCorrectUptoRow, standIns := [], harness := (true, "f567eb8e29d987a03544d27170fcf5704c3fcac404f65729cf36a59f38584dcd"), looks := true }, kinds := [], alts := [], laidByText := true, laidKinds := [.data, .data], laidTests := true, laidLooks := .later }
def CompilerCorrectUptoCardSaid : Prop := Claim7.holds Tryz.pinned (.plain (OpenSpec.upto compilerCorrectSpec)) compilerCorrectUptoCard

/-- THE SECOND FORM's CARD OF 'privitylaw35.CompilerErrors'. -/
def compilerErrorsUptoCard : Claim7 := { stood := { row := compilerErrorsUptoRow, standIns := [], harness := (true, "f567eb8e29d987a03544d27170fcf5704c3fcac404f65729cf36a59f38584dcd"), looks := true }, kinds := [], alts := [], laidByText := true, laidKinds := [.data, .data], laidTests := true, laidLooks := .later }
def CompilerErrorsUptoCardSaid : Prop := Claim7.holds Tryz.pinned (.plain (OpenSpec.upto compilerErrorsSpec)) compilerErrorsUptoCard

/-- THE SECOND FORM's CARD OF 'privitylaw35.CompilerEncodeInputs'. -/
def compilerEncodeInputsUptoCard : Claim7 := { stood := { row := compilerEncodeInputsUptoRow, standIns := [], harness := (true, "f567eb8e29d987a03544d27170fcf5704c3fcac404f65729cf36a59f38584dcd"), looks := true }, kinds := [], alts := [], laidByText := true, laidKinds := [.data, .data], laidTests := true, laidLooks := .later }
def CompilerEncodeInputsUptoCardSaid : Prop := Claim7.holds Tryz.pinned (.plain (OpenSpec.upto compilerEncodeInputsSpec)) compilerEncodeInputsUptoCard

/-- THE SECOND FORM's CARD OF 'privitylaw35.CompilerInputs'. -/
def compilerInputsUptoCard : Claim7 := { stood := { row := compilerInputsUptoRow, standIns := [], harness := (true, "f567eb8e29d987a03544d27170fcf5704c3fcac404f65729cf36a59f38584dcd"), looks := true }, kinds := [], alts := [], laidByText := true, laidKinds := [.data, .data], laidTests := true, laidLooks := .later }
def CompilerInputsUptoCardSaid : Prop := Claim7.holds Tryz.pinned (.plain (OpenSpec.upto compilerInputsSpec)) compilerInputsUptoCard

/-- THE SECOND FORM's CARD OF 'privitylaw35.CompilerFields'. -/
def compilerFieldsUptoCard : Claim7 := { stood := { row := compilerFieldsUptoRow, standIns := [], harness := (true, "f567eb8e29d987a03544d27170fcf5704c3fcac404f65729cf36a59f38584dcd"), looks := true }, kinds := [], alts := [], laidByText := true, laidKinds := [.data, .data], laidTests := true, laidLooks := .later }
def CompilerFieldsUptoCardSaid : Prop := Claim7.holds Tryz.pinned (.plain (OpenSpec.upto compilerFieldsSpec)) compilerFieldsUptoCard

/-- THE SECOND FORM's CARD OF 'privitylaw35.CompilerBranches'. -/
def compilerBranchesUptoCard : Claim7 := { stood := { row := compilerBranchesUptoRow, standIns := [], harness := (true, "f567eb8e29d987a03544d27170fcf5704c3fcac404f65729cf36a59f38584dcd"), looks := true }, kinds := [], alts := [], laidByText := true, laidKinds := [.data, .data], laidTests := true, laidLooks := .later }
def CompilerBranchesUptoCardSaid : Prop := Claim7.holds Tryz.pinned (.plain (OpenSpec.upto compilerBranchesSpec)) compilerBranchesUptoCard

/-- THE SECOND FORM's CARD OF 'privitylaw35.CompilerUnusedVariable'. -/
def compilerUnusedVariableUptoCard : Claim7 := { stood := { row := compilerUnusedVariableUptoRow, standIns := [], harness := (true, "f567eb8e29d987a03544d27170fcf5704c3fcac404f65729cf36a59f38584dcd"), looks := true }, kinds := [], alts := [], laidByText := true, laidKinds := [.data, .data], laidTests := true, laidLooks := .later }
def CompilerUnusedVariableUptoCardSaid : Prop := Claim7.holds Tryz.pinned (.plain (OpenSpec.upto compilerUnusedVariableSpec)) compilerUnusedVariableUptoCard
end Rows
end Go.Proofs.YtihjhelbdbeokaaGreatDoor
