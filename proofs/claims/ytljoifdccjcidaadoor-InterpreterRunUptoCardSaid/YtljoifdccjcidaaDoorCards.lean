/-
  DERIVED. GIVEN WITH THE SEED: THE CARDS: each row of YtljoifdccjcidaaDoorRows.lean that lists a variable, with what it lists TIED to the program's text (the seventh form; the later family's looks); each row that meets fmt, with fmt's text TOLD by the authors' own Lean function (tested against real Go, not proved from fmt's source: count such statements apart). THE CARD IS WHAT COUNTS. Prove the row's statement (the work); the ties are given (YtljoifdccjcidaaDoorTie.lean); close each card by the builder's one call (the guide's Derived/Test/ToyasCard.lean, 'card_holds'). Laid BY PROGRAM, IN A SANDBOX (cutbox-door.mjs). By AI agents, Wed Nov 11 2026. No macro, syntax, notation, axiom, sorry.
-/
import Derived.Test.YtljoifdccjcidaaDoorRows
import GoSem.ClaimSeven
namespace Go.Proofs.YtljoifdccjcidaaDoor
namespace Rows

/-- THE TIED CARD OF 'privitylaw30.InterpreterRun'. -/
def interpreterRunCard : Claim7 := { stood := { row := interpreterRunRow, standIns := [], harness := (true, "2ed350714b4e6a85bf588b79fe8c7914867780708493e576d8ad3ef88ee7cc1f"), looks := true }, kinds := [], alts := [], laidByText := true, laidKinds := [.data], laidTests := true, laidLooks := .later }
def InterpreterRunCardSaid : Prop := Claim7.holds Tryd.pinned (.plain (OpenSpec.ofChange interpreterRunSpec)) interpreterRunCard

/-- THE TIED CARD OF 'privitylaw30.InterpreterOperators'. -/
def interpreterOperatorsCard : Claim7 := { stood := { row := interpreterOperatorsRow, standIns := [], harness := (true, "2ed350714b4e6a85bf588b79fe8c7914867780708493e576d8ad3ef88ee7cc1f"), looks := true }, kinds := [], alts := [], laidByText := true, laidKinds := [.data], laidTests := true, laidLooks := .later }
def InterpreterOperatorsCardSaid : Prop := Claim7.holds Tryd.pinned (.plain (OpenSpec.ofChange interpreterOperatorsSpec)) interpreterOperatorsCard

/-- THE TIED CARD OF 'privitylaw30.InterpreterAppend'. -/
def interpreterAppendCard : Claim7 := { stood := { row := interpreterAppendRow, standIns := [], harness := (true, "2ed350714b4e6a85bf588b79fe8c7914867780708493e576d8ad3ef88ee7cc1f"), looks := true }, kinds := [], alts := [], laidByText := true, laidKinds := [.data], laidTests := true, laidLooks := .later }
def InterpreterAppendCardSaid : Prop := Claim7.holds Tryd.pinned (.plain (OpenSpec.ofChange interpreterAppendSpec)) interpreterAppendCard

/-- THE TIED CARD OF 'privitylaw30.InterpreterUnusedInput'. -/
def interpreterUnusedInputCard : Claim7 := { stood := { row := interpreterUnusedInputRow, standIns := [], harness := (true, "2ed350714b4e6a85bf588b79fe8c7914867780708493e576d8ad3ef88ee7cc1f"), looks := true }, kinds := [], alts := [], laidByText := true, laidKinds := [.data], laidTests := true, laidLooks := .later }
def InterpreterUnusedInputCardSaid : Prop := Claim7.holds Tryd.pinned (.plain (OpenSpec.ofChange interpreterUnusedInputSpec)) interpreterUnusedInputCard

/-- THE TIED CARD OF 'privitylaw30.InterpreterLoop'. -/
def interpreterLoopCard : Claim7 := { stood := { row := interpreterLoopRow, standIns := [], harness := (true, "2ed350714b4e6a85bf588b79fe8c7914867780708493e576d8ad3ef88ee7cc1f"), looks := true }, kinds := [], alts := [], laidByText := true, laidKinds := [.data], laidTests := true, laidLooks := .later }
def InterpreterLoopCardSaid : Prop := Claim7.holds Tryd.pinned (.plain (OpenSpec.ofChange interpreterLoopSpec)) interpreterLoopCard

/-- THE TIED CARD OF 'privitylaw30.InterpreterConditional'. -/
def interpreterConditionalCard : Claim7 := { stood := { row := interpreterConditionalRow, standIns := [], harness := (true, "2ed350714b4e6a85bf588b79fe8c7914867780708493e576d8ad3ef88ee7cc1f"), looks := true }, kinds := [], alts := [], laidByText := true, laidKinds := [.data], laidTests := true, laidLooks := .later }
def InterpreterConditionalCardSaid : Prop := Claim7.holds Tryd.pinned (.plain (OpenSpec.ofChange interpreterConditionalSpec)) interpreterConditionalCard

/-- THE TIED CARD OF 'privitylaw30.InterpreterArithmeticLaws'. -/
def interpreterArithmeticLawsCard : Claim7 := { stood := { row := interpreterArithmeticLawsRow, standIns := [], harness := (true, "2ed350714b4e6a85bf588b79fe8c7914867780708493e576d8ad3ef88ee7cc1f"), looks := true }, kinds := [], alts := [], laidByText := true, laidKinds := [.data], laidTests := true, laidLooks := .later }
def InterpreterArithmeticLawsCardSaid : Prop := Claim7.holds Tryd.pinned (.plain (OpenSpec.ofChange interpreterArithmeticLawsSpec)) interpreterArithmeticLawsCard

/-- THE TIED CARD OF 'privitylaw30.InterpreterTerminates'. -/
def interpreterTerminatesCard : Claim7 := { stood := { row := interpreterTerminatesRow, standIns := [], harness := (true, "2ed350714b4e6a85bf588b79fe8c7914867780708493e576d8ad3ef88ee7cc1f"), looks := true }, kinds := [], alts := [], laidByText := true, laidKinds := [.data], laidTests := true, laidLooks := .later }
def InterpreterTerminatesCardSaid : Prop := Claim7.holds Tryd.pinned (.plain (OpenSpec.ofChange interpreterTerminatesSpec)) interpreterTerminatesCard

/-- THE SECOND FORM's CARD OF 'privitylaw30.InterpreterRun'. -/
def interpreterRunUptoCard : Claim7 := { stood := { row := interpreterRunUptoRow, standIns := [], harness := (true, "2ed350714b4e6a85bf588b79fe8c7914867780708493e576d8ad3ef88ee7cc1f"), looks := true }, kinds := [], alts := [], laidByText := true, laidKinds := [.data], laidTests := true, laidLooks := .later }
def InterpreterRunUptoCardSaid : Prop := Claim7.holds Tryd.pinned (.plain (OpenSpec.upto interpreterRunSpec)) interpreterRunUptoCard

/-- THE SECOND FORM's CARD OF 'privitylaw30.InterpreterOperators'. -/
def interpreterOperatorsUptoCard : Claim7 := { stood := { row := interpreterOperatorsUptoRow, standIns := [], harness := (true, "2ed350714b4e6a85bf588b79fe8c7914867780708493e576d8ad3ef88ee7cc1f"), looks := true }, kinds := [], alts := [], laidByText := true, laidKinds := [.data], laidTests := true, laidLooks := .later }
def InterpreterOperatorsUptoCardSaid : Prop := Claim7.holds Tryd.pinned (.plain (OpenSpec.upto interpreterOperatorsSpec)) interpreterOperatorsUptoCard

/-- THE SECOND FORM's CARD OF 'privitylaw30.InterpreterAppend'. -/
def interpreterAppendUptoCard : Claim7 := { stood := { row := interpreterAppendUptoRow, standIns := [], harness := (true, "2ed350714b4e6a85bf588b79fe8c7914867780708493e576d8ad3ef88ee7cc1f"), looks := true }, kinds := [], alts := [], laidByText := true, laidKinds := [.data], laidTests := true, laidLooks := .later }
def InterpreterAppendUptoCardSaid : Prop := Claim7.holds Tryd.pinned (.plain (OpenSpec.upto interpreterAppendSpec)) interpreterAppendUptoCard

/-- THE SECOND FORM's CARD OF 'privitylaw30.InterpreterUnusedInput'. -/
def interpreterUnusedInputUptoCard : Claim7 := { stood := { row := interpreterUnusedInputUptoRow, standIns := [], harness := (true, "2ed350714b4e6a85bf588b79fe8c7914867780708493e576d8ad3ef88ee7cc1f"), looks := true }, kinds := [], alts := [], laidByText := true, laidKinds := [.data], laidTests := true, laidLooks := .later }
def InterpreterUnusedInputUptoCardSaid : Prop := Claim7.holds Tryd.pinned (.plain (OpenSpec.upto interpreterUnusedInputSpec)) interpreterUnusedInputUptoCard

/-- THE SECOND FORM's CARD OF 'privitylaw30.InterpreterLoop'. -/
def interpreterLoopUptoCard : Claim7 := { stood := { row := interpreterLoopUptoRow, standIns := [], harness := (true, "2ed350714b4e6a85bf588b79fe8c7914867780708493e576d8ad3ef88ee7cc1f"), looks := true }, kinds := [], alts := [], laidByText := true, laidKinds := [.data], laidTests := true, laidLooks := .later }
def InterpreterLoopUptoCardSaid : Prop := Claim7.holds Tryd.pinned (.plain (OpenSpec.upto interpreterLoopSpec)) interpreterLoopUptoCard

/-- THE SECOND FORM's CARD OF 'privitylaw30.InterpreterConditional'. -/
def interpreterConditionalUptoCard : Claim7 := { stood := { row := interpreterConditionalUptoRow, standIns := [], harness := (true, "2ed350714b4e6a85bf588b79fe8c7914867780708493e576d8ad3ef88ee7cc1f"), looks := true }, kinds := [], alts := [], laidByText := true, laidKinds := [.data], laidTests := true, laidLooks := .later }
def InterpreterConditionalUptoCardSaid : Prop := Claim7.holds Tryd.pinned (.plain (OpenSpec.upto interpreterConditionalSpec)) interpreterConditionalUptoCard

/-- THE SECOND FORM's CARD OF 'privitylaw30.InterpreterArithmeticLaws'. -/
def interpreterArithmeticLawsUptoCard : Claim7 := { stood := { row := interpreterArithmeticLawsUptoRow, standIns := [], harness := (true, "2ed350714b4e6a85bf588b79fe8c7914867780708493e576d8ad3ef88ee7cc1f"), looks := true }, kinds := [], alts := [], laidByText := true, laidKinds := [.data], laidTests := true, laidLooks := .later }
def InterpreterArithmeticLawsUptoCardSaid : Prop := Claim7.holds Tryd.pinned (.plain (OpenSpec.upto interpreterArithmeticLawsSpec)) interpreterArithmeticLawsUptoCard

/-- THE SECOND FORM's CARD OF 'privitylaw30.InterpreterTerminates'. -/
def interpreterTerminatesUptoCard : Claim7 := { stood := { row := interpreterTerminatesUptoRow, standIns := [], harness := (true, "2ed350714b4e6a85bf588b79fe8c7914867780708493e576d8ad3ef88ee7cc1f"), looks := true }, kinds := [], alts := [], laidByText := true, laidKinds := [.data], laidTests := true, laidLooks := .later }
def InterpreterTerminatesUptoCardSaid : Prop := Claim7.holds Tryd.pinned (.plain (OpenSpec.upto interpreterTerminatesSpec)) interpreterTerminatesUptoCard
end Rows
end Go.Proofs.YtljoifdccjcidaaDoor
