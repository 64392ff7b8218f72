/-
  DERIVED. GIVEN WITH THE SEED: THE CARDS: each row of YtihmoaibgmhjeaaDoorRows.lean that lists a variable, with what it lists TIED to the program's text (the seventh form; the later family's looks); each row that meets fmt, with fmt's text TOLD by the authors' own Lean function (tested against real Go, not proved from fmt's source: count such statements apart). THE CARD IS WHAT COUNTS. Prove the row's statement (the work); the ties are given (YtihmoaibgmhjeaaDoorTie.lean); close each card by the builder's one call (the guide's Derived/Test/ToyasCard.lean, 'card_holds'). Laid BY PROGRAM, IN A SANDBOX (cutbox-door.mjs). By AI agents, Wed Nov 11 2026. No macro, syntax, notation, axiom, sorry.
-/
import Derived.Test.YtihmoaibgmhjeaaDoorRows
import GoSem.ClaimSeven
namespace Go.Proofs.YtihmoaibgmhjeaaDoor
namespace Rows

/-- THE TIED CARD OF 'privitylaw29.TypecheckCheck'. -/
def typecheckCheckCard : Claim7 := { stood := { row := typecheckCheckRow, standIns := [], harness := (true, "3d8e1eb08004adf053da8c1d54c32789db01116dc7b619e4d059276469ba8b84"), looks := true }, kinds := [], alts := [], laidByText := true, laidKinds := [.data, .data], laidTests := true, laidLooks := .later }
def TypecheckCheckCardSaid : Prop := Claim7.holds Tryd.pinned (.plain (OpenSpec.ofChange typecheckCheckSpec)) typecheckCheckCard

/-- THE TIED CARD OF 'privitylaw29.TypecheckMaxWidth'. -/
def typecheckMaxWidthCard : Claim7 := { stood := { row := typecheckMaxWidthRow, standIns := [], harness := (true, "3d8e1eb08004adf053da8c1d54c32789db01116dc7b619e4d059276469ba8b84"), looks := true }, kinds := [], alts := [], laidByText := true, laidKinds := [.data, .data], laidTests := true, laidLooks := .later }
def TypecheckMaxWidthCardSaid : Prop := Claim7.holds Tryd.pinned (.plain (OpenSpec.ofChange typecheckMaxWidthSpec)) typecheckMaxWidthCard

/-- THE TIED CARD OF 'privitylaw29.TypecheckPrefix'. -/
def typecheckPrefixCard : Claim7 := { stood := { row := typecheckPrefixRow, standIns := [], harness := (true, "3d8e1eb08004adf053da8c1d54c32789db01116dc7b619e4d059276469ba8b84"), looks := true }, kinds := [], alts := [], laidByText := true, laidKinds := [.data, .data], laidTests := true, laidLooks := .later }
def TypecheckPrefixCardSaid : Prop := Claim7.holds Tryd.pinned (.plain (OpenSpec.ofChange typecheckPrefixSpec)) typecheckPrefixCard

/-- THE TIED CARD OF 'privitylaw29.TypecheckFields'. -/
def typecheckFieldsCard : Claim7 := { stood := { row := typecheckFieldsRow, standIns := [], harness := (true, "3d8e1eb08004adf053da8c1d54c32789db01116dc7b619e4d059276469ba8b84"), looks := true }, kinds := [], alts := [], laidByText := true, laidKinds := [.data, .data], laidTests := true, laidLooks := .later }
def TypecheckFieldsCardSaid : Prop := Claim7.holds Tryd.pinned (.plain (OpenSpec.ofChange typecheckFieldsSpec)) typecheckFieldsCard

/-- THE TIED CARD OF 'privitylaw29.TypecheckChains'. -/
def typecheckChainsCard : Claim7 := { stood := { row := typecheckChainsRow, standIns := [], harness := (true, "3d8e1eb08004adf053da8c1d54c32789db01116dc7b619e4d059276469ba8b84"), looks := true }, kinds := [], alts := [], laidByText := true, laidKinds := [.data, .data], laidTests := true, laidLooks := .later }
def TypecheckChainsCardSaid : Prop := Claim7.holds Tryd.pinned (.plain (OpenSpec.ofChange typecheckChainsSpec)) typecheckChainsCard

/-- THE TIED CARD OF 'privitylaw29.TypecheckSteps'. -/
def typecheckStepsCard : Claim7 := { stood := { row := typecheckStepsRow, standIns := [], harness := (true, "3d8e1eb08004adf053da8c1d54c32789db01116dc7b619e4d059276469ba8b84"), looks := true }, kinds := [], alts := [], laidByText := true, laidKinds := [.data, .data], laidTests := true, laidLooks := .later }
def TypecheckStepsCardSaid : Prop := Claim7.holds Tryd.pinned (.plain (OpenSpec.ofChange typecheckStepsSpec)) typecheckStepsCard

/-- THE SECOND FORM's CARD OF 'privitylaw29.TypecheckCheck'. -/
def typecheckCheckUptoCard : Claim7 := { stood := { row := typecheckCheckUptoRow, standIns := [], harness := (true, "3d8e1eb08004adf053da8c1d54c32789db01116dc7b619e4d059276469ba8b84"), looks := true }, kinds := [], alts := [], laidByText := true, laidKinds := [.data, .data], laidTests := true, laidLooks := .later }
def TypecheckCheckUptoCardSaid : Prop := Claim7.holds Tryd.pinned (.plain (OpenSpec.upto typecheckCheckSpec)) typecheckCheckUptoCard

/-- THE SECOND FORM's CARD OF 'privitylaw29.TypecheckMaxWidth'. -/
def typecheckMaxWidthUptoCard : Claim7 := { stood := { row := typecheckMaxWidthUptoRow, standIns := [], harness := (true, "3d8e1eb08004adf053da8c1d54c32789db01116dc7b619e4d059276469ba8b84"), looks := true }, kinds := [], alts := [], laidByText := true, laidKinds := [.data, .data], laidTests := true, laidLooks := .later }
def TypecheckMaxWidthUptoCardSaid : Prop := Claim7.holds Tryd.pinned (.plain (OpenSpec.upto typecheckMaxWidthSpec)) typecheckMaxWidthUptoCard

/-- THE SECOND FORM's CARD OF 'privitylaw29.TypecheckPrefix'. -/
def typecheckPrefixUptoCard : Claim7 := { stood := { row := typecheckPrefixUptoRow, standIns := [], harness := (true, "3d8e1eb08004adf053da8c1d54c32789db01116dc7b619e4d059276469ba8b84"), looks := true }, kinds := [], alts := [], laidByText := true, laidKinds := [.data, .data], laidTests := true, laidLooks := .later }
def TypecheckPrefixUptoCardSaid : Prop := Claim7.holds Tryd.pinned (.plain (OpenSpec.upto typecheckPrefixSpec)) typecheckPrefixUptoCard

/-- THE SECOND FORM's CARD OF 'privitylaw29.TypecheckFields'. -/
def typecheckFieldsUptoCard : Claim7 := { stood := { row := typecheckFieldsUptoRow, standIns := [], harness := (true, "3d8e1eb08004adf053da8c1d54c32789db01116dc7b619e4d059276469ba8b84"), looks := true }, kinds := [], alts := [], laidByText := true, laidKinds := [.data, .data], laidTests := true, laidLooks := .later }
def TypecheckFieldsUptoCardSaid : Prop := Claim7.holds Tryd.pinned (.plain (OpenSpec.upto typecheckFieldsSpec)) typecheckFieldsUptoCard

/-- THE SECOND FORM's CARD OF 'privitylaw29.TypecheckChains'. -/
def typecheckChainsUptoCard : Claim7 := { stood := { row := typecheckChainsUptoRow, standIns := [], harness := (true, "3d8e1eb08004adf053da8c1d54c32789db01116dc7b619e4d059276469ba8b84"), looks := true }, kinds := [], alts := [], laidByText := true, laidKinds := [.data, .data], laidTests := true, laidLooks := .later }
def TypecheckChainsUptoCardSaid : Prop := Claim7.holds Tryd.pinned (.plain (OpenSpec.upto typecheckChainsSpec)) typecheckChainsUptoCard

/-- THE SECOND FORM's CARD OF 'privitylaw29.TypecheckSteps'. -/
def typecheckStepsUptoCard : Claim7 := { stood := { row := typecheckStepsUptoRow, standIns := [], harness := (true, "3d8e1eb08004adf053da8c1d54c32789db01116dc7b619e4d059276469ba8b84"), looks := true }, kinds := [], alts := [], laidByText := true, laidKinds := [.data, .data], laidTests := true, laidLooks := .later }
def TypecheckStepsUptoCardSaid : Prop := Claim7.holds Tryd.pinned (.plain (OpenSpec.upto typecheckStepsSpec)) typecheckStepsUptoCard
end Rows
end Go.Proofs.YtihmoaibgmhjeaaDoor
