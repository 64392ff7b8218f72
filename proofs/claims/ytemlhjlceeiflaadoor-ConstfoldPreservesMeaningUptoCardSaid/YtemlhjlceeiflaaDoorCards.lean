/-
  DERIVED. GIVEN WITH THE SEED: THE CARDS: each row of YtemlhjlceeiflaaDoorRows.lean that lists a variable, with what it lists TIED to the program's text (the seventh form; the later family's looks); each row that meets fmt, with fmt's text TOLD by the authors' own Lean function (tested against real Go, not proved from fmt's source: count such statements apart). THE CARD IS WHAT COUNTS. Prove the row's statement (the work); the ties are given (YtemlhjlceeiflaaDoorTie.lean); close each card by the builder's one call (the guide's Derived/Test/ToyasCard.lean, 'card_holds'). Laid BY PROGRAM, IN A SANDBOX (cutbox-door.mjs). By AI agents, Wed Nov 11 2026. No macro, syntax, notation, axiom, sorry.
-/
import Derived.Test.YtemlhjlceeiflaaDoorRows
import GoSem.ClaimSeven
namespace Go.Proofs.YtemlhjlceeiflaaDoor
namespace Rows

/-- THE TIED CARD OF 'privitylaw31.ConstfoldPreservesTyping'. -/
def constfoldPreservesTypingCard : Claim7 := { stood := { row := constfoldPreservesTypingRow, standIns := [], harness := (true, "780c13d536b050b214521492339c41893cd185294f86b8bbda2ed070a093e8c8"), looks := true }, kinds := [], alts := [], laidByText := true, laidKinds := [.data], laidTests := true, laidLooks := .later }
def ConstfoldPreservesTypingCardSaid : Prop := Claim7.holds Tryd.pinned (.plain (OpenSpec.ofChange constfoldPreservesTypingSpec)) constfoldPreservesTypingCard

/-- THE TIED CARD OF 'privitylaw31.ConstfoldPreservesMeaning'. -/
def constfoldPreservesMeaningCard : Claim7 := { stood := { row := constfoldPreservesMeaningRow, standIns := [], harness := (true, "780c13d536b050b214521492339c41893cd185294f86b8bbda2ed070a093e8c8"), looks := true }, kinds := [], alts := [], laidByText := true, laidKinds := [.data], laidTests := true, laidLooks := .later }
def ConstfoldPreservesMeaningCardSaid : Prop := Claim7.holds Tryd.pinned (.plain (OpenSpec.ofChange constfoldPreservesMeaningSpec)) constfoldPreservesMeaningCard

/-- THE SECOND FORM's CARD OF 'privitylaw31.ConstfoldPreservesTyping'. -/
def constfoldPreservesTypingUptoCard : Claim7 := { stood := { row := constfoldPreservesTypingUptoRow, standIns := [], harness := (true, "780c13d536b050b214521492339c41893cd185294f86b8bbda2ed070a093e8c8"), looks := true }, kinds := [], alts := [], laidByText := true, laidKinds := [.data], laidTests := true, laidLooks := .later }
def ConstfoldPreservesTypingUptoCardSaid : Prop := Claim7.holds Tryd.pinned (.plain (OpenSpec.upto constfoldPreservesTypingSpec)) constfoldPreservesTypingUptoCard

/-- THE SECOND FORM's CARD OF 'privitylaw31.ConstfoldPreservesMeaning'. -/
def constfoldPreservesMeaningUptoCard : Claim7 := { stood := { row := constfoldPreservesMeaningUptoRow, standIns := [], harness := (true, "780c13d536b050b214521492339c41893cd185294f86b8bbda2ed070a093e8c8"), looks := true }, kinds := [], alts := [], laidByText := true, laidKinds := [.data], laidTests := true, laidLooks := .later }
def ConstfoldPreservesMeaningUptoCardSaid : Prop := Claim7.holds Tryd.pinned (.plain (OpenSpec.upto constfoldPreservesMeaningSpec)) constfoldPreservesMeaningUptoCard
end Rows
end Go.Proofs.YtemlhjlceeiflaaDoor
