/-
  NARROWER THAN 'FOR EVERY INPUT', by the rows' own cells (each row's printed sentence says how): ConstfoldPreservesTyping: loops, laid · ConstfoldPreservesMeaning: loops, laid.
  DERIVED. THE GIVEN ROWS OF THIS SEAT. 2 by the template 'for every input the law returns true; each argument reads behind the call as it read before'; 0 by the template 'total and deterministic' (their statements: YtemlhjlceeiflaaDoorTotals.lean).
  GIVEN WITH THE SEED: the statements are not yours to turn. If you find one false, say at which input.
  Laid BY PROGRAM, IN A SANDBOX (cutbox-rows.mjs): the forced cells as the released guide's own fill.sh prints them over the translation 91a682bc6ae7e2e4… (all of the seat's roots in one cut). By AI agents, Wed Nov 11 2026. No macro, syntax, notation, axiom, sorry.
-/
import Derived.Test.YtemlhjlceeiflaaDoorChecked
import GoSem.Claim
import GoSem.ClaimJoined
import GoSem.ClaimMapViews
import Derived.JoinedTies
import Derived.KernelRfl
namespace Go.Proofs.YtemlhjlceeiflaaDoor
/- THE CELL 'sum', in the pinned program and in every row, IS THE sha256 OF THE DUMP (.gsa) THAT YtemlhjlceeiflaaDoorProg.lean LOADS. Nothing in Lean hashes anything: it is a label: what it is worth is what the hold of that sum in a sandbox is worth. -/
noncomputable def Tryd.pinned : Pinned := { name := "ytemlhjlceeiflaadoor", sum := "91a682bc6ae7e2e44575058dd9955862380010e5e9cb136cbe0d3afd3eb40760", checked := Tryd.checked }
namespace Rows
def none {H : Type} : Left H := { results := [], args := [] }

/- WHAT THE LISTED PACKAGE-LEVEL VARIABLES READ AS WHEN THE CALL BEGINS. Each datum BY PROGRAM (the guide's laid-datum.mjs) off the statement by which the dump's own 'gosem.cut.vars' lays the variable. In a bare row this is a premise. The card (YtemlhjlceeiflaaDoorCards.lean) ties it to the program's text. -/
def laid_privity_typecheck_truth {H : Type} : DataW H := .agg [.lit (.int .i64 2), .lit (.int .i64 0), .lit (.bool false), .lit (.int .u64 0)]

/-- 'privitylaw31.ConstfoldPreservesTyping': WHATEVER THE INPUT: true; the input reads as it did. -/
def constfoldPreservesTypingSpec : ChangeSpec := { name := "constfoldPreservesTyping", fn := fun _ => fun
  | [d] => { results := [.lit (.bool true)], args := [d] }
  | _ => none }
def constfoldPreservesTypingRow : OpenClaim := { program := "ytemlhjlceeiflaadoor", sum := "91a682bc6ae7e2e44575058dd9955862380010e5e9cb136cbe0d3afd3eb40760", func := "privity/privitylaw31.ConstfoldPreservesTyping", spec := "constfoldPreservesTyping", inPlace := ["maps.clone"], unfollowed := true, recurses := true, named := ["privity/typecheck.truth"], loops := true, apart := false, laid := [("privity/typecheck.truth", laid_privity_typecheck_truth)] }
def ConstfoldPreservesTypingSaid : Prop := constfoldPreservesTypingRow.holds Tryd.pinned (OpenSpec.ofChange constfoldPreservesTypingSpec)

/-- ITS FALSE NEIGHBOUR: 'it returns false'. Refute it at one input. -/
def constfoldPreservesTypingWrong : ChangeSpec := { name := "constfoldPreservesTyping", fn := fun _ => fun
  | [d] => { results := [.lit (.bool false)], args := [d] }
  | _ => none }
def ConstfoldPreservesTypingWrongFalsely : Prop := constfoldPreservesTypingRow.holds Tryd.pinned (OpenSpec.ofChange constfoldPreservesTypingWrong)

/-- 'privitylaw31.ConstfoldPreservesMeaning': WHATEVER THE INPUT: true; the input reads as it did. -/
def constfoldPreservesMeaningSpec : ChangeSpec := { name := "constfoldPreservesMeaning", fn := fun _ => fun
  | [d1, d2] => { results := [.lit (.bool true)], args := [d1, d2] }
  | _ => none }
def constfoldPreservesMeaningRow : OpenClaim := { program := "ytemlhjlceeiflaadoor", sum := "91a682bc6ae7e2e44575058dd9955862380010e5e9cb136cbe0d3afd3eb40760", func := "privity/privitylaw31.ConstfoldPreservesMeaning", spec := "constfoldPreservesMeaning", inPlace := ["maps.clone"], unfollowed := true, recurses := true, named := ["privity/typecheck.truth"], loops := true, apart := false, laid := [("privity/typecheck.truth", laid_privity_typecheck_truth)] }
def ConstfoldPreservesMeaningSaid : Prop := constfoldPreservesMeaningRow.holds Tryd.pinned (OpenSpec.ofChange constfoldPreservesMeaningSpec)

/-- ITS FALSE NEIGHBOUR: 'it returns false'. Refute it at one input. -/
def constfoldPreservesMeaningWrong : ChangeSpec := { name := "constfoldPreservesMeaning", fn := fun _ => fun
  | [d1, d2] => { results := [.lit (.bool false)], args := [d1, d2] }
  | _ => none }
def ConstfoldPreservesMeaningWrongFalsely : Prop := constfoldPreservesMeaningRow.holds Tryd.pinned (OpenSpec.ofChange constfoldPreservesMeaningWrong)

/- THE SECOND FORM. 'bulk': how many values and letters a reading holds, each counted each time it is reached (what is shared counts as often as it is met; a slice's spare places count too). A statement '..UptoSaid' is the law's where the arguments, and the package variables that the reading takes, are together of bulk at most 1048576: NARROWER than '..Said'. Prove '..Said' where nothing that the law and all that it calls make is longer than what came in: it says more and counts as full. Else prove '..UptoSaid'. A law counts once. -/
mutual
def uptoBulk {H : Type} : DataW H → Nat
  | .lit (.string bytes) => bytes.length + 1
  | .lit _ => 1
  | .nil => 1
  | .ptr d => uptoBulk d + 1
  | .slice elems spare => uptoBulkAll elems + uptoBulkAll spare + 1
  | .agg parts => uptoBulkAll parts + 1
  | .iface _ d => uptoBulk d + 1
  | .map entries => uptoBulkEntries entries + 1
  | .held _ => 1
def uptoBulkAll {H : Type} : List (DataW H) → Nat
  | [] => 0
  | d :: r => uptoBulk d + uptoBulkAll r
def uptoBulkEntries {H : Type} : List (Lit × DataW H) → Nat
  | [] => 0
  | x :: r => uptoBulkEntry x + uptoBulkEntries r
def uptoBulkEntry {H : Type} : Lit × DataW H → Nat
  | (.string bytes, d) => bytes.length + uptoBulk d + 1
  | (_, d) => uptoBulk d + 1
 end
def uptoSmall : (H : Type) → List (DataW H) → Bool := fun _ ds => decide (uptoBulkAll ds ≤ 1048576)
def OpenSpec.upto (s : _root_.Go.ChangeSpec) : _root_.Go.OpenSpec := { _root_.Go.OpenSpec.ofChange s with cond := some uptoSmall }

/-- 'privitylaw31.ConstfoldPreservesTyping', WHERE WHAT IT READS IS OF BULK AT MOST 1048576: true; the input reads as it did. -/
def constfoldPreservesTypingUptoRow : OpenClaim := { program := "ytemlhjlceeiflaadoor", sum := "91a682bc6ae7e2e44575058dd9955862380010e5e9cb136cbe0d3afd3eb40760", func := "privity/privitylaw31.ConstfoldPreservesTyping", spec := "constfoldPreservesTyping", inPlace := ["maps.clone"], unfollowed := true, recurses := true, named := ["privity/typecheck.truth"], loops := true, apart := false, laid := [("privity/typecheck.truth", laid_privity_typecheck_truth)], narrowed := true }
def ConstfoldPreservesTypingUptoSaid : Prop := constfoldPreservesTypingUptoRow.holds Tryd.pinned (OpenSpec.upto constfoldPreservesTypingSpec)

/-- 'privitylaw31.ConstfoldPreservesMeaning', WHERE WHAT IT READS IS OF BULK AT MOST 1048576: true; the input reads as it did. -/
def constfoldPreservesMeaningUptoRow : OpenClaim := { program := "ytemlhjlceeiflaadoor", sum := "91a682bc6ae7e2e44575058dd9955862380010e5e9cb136cbe0d3afd3eb40760", func := "privity/privitylaw31.ConstfoldPreservesMeaning", spec := "constfoldPreservesMeaning", inPlace := ["maps.clone"], unfollowed := true, recurses := true, named := ["privity/typecheck.truth"], loops := true, apart := false, laid := [("privity/typecheck.truth", laid_privity_typecheck_truth)], narrowed := true }
def ConstfoldPreservesMeaningUptoSaid : Prop := constfoldPreservesMeaningUptoRow.holds Tryd.pinned (OpenSpec.upto constfoldPreservesMeaningSpec)

end Rows
end Go.Proofs.YtemlhjlceeiflaaDoor
