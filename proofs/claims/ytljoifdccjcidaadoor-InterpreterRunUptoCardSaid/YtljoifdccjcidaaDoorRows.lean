/-
  NARROWER THAN 'FOR EVERY INPUT', by the rows' own cells (each row's printed sentence says how): InterpreterRun: loops, laid · InterpreterOperators: laid · InterpreterAppend: loops, laid · InterpreterUnusedInput: loops, laid · InterpreterLoop: laid · InterpreterConditional: loops, laid · InterpreterArithmeticLaws: laid · InterpreterTerminates: loops, laid.
  DERIVED. THE GIVEN ROWS OF THIS SEAT. 8 by the template 'for every input the law returns true; each argument reads behind the call as it read before'; 0 by the template 'total and deterministic' (their statements: YtljoifdccjcidaaDoorTotals.lean).
  GIVEN WITH THE SEED: the statements are not yours to turn. If you find one false, say at which input.
  Laid BY PROGRAM, IN A SANDBOX (cutbox-rows.mjs): the forced cells as the released guide's own fill.sh prints them over the translation 864ab1ecae192224… (all of the seat's roots in one cut). By AI agents, Wed Nov 11 2026. No macro, syntax, notation, axiom, sorry.
-/
import Derived.Test.YtljoifdccjcidaaDoorChecked
import GoSem.Claim
import GoSem.ClaimJoined
import GoSem.ClaimMapViews
import Derived.JoinedTies
import Derived.KernelRfl
namespace Go.Proofs.YtljoifdccjcidaaDoor
/- THE CELL 'sum', in the pinned program and in every row, IS THE sha256 OF THE DUMP (.gsa) THAT YtljoifdccjcidaaDoorProg.lean LOADS. Nothing in Lean hashes anything: it is a label: what it is worth is what the hold of that sum in a sandbox is worth. -/
noncomputable def Tryd.pinned : Pinned := { name := "ytljoifdccjcidaadoor", sum := "864ab1ecae1922249c0afdeb386e3b98248d84a34d139aab3b32f7887a5f62ca", checked := Tryd.checked }
namespace Rows
def none {H : Type} : Left H := { results := [], args := [] }

/- WHAT THE LISTED PACKAGE-LEVEL VARIABLES READ AS WHEN THE CALL BEGINS. Each datum BY PROGRAM (the guide's laid-datum.mjs) off the statement by which the dump's own 'gosem.cut.vars' lays the variable. In a bare row this is a premise. The card (YtljoifdccjcidaaDoorCards.lean) ties it to the program's text. -/
def laid_privity_typecheck_truth {H : Type} : DataW H := .agg [.lit (.int .i64 2), .lit (.int .i64 0), .lit (.bool false), .lit (.int .u64 0)]

/-- 'privitylaw30.InterpreterRun': WHATEVER THE INPUT: true; the input reads as it did. -/
def interpreterRunSpec : ChangeSpec := { name := "interpreterRun", fn := fun _ => fun
  | [d1, d2] => { results := [.lit (.bool true)], args := [d1, d2] }
  | _ => none }
def interpreterRunRow : OpenClaim := { program := "ytljoifdccjcidaadoor", sum := "864ab1ecae1922249c0afdeb386e3b98248d84a34d139aab3b32f7887a5f62ca", func := "privity/privitylaw30.InterpreterRun", spec := "interpreterRun", inPlace := ["maps.clone"], unfollowed := true, recurses := true, named := ["privity/typecheck.truth"], loops := true, apart := false, laid := [("privity/typecheck.truth", laid_privity_typecheck_truth)] }
def InterpreterRunSaid : Prop := interpreterRunRow.holds Tryd.pinned (OpenSpec.ofChange interpreterRunSpec)

/-- ITS FALSE NEIGHBOUR: 'it returns false'. Refute it at one input. -/
def interpreterRunWrong : ChangeSpec := { name := "interpreterRun", fn := fun _ => fun
  | [d1, d2] => { results := [.lit (.bool false)], args := [d1, d2] }
  | _ => none }
def InterpreterRunWrongFalsely : Prop := interpreterRunRow.holds Tryd.pinned (OpenSpec.ofChange interpreterRunWrong)

/-- 'privitylaw30.InterpreterOperators': WHATEVER THE INPUT: true; the input reads as it did. -/
def interpreterOperatorsSpec : ChangeSpec := { name := "interpreterOperators", fn := fun _ => fun
  | [d1, d2] => { results := [.lit (.bool true)], args := [d1, d2] }
  | _ => none }
def interpreterOperatorsRow : OpenClaim := { program := "ytljoifdccjcidaadoor", sum := "864ab1ecae1922249c0afdeb386e3b98248d84a34d139aab3b32f7887a5f62ca", func := "privity/privitylaw30.InterpreterOperators", spec := "interpreterOperators", inPlace := ["maps.clone"], unfollowed := true, recurses := true, named := ["privity/typecheck.truth"], apart := false, laid := [("privity/typecheck.truth", laid_privity_typecheck_truth)] }
def InterpreterOperatorsSaid : Prop := interpreterOperatorsRow.holds Tryd.pinned (OpenSpec.ofChange interpreterOperatorsSpec)

/-- ITS FALSE NEIGHBOUR: 'it returns false'. Refute it at one input. -/
def interpreterOperatorsWrong : ChangeSpec := { name := "interpreterOperators", fn := fun _ => fun
  | [d1, d2] => { results := [.lit (.bool false)], args := [d1, d2] }
  | _ => none }
def InterpreterOperatorsWrongFalsely : Prop := interpreterOperatorsRow.holds Tryd.pinned (OpenSpec.ofChange interpreterOperatorsWrong)

/-- 'privitylaw30.InterpreterAppend': WHATEVER THE INPUT: true; the input reads as it did. -/
def interpreterAppendSpec : ChangeSpec := { name := "interpreterAppend", fn := fun _ => fun
  | [d1, d2, d3] => { results := [.lit (.bool true)], args := [d1, d2, d3] }
  | _ => none }
def interpreterAppendRow : OpenClaim := { program := "ytljoifdccjcidaadoor", sum := "864ab1ecae1922249c0afdeb386e3b98248d84a34d139aab3b32f7887a5f62ca", func := "privity/privitylaw30.InterpreterAppend", spec := "interpreterAppend", inPlace := ["maps.clone"], unfollowed := true, recurses := true, named := ["privity/typecheck.truth"], loops := true, apart := false, laid := [("privity/typecheck.truth", laid_privity_typecheck_truth)] }
def InterpreterAppendSaid : Prop := interpreterAppendRow.holds Tryd.pinned (OpenSpec.ofChange interpreterAppendSpec)

/-- ITS FALSE NEIGHBOUR: 'it returns false'. Refute it at one input. -/
def interpreterAppendWrong : ChangeSpec := { name := "interpreterAppend", fn := fun _ => fun
  | [d1, d2, d3] => { results := [.lit (.bool false)], args := [d1, d2, d3] }
  | _ => none }
def InterpreterAppendWrongFalsely : Prop := interpreterAppendRow.holds Tryd.pinned (OpenSpec.ofChange interpreterAppendWrong)

/-- 'privitylaw30.InterpreterUnusedInput': WHATEVER THE INPUT: true; the input reads as it did. -/
def interpreterUnusedInputSpec : ChangeSpec := { name := "interpreterUnusedInput", fn := fun _ => fun
  | [d1, d2, d3] => { results := [.lit (.bool true)], args := [d1, d2, d3] }
  | _ => none }
def interpreterUnusedInputRow : OpenClaim := { program := "ytljoifdccjcidaadoor", sum := "864ab1ecae1922249c0afdeb386e3b98248d84a34d139aab3b32f7887a5f62ca", func := "privity/privitylaw30.InterpreterUnusedInput", spec := "interpreterUnusedInput", inPlace := ["maps.clone"], unfollowed := true, recurses := true, named := ["privity/typecheck.truth"], loops := true, apart := false, laid := [("privity/typecheck.truth", laid_privity_typecheck_truth)] }
def InterpreterUnusedInputSaid : Prop := interpreterUnusedInputRow.holds Tryd.pinned (OpenSpec.ofChange interpreterUnusedInputSpec)

/-- ITS FALSE NEIGHBOUR: 'it returns false'. Refute it at one input. -/
def interpreterUnusedInputWrong : ChangeSpec := { name := "interpreterUnusedInput", fn := fun _ => fun
  | [d1, d2, d3] => { results := [.lit (.bool false)], args := [d1, d2, d3] }
  | _ => none }
def InterpreterUnusedInputWrongFalsely : Prop := interpreterUnusedInputRow.holds Tryd.pinned (OpenSpec.ofChange interpreterUnusedInputWrong)

/-- 'privitylaw30.InterpreterLoop': WHATEVER THE INPUT: true; the input reads as it did. -/
def interpreterLoopSpec : ChangeSpec := { name := "interpreterLoop", fn := fun _ => fun
  | [d1, d2, d3] => { results := [.lit (.bool true)], args := [d1, d2, d3] }
  | _ => none }
def interpreterLoopRow : OpenClaim := { program := "ytljoifdccjcidaadoor", sum := "864ab1ecae1922249c0afdeb386e3b98248d84a34d139aab3b32f7887a5f62ca", func := "privity/privitylaw30.InterpreterLoop", spec := "interpreterLoop", inPlace := ["maps.clone"], unfollowed := true, recurses := true, named := ["privity/typecheck.truth"], apart := false, laid := [("privity/typecheck.truth", laid_privity_typecheck_truth)] }
def InterpreterLoopSaid : Prop := interpreterLoopRow.holds Tryd.pinned (OpenSpec.ofChange interpreterLoopSpec)

/-- ITS FALSE NEIGHBOUR: 'it returns false'. Refute it at one input. -/
def interpreterLoopWrong : ChangeSpec := { name := "interpreterLoop", fn := fun _ => fun
  | [d1, d2, d3] => { results := [.lit (.bool false)], args := [d1, d2, d3] }
  | _ => none }
def InterpreterLoopWrongFalsely : Prop := interpreterLoopRow.holds Tryd.pinned (OpenSpec.ofChange interpreterLoopWrong)

/-- 'privitylaw30.InterpreterConditional': WHATEVER THE INPUT: true; the input reads as it did. -/
def interpreterConditionalSpec : ChangeSpec := { name := "interpreterConditional", fn := fun _ => fun
  | [d] => { results := [.lit (.bool true)], args := [d] }
  | _ => none }
def interpreterConditionalRow : OpenClaim := { program := "ytljoifdccjcidaadoor", sum := "864ab1ecae1922249c0afdeb386e3b98248d84a34d139aab3b32f7887a5f62ca", func := "privity/privitylaw30.InterpreterConditional", spec := "interpreterConditional", inPlace := ["maps.clone"], unfollowed := true, recurses := true, named := ["privity/typecheck.truth"], loops := true, apart := false, laid := [("privity/typecheck.truth", laid_privity_typecheck_truth)] }
def InterpreterConditionalSaid : Prop := interpreterConditionalRow.holds Tryd.pinned (OpenSpec.ofChange interpreterConditionalSpec)

/-- ITS FALSE NEIGHBOUR: 'it returns false'. Refute it at one input. -/
def interpreterConditionalWrong : ChangeSpec := { name := "interpreterConditional", fn := fun _ => fun
  | [d] => { results := [.lit (.bool false)], args := [d] }
  | _ => none }
def InterpreterConditionalWrongFalsely : Prop := interpreterConditionalRow.holds Tryd.pinned (OpenSpec.ofChange interpreterConditionalWrong)

/-- 'privitylaw30.InterpreterArithmeticLaws': WHATEVER THE INPUT: true; the input reads as it did. -/
def interpreterArithmeticLawsSpec : ChangeSpec := { name := "interpreterArithmeticLaws", fn := fun _ => fun
  | [d1, d2, d3] => { results := [.lit (.bool true)], args := [d1, d2, d3] }
  | _ => none }
def interpreterArithmeticLawsRow : OpenClaim := { program := "ytljoifdccjcidaadoor", sum := "864ab1ecae1922249c0afdeb386e3b98248d84a34d139aab3b32f7887a5f62ca", func := "privity/privitylaw30.InterpreterArithmeticLaws", spec := "interpreterArithmeticLaws", inPlace := ["maps.clone"], unfollowed := true, recurses := true, named := ["privity/typecheck.truth"], apart := false, laid := [("privity/typecheck.truth", laid_privity_typecheck_truth)] }
def InterpreterArithmeticLawsSaid : Prop := interpreterArithmeticLawsRow.holds Tryd.pinned (OpenSpec.ofChange interpreterArithmeticLawsSpec)

/-- ITS FALSE NEIGHBOUR: 'it returns false'. Refute it at one input. -/
def interpreterArithmeticLawsWrong : ChangeSpec := { name := "interpreterArithmeticLaws", fn := fun _ => fun
  | [d1, d2, d3] => { results := [.lit (.bool false)], args := [d1, d2, d3] }
  | _ => none }
def InterpreterArithmeticLawsWrongFalsely : Prop := interpreterArithmeticLawsRow.holds Tryd.pinned (OpenSpec.ofChange interpreterArithmeticLawsWrong)

/-- 'privitylaw30.InterpreterTerminates': WHATEVER THE INPUT: true; the input reads as it did. -/
def interpreterTerminatesSpec : ChangeSpec := { name := "interpreterTerminates", fn := fun _ => fun
  | [d1, d2] => { results := [.lit (.bool true)], args := [d1, d2] }
  | _ => none }
def interpreterTerminatesRow : OpenClaim := { program := "ytljoifdccjcidaadoor", sum := "864ab1ecae1922249c0afdeb386e3b98248d84a34d139aab3b32f7887a5f62ca", func := "privity/privitylaw30.InterpreterTerminates", spec := "interpreterTerminates", inPlace := ["maps.clone"], unfollowed := true, recurses := true, named := ["privity/typecheck.truth"], loops := true, apart := false, laid := [("privity/typecheck.truth", laid_privity_typecheck_truth)] }
def InterpreterTerminatesSaid : Prop := interpreterTerminatesRow.holds Tryd.pinned (OpenSpec.ofChange interpreterTerminatesSpec)

/-- ITS FALSE NEIGHBOUR: 'it returns false'. Refute it at one input. -/
def interpreterTerminatesWrong : ChangeSpec := { name := "interpreterTerminates", fn := fun _ => fun
  | [d1, d2] => { results := [.lit (.bool false)], args := [d1, d2] }
  | _ => none }
def InterpreterTerminatesWrongFalsely : Prop := interpreterTerminatesRow.holds Tryd.pinned (OpenSpec.ofChange interpreterTerminatesWrong)

/- THE SECOND FORM. 'bulk': how many values and letters a reading holds, each counted each time it is reached (what is shared counts as often as it is met; a slice's spare places count too). A statement '..UptoSaid' is the law's where the arguments, and the package variables that the reading takes, are together of bulk at most 1048576: NARROWER than '..Said'. Prove '..Said' where nothing that the law and all that it calls make is longer than what came in: it says more and counts as full. Else prove '..UptoSaid'. A law counts once. -/
mutual
def uptoBulk {H : Type} : DataW H → Nat
  | .lit (.string bytes) => bytes.length + 1
  | .lit _ => 1
  | .nil => 1
  | .ptr d => uptoBulk d + 1
  | .slice elems spare => uptoBulkAll elems + uptoBulkAll spare + 1
  | .agg parts => uptoBulkAll parts + 1
  | .iface _ d => uptoBulk d + 1
  | .map entries => uptoBulkEntries entries + 1
  | .held _ => 1
def uptoBulkAll {H : Type} : List (DataW H) → Nat
  | [] => 0
  | d :: r => uptoBulk d + uptoBulkAll r
def uptoBulkEntries {H : Type} : List (Lit × DataW H) → Nat
  | [] => 0
  | x :: r => uptoBulkEntry x + uptoBulkEntries r
def uptoBulkEntry {H : Type} : Lit × DataW H → Nat
  | (.string bytes, d) => bytes.length + uptoBulk d + 1
  | (_, d) => uptoBulk d + 1
 end
def uptoSmall : (H : Type) → List (DataW H) → Bool := fun _ ds => decide (uptoBulkAll ds ≤ 1048576)
def OpenSpec.upto (s : _root_.Go.ChangeSpec) : _root_.Go.OpenSpec := { _root_.Go.OpenSpec.ofChange s with cond := some uptoSmall }

/-- 'privitylaw30.InterpreterRun', WHERE WHAT IT READS IS OF BULK AT MOST 1048576: true; the input reads as it did. -/
def interpreterRunUptoRow : OpenClaim := { program := "ytljoifdccjcidaadoor", sum := "864ab1ecae1922249c0afdeb386e3b98248d84a34d139aab3b32f7887a5f62ca", func := "privity/privitylaw30.InterpreterRun", spec := "interpreterRun", inPlace := ["maps.clone"], unfollowed := true, recurses := true, named := ["privity/typecheck.truth"], loops := true, apart := false, laid := [("privity/typecheck.truth", laid_privity_typecheck_truth)], narrowed := true }
def InterpreterRunUptoSaid : Prop := interpreterRunUptoRow.holds Tryd.pinned (OpenSpec.upto interpreterRunSpec)

/-- 'privitylaw30.InterpreterOperators', WHERE WHAT IT READS IS OF BULK AT MOST 1048576: true; the input reads as it did. -/
def interpreterOperatorsUptoRow : OpenClaim := { program := "ytljoifdccjcidaadoor", sum := "864ab1ecae1922249c0afdeb386e3b98248d84a34d139aab3b32f7887a5f62ca", func := "privity/privitylaw30.InterpreterOperators", spec := "interpreterOperators", inPlace := ["maps.clone"], unfollowed := true, recurses := true, named := ["privity/typecheck.truth"], apart := false, laid := [("privity/typecheck.truth", laid_privity_typecheck_truth)], narrowed := true }
def InterpreterOperatorsUptoSaid : Prop := interpreterOperatorsUptoRow.holds Tryd.pinned (OpenSpec.upto interpreterOperatorsSpec)

/-- 'privitylaw30.InterpreterAppend', WHERE WHAT IT READS IS OF BULK AT MOST 1048576: true; the input reads as it did. -/
def interpreterAppendUptoRow : OpenClaim := { program := "ytljoifdccjcidaadoor", sum := "864ab1ecae1922249c0afdeb386e3b98248d84a34d139aab3b32f7887a5f62ca", func := "privity/privitylaw30.InterpreterAppend", spec := "interpreterAppend", inPlace := ["maps.clone"], unfollowed := true, recurses := true, named := ["privity/typecheck.truth"], loops := true, apart := false, laid := [("privity/typecheck.truth", laid_privity_typecheck_truth)], narrowed := true }
def InterpreterAppendUptoSaid : Prop := interpreterAppendUptoRow.holds Tryd.pinned (OpenSpec.upto interpreterAppendSpec)

/-- 'privitylaw30.InterpreterUnusedInput', WHERE WHAT IT READS IS OF BULK AT MOST 1048576: true; the input reads as it did. -/
def interpreterUnusedInputUptoRow : OpenClaim := { program := "ytljoifdccjcidaadoor", sum := "864ab1ecae1922249c0afdeb386e3b98248d84a34d139aab3b32f7887a5f62ca", func := "privity/privitylaw30.InterpreterUnusedInput", spec := "interpreterUnusedInput", inPlace := ["maps.clone"], unfollowed := true, recurses := true, named := ["privity/typecheck.truth"], loops := true, apart := false, laid := [("privity/typecheck.truth", laid_privity_typecheck_truth)], narrowed := true }
def InterpreterUnusedInputUptoSaid : Prop := interpreterUnusedInputUptoRow.holds Tryd.pinned (OpenSpec.upto interpreterUnusedInputSpec)

/-- 'privitylaw30.InterpreterLoop', WHERE WHAT IT READS IS OF BULK AT MOST 1048576: true; the input reads as it did. -/
def interpreterLoopUptoRow : OpenClaim := { program := "ytljoifdccjcidaadoor", sum := "864ab1ecae1922249c0afdeb386e3b98248d84a34d139aab3b32f7887a5f62ca", func := "privity/privitylaw30.InterpreterLoop", spec := "interpreterLoop", inPlace := ["maps.clone"], unfollowed := true, recurses := true, named := ["privity/typecheck.truth"], apart := false, laid := [("privity/typecheck.truth", laid_privity_typecheck_truth)], narrowed := true }
def InterpreterLoopUptoSaid : Prop := interpreterLoopUptoRow.holds Tryd.pinned (OpenSpec.upto interpreterLoopSpec)

/-- 'privitylaw30.InterpreterConditional', WHERE WHAT IT READS IS OF BULK AT MOST 1048576: true; the input reads as it did. -/
def interpreterConditionalUptoRow : OpenClaim := { program := "ytljoifdccjcidaadoor", sum := "864ab1ecae1922249c0afdeb386e3b98248d84a34d139aab3b32f7887a5f62ca", func := "privity/privitylaw30.InterpreterConditional", spec := "interpreterConditional", inPlace := ["maps.clone"], unfollowed := true, recurses := true, named := ["privity/typecheck.truth"], loops := true, apart := false, laid := [("privity/typecheck.truth", laid_privity_typecheck_truth)], narrowed := true }
def InterpreterConditionalUptoSaid : Prop := interpreterConditionalUptoRow.holds Tryd.pinned (OpenSpec.upto interpreterConditionalSpec)

/-- 'privitylaw30.InterpreterArithmeticLaws', WHERE WHAT IT READS IS OF BULK AT MOST 1048576: true; the input reads as it did. -/
def interpreterArithmeticLawsUptoRow : OpenClaim := { program := "ytljoifdccjcidaadoor", sum := "864ab1ecae1922249c0afdeb386e3b98248d84a34d139aab3b32f7887a5f62ca", func := "privity/privitylaw30.InterpreterArithmeticLaws", spec := "interpreterArithmeticLaws", inPlace := ["maps.clone"], unfollowed := true, recurses := true, named := ["privity/typecheck.truth"], apart := false, laid := [("privity/typecheck.truth", laid_privity_typecheck_truth)], narrowed := true }
def InterpreterArithmeticLawsUptoSaid : Prop := interpreterArithmeticLawsUptoRow.holds Tryd.pinned (OpenSpec.upto interpreterArithmeticLawsSpec)

/-- 'privitylaw30.InterpreterTerminates', WHERE WHAT IT READS IS OF BULK AT MOST 1048576: true; the input reads as it did. -/
def interpreterTerminatesUptoRow : OpenClaim := { program := "ytljoifdccjcidaadoor", sum := "864ab1ecae1922249c0afdeb386e3b98248d84a34d139aab3b32f7887a5f62ca", func := "privity/privitylaw30.InterpreterTerminates", spec := "interpreterTerminates", inPlace := ["maps.clone"], unfollowed := true, recurses := true, named := ["privity/typecheck.truth"], loops := true, apart := false, laid := [("privity/typecheck.truth", laid_privity_typecheck_truth)], narrowed := true }
def InterpreterTerminatesUptoSaid : Prop := interpreterTerminatesUptoRow.holds Tryd.pinned (OpenSpec.upto interpreterTerminatesSpec)

end Rows
end Go.Proofs.YtljoifdccjcidaaDoor
