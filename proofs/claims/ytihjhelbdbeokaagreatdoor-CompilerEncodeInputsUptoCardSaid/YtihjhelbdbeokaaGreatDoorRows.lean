/-
  NARROWER THAN 'FOR EVERY INPUT', by the rows' own cells (each row's printed sentence says how): CompilerCorrect: loops, laid · CompilerErrors: loops, laid · CompilerEncodeInputs: loops, laid · CompilerInputs: loops, laid · CompilerFields: loops, laid · CompilerBranches: laid · CompilerUnusedVariable: loops, laid.
  DERIVED. THE GIVEN ROWS OF THIS SEAT. 7 by the template 'for every input the law returns true; each argument reads behind the call as it read before'; 0 by the template 'total and deterministic' (their statements: YtihjhelbdbeokaaGreatDoorTotals.lean).
  GIVEN WITH THE SEED: the statements are not yours to turn. If you find one false, say at which input.
  Laid BY PROGRAM, IN A SANDBOX (cutbox-rows.mjs): the forced cells as the released guide's own fill.sh prints them over the translation b7252c9a21f02e03… (all of the seat's roots in one cut). By AI agents, Wed Nov 11 2026. No macro, syntax, notation, axiom, sorry.
-/
import Derived.Test.YtihjhelbdbeokaaGreatDoorChecked
import GoSem.Claim
import GoSem.ClaimJoined
import GoSem.ClaimMapViews
import Derived.JoinedTies
import Derived.KernelRfl
namespace Go.Proofs.YtihjhelbdbeokaaGreatDoor
/- THE CELL 'sum', in the pinned program and in every row, IS THE sha256 OF THE DUMP (.gsa) THAT YtihjhelbdbeokaaGreatDoorProg.lean LOADS. Nothing in Lean hashes anything: it is a label: what it is worth is what the hold of that sum in a sandbox is worth. -/
noncomputable def Tryz.pinned : Pinned := { name := "ytihjhelbdbeokaagreatdoor", sum := "b7252c9a21f02e03d44d0a565c649e6e2e81752ee4f54049f5846c977c48ce15", checked := Tryz.checked }
namespace Rows
def none {H : Type} : Left H := { results := [], args := [] }

/- WHAT THE LISTED PACKAGE-LEVEL VARIABLES READ AS WHEN THE CALL BEGINS. Each datum BY PROGRAM (the guide's laid-datum.mjs) off the statement by which the dump's own 'gosem.cut.vars' lays the variable. In a bare row this is a premise. The card (YtihjhelbdbeokaaGreatDoorCards.lean) ties it to the program's text. -/
def laid_privity_field_exps {H : Type} : DataW H := .agg [.lit (.int .i64 5), .lit (.int .i64 7), .lit (.int .i64 13), .lit (.int .i64 17), .lit (.int .i64 19), .lit (.int .i64 31), .lit (.int .i64 61)]
def laid_privity_typecheck_truth {H : Type} : DataW H := .agg [.lit (.int .i64 2), .lit (.int .i64 0), .lit (.bool false), .lit (.int .u64 0)]

/-- 'privitylaw35.CompilerCorrect': WHATEVER THE INPUT: true; the input reads as it did. -/
def compilerCorrectSpec : ChangeSpec := { name := "compilerCorrect", fn := fun _ => fun
  | [d1, d2, d3] => { results := [.lit (.bool true)], args := [d1, d2, d3] }
  | _ => none }
def compilerCorrectRow : OpenClaim := { program := "ytihjhelbdbeokaagreatdoor", sum := "b7252c9a21f02e03d44d0a565c649e6e2e81752ee4f54049f5846c977c48ce15", func := "privity/privitylaw35.CompilerCorrect", spec := "compilerCorrect", inPlace := ["maps.clone", "math/bits.Add64"], unfollowed := true, recurses := true, named := ["privity/typecheck.truth", "privity/field.exps"], loops := true, plainKeys := false, apart := false, laid := [("privity/field.exps", laid_privity_field_exps), ("privity/typecheck.truth", laid_privity_typecheck_truth)] }
def CompilerCorrectSaid : Prop := compilerCorrectRow.holds Tryz.pinned (OpenSpec.ofChange compilerCorrectSpec)

/-- ITS FALSE NEIGHBOUR: 'it returns false'. Refute it at one input. -/
def compilerCorrectWrong : ChangeSpec := { name := "compilerCorrect", fn := fun _ => fun
  | [d1, d2, d3] => { results := [.lit (.bool false)], args := [d1, d2, d3] }
  | _ => none }
def CompilerCorrectWrongFalsely : Prop := compilerCorrectRow.holds Tryz.pinned (OpenSpec.ofChange compilerCorrectWrong)

/-- 'privitylaw35.CompilerErrors': WHATEVER THE INPUT: true; the input reads as it did. -/
def compilerErrorsSpec : ChangeSpec := { name := "compilerErrors", fn := fun _ => fun
  | [d1, d2] => { results := [.lit (.bool true)], args := [d1, d2] }
  | _ => none }
def compilerErrorsRow : OpenClaim := { program := "ytihjhelbdbeokaagreatdoor", sum := "b7252c9a21f02e03d44d0a565c649e6e2e81752ee4f54049f5846c977c48ce15", func := "privity/privitylaw35.CompilerErrors", spec := "compilerErrors", inPlace := ["maps.clone", "math/bits.Add64"], unfollowed := true, recurses := true, named := ["privity/typecheck.truth", "privity/field.exps"], loops := true, plainKeys := false, apart := false, laid := [("privity/field.exps", laid_privity_field_exps), ("privity/typecheck.truth", laid_privity_typecheck_truth)] }
def CompilerErrorsSaid : Prop := compilerErrorsRow.holds Tryz.pinned (OpenSpec.ofChange compilerErrorsSpec)

/-- ITS FALSE NEIGHBOUR: 'it returns false'. Refute it at one input. -/
def compilerErrorsWrong : ChangeSpec := { name := "compilerErrors", fn := fun _ => fun
  | [d1, d2] => { results := [.lit (.bool false)], args := [d1, d2] }
  | _ => none }
def CompilerErrorsWrongFalsely : Prop := compilerErrorsRow.holds Tryz.pinned (OpenSpec.ofChange compilerErrorsWrong)

/-- 'privitylaw35.CompilerEncodeInputs': WHATEVER THE INPUT: true; the input reads as it did. -/
def compilerEncodeInputsSpec : ChangeSpec := { name := "compilerEncodeInputs", fn := fun _ => fun
  | [d1, d2] => { results := [.lit (.bool true)], args := [d1, d2] }
  | _ => none }
def compilerEncodeInputsRow : OpenClaim := { program := "ytihjhelbdbeokaagreatdoor", sum := "b7252c9a21f02e03d44d0a565c649e6e2e81752ee4f54049f5846c977c48ce15", func := "privity/privitylaw35.CompilerEncodeInputs", spec := "compilerEncodeInputs", inPlace := ["maps.clone", "math/bits.Add64"], unfollowed := true, recurses := true, named := ["privity/typecheck.truth", "privity/field.exps"], loops := true, plainKeys := false, apart := false, laid := [("privity/field.exps", laid_privity_field_exps), ("privity/typecheck.truth", laid_privity_typecheck_truth)] }
def CompilerEncodeInputsSaid : Prop := compilerEncodeInputsRow.holds Tryz.pinned (OpenSpec.ofChange compilerEncodeInputsSpec)

/-- ITS FALSE NEIGHBOUR: 'it returns false'. Refute it at one input. -/
def compilerEncodeInputsWrong : ChangeSpec := { name := "compilerEncodeInputs", fn := fun _ => fun
  | [d1, d2] => { results := [.lit (.bool false)], args := [d1, d2] }
  | _ => none }
def CompilerEncodeInputsWrongFalsely : Prop := compilerEncodeInputsRow.holds Tryz.pinned (OpenSpec.ofChange compilerEncodeInputsWrong)

/-- 'privitylaw35.CompilerInputs': WHATEVER THE INPUT: true; the input reads as it did. -/
def compilerInputsSpec : ChangeSpec := { name := "compilerInputs", fn := fun _ => fun
  | [d] => { results := [.lit (.bool true)], args := [d] }
  | _ => none }
def compilerInputsRow : OpenClaim := { program := "ytihjhelbdbeokaagreatdoor", sum := "b7252c9a21f02e03d44d0a565c649e6e2e81752ee4f54049f5846c977c48ce15", func := "privity/privitylaw35.CompilerInputs", spec := "compilerInputs", inPlace := ["maps.clone", "math/bits.Add64"], unfollowed := true, recurses := true, named := ["privity/typecheck.truth", "privity/field.exps"], loops := true, plainKeys := false, apart := false, laid := [("privity/field.exps", laid_privity_field_exps), ("privity/typecheck.truth", laid_privity_typecheck_truth)] }
def CompilerInputsSaid : Prop := compilerInputsRow.holds Tryz.pinned (OpenSpec.ofChange compilerInputsSpec)

/-- ITS FALSE NEIGHBOUR: 'it returns false'. Refute it at one input. -/
def compilerInputsWrong : ChangeSpec := { name := "compilerInputs", fn := fun _ => fun
  | [d] => { results := [.lit (.bool false)], args := [d] }
  | _ => none }
def CompilerInputsWrongFalsely : Prop := compilerInputsRow.holds Tryz.pinned (OpenSpec.ofChange compilerInputsWrong)

/-- 'privitylaw35.CompilerFields': WHATEVER THE INPUT: true; the input reads as it did. -/
def compilerFieldsSpec : ChangeSpec := { name := "compilerFields", fn := fun _ => fun
  | [d1, d2, d3] => { results := [.lit (.bool true)], args := [d1, d2, d3] }
  | _ => none }
def compilerFieldsRow : OpenClaim := { program := "ytihjhelbdbeokaagreatdoor", sum := "b7252c9a21f02e03d44d0a565c649e6e2e81752ee4f54049f5846c977c48ce15", func := "privity/privitylaw35.CompilerFields", spec := "compilerFields", inPlace := ["maps.clone", "math/bits.Add64"], unfollowed := true, recurses := true, named := ["privity/typecheck.truth", "privity/field.exps"], loops := true, plainKeys := false, apart := false, laid := [("privity/field.exps", laid_privity_field_exps), ("privity/typecheck.truth", laid_privity_typecheck_truth)] }
def CompilerFieldsSaid : Prop := compilerFieldsRow.holds Tryz.pinned (OpenSpec.ofChange compilerFieldsSpec)

/-- ITS FALSE NEIGHBOUR: 'it returns false'. Refute it at one input. -/
def compilerFieldsWrong : ChangeSpec := { name := "compilerFields", fn := fun _ => fun
  | [d1, d2, d3] => { results := [.lit (.bool false)], args := [d1, d2, d3] }
  | _ => none }
def CompilerFieldsWrongFalsely : Prop := compilerFieldsRow.holds Tryz.pinned (OpenSpec.ofChange compilerFieldsWrong)

/-- 'privitylaw35.CompilerBranches': WHATEVER THE INPUT: true; the input reads as it did. -/
def compilerBranchesSpec : ChangeSpec := { name := "compilerBranches", fn := fun _ => fun
  | [d1, d2, d3] => { results := [.lit (.bool true)], args := [d1, d2, d3] }
  | _ => none }
def compilerBranchesRow : OpenClaim := { program := "ytihjhelbdbeokaagreatdoor", sum := "b7252c9a21f02e03d44d0a565c649e6e2e81752ee4f54049f5846c977c48ce15", func := "privity/privitylaw35.CompilerBranches", spec := "compilerBranches", inPlace := ["maps.clone", "math/bits.Add64"], unfollowed := true, recurses := true, named := ["privity/typecheck.truth", "privity/field.exps"], plainKeys := false, apart := false, laid := [("privity/field.exps", laid_privity_field_exps), ("privity/typecheck.truth", laid_privity_typecheck_truth)] }
def CompilerBranchesSaid : Prop := compilerBranchesRow.holds Tryz.pinned (OpenSpec.ofChange compilerBranchesSpec)

/-- ITS FALSE NEIGHBOUR: 'it returns false'. Refute it at one input. -/
def compilerBranchesWrong : ChangeSpec := { name := "compilerBranches", fn := fun _ => fun
  | [d1, d2, d3] => { results := [.lit (.bool false)], args := [d1, d2, d3] }
  | _ => none }
def CompilerBranchesWrongFalsely : Prop := compilerBranchesRow.holds Tryz.pinned (OpenSpec.ofChange compilerBranchesWrong)

/-- 'privitylaw35.CompilerUnusedVariable': WHATEVER THE INPUT: true; the input reads as it did. -/
def compilerUnusedVariableSpec : ChangeSpec := { name := "compilerUnusedVariable", fn := fun _ => fun
  | [d1, d2, d3] => { results := [.lit (.bool true)], args := [d1, d2, d3] }
  | _ => none }
def compilerUnusedVariableRow : OpenClaim := { program := "ytihjhelbdbeokaagreatdoor", sum := "b7252c9a21f02e03d44d0a565c649e6e2e81752ee4f54049f5846c977c48ce15", func := "privity/privitylaw35.CompilerUnusedVariable", spec := "compilerUnusedVariable", inPlace := ["maps.clone", "math/bits.Add64"], unfollowed := true, recurses := true, named := ["privity/typecheck.truth", "privity/field.exps"], loops := true, plainKeys := false, apart := false, laid := [("privity/field.exps", laid_privity_field_exps), ("privity/typecheck.truth", laid_privity_typecheck_truth)] }
def CompilerUnusedVariableSaid : Prop := compilerUnusedVariableRow.holds Tryz.pinned (OpenSpec.ofChange compilerUnusedVariableSpec)

/-- ITS FALSE NEIGHBOUR: 'it returns false'. Refute it at one input. -/
def compilerUnusedVariableWrong : ChangeSpec := { name := "compilerUnusedVariable", fn := fun _ => fun
  | [d1, d2, d3] => { results := [.lit (.bool false)], args := [d1, d2, d3] }
  | _ => none }
def CompilerUnusedVariableWrongFalsely : Prop := compilerUnusedVariableRow.holds Tryz.pinned (OpenSpec.ofChange compilerUnusedVariableWrong)

/- THE SECOND FORM. 'bulk': how many values and letters a reading holds, each counted each time it is reached (what is shared counts as often as it is met; a slice's spare places count too). A statement '..UptoSaid' is the law's where the arguments, and the package variables that the reading takes, are together of bulk at most 1048576: NARROWER than '..Said'. Prove '..Said' where nothing that the law and all that it calls make is longer than what came in: it says more and counts as full. Else prove '..UptoSaid'. A law counts once. -/
mutual
def uptoBulk {H : Type} : DataW H → Nat
  | .lit (.string bytes) => bytes.length + 1
  | .lit _ => 1
  | .nil => 1
  | .ptr d => uptoBulk d + 1
  | .slice elems spare => uptoBulkAll elems + uptoBulkAll spare + 1
  | .agg parts => uptoBulkAll parts + 1
  | .iface _ d => uptoBulk d + 1
  | .map entries => uptoBulkEntries entries + 1
  | .held _ => 1
def uptoBulkAll {H : Type} : List (DataW H) → Nat
  | [] => 0
  | d :: r => uptoBulk d + uptoBulkAll r
def uptoBulkEntries {H : Type} : List (Lit × DataW H) → Nat
  | [] => 0
  | x :: r => uptoBulkEntry x + uptoBulkEntries r
def uptoBulkEntry {H : Type} : Lit × DataW H → Nat
  | (.string bytes, d) => bytes.length + uptoBulk d + 1
  | (_, d) => uptoBulk d + 1
 end
def uptoSmall : (H : Type) → List (DataW H) → Bool := fun _ ds => decide (uptoBulkAll ds ≤ 1048576)
def OpenSpec.upto (s : _root_.Go.ChangeSpec) : _root_.Go.OpenSpec := { _root_.Go.OpenSpec.ofChange s with cond := some uptoSmall }

/-- 'privitylaw35.CompilerCorrect', WHERE WHAT IT READS IS OF BULK AT MOST 1048576: true; the input reads as it did. -/
def compilerCorrectUptoRow : OpenClaim := { program := "ytihjhelbdbeokaagreatdoor", sum := "b7252c9a21f02e03d44d0a565c649e6e2e81752ee4f54049f5846c977c48ce15", func := "privity/privitylaw35.CompilerCorrect", spec := "compilerCorrect", inPlace := ["maps.clone", "math/bits.Add64"], unfollowed := true, recurses := true, named := ["privity/typecheck.truth", "privity/field.exps"], loops := true, plainKeys := false, apart := false, laid := [("privity/field.exps", laid_privity_field_exps), ("privity/typecheck.truth", laid_privity_typecheck_truth)], narrowed := true }
def CompilerCorrectUptoSaid : Prop := compilerCorrectUptoRow.holds Tryz.pinned (OpenSpec.upto compilerCorrectSpec)

/-- 'privitylaw35.CompilerErrors', WHERE WHAT IT READS IS OF BULK AT MOST 1048576: true; the input reads as it did. -/
def compilerErrorsUptoRow : OpenClaim := { program := "ytihjhelbdbeokaagreatdoor", sum := "b7252c9a21f02e03d44d0a565c649e6e2e81752ee4f54049f5846c977c48ce15", func := "privity/privitylaw35.CompilerErrors", spec := "compilerErrors", inPlace := ["maps.clone", "math/bits.Add64"], unfollowed := true, recurses := true, named := ["privity/typecheck.truth", "privity/field.exps"], loops := true, plainKeys := false, apart := false, laid := [("privity/field.exps", laid_privity_field_exps), ("privity/typecheck.truth", laid_privity_typecheck_truth)], narrowed := true }
def CompilerErrorsUptoSaid : Prop := compilerErrorsUptoRow.holds Tryz.pinned (OpenSpec.upto compilerErrorsSpec)

/-- 'privitylaw35.CompilerEncodeInputs', WHERE WHAT IT READS IS OF BULK AT MOST 1048576: true; the input reads as it did. -/
def compilerEncodeInputsUptoRow : OpenClaim := { program := "ytihjhelbdbeokaagreatdoor", sum := "b7252c9a21f02e03d44d0a565c649e6e2e81752ee4f54049f5846c977c48ce15", func := "privity/privitylaw35.CompilerEncodeInputs", spec := "compilerEncodeInputs", inPlace := ["maps.clone", "math/bits.Add64"], unfollowed := true, recurses := true, named := ["privity/typecheck.truth", "privity/field.exps"], loops := true, plainKeys := false, apart := false, laid := [("privity/field.exps", laid_privity_field_exps), ("privity/typecheck.truth", laid_privity_typecheck_truth)], narrowed := true }
def CompilerEncodeInputsUptoSaid : Prop := compilerEncodeInputsUptoRow.holds Tryz.pinned (OpenSpec.upto compilerEncodeInputsSpec)

/-- 'privitylaw35.CompilerInputs', WHERE WHAT IT READS IS OF BULK AT MOST 1048576: true; the input reads as it did. -/
def compilerInputsUptoRow : OpenClaim := { program := "ytihjhelbdbeokaagreatdoor", sum := "b7252c9a21f02e03d44d0a565c649e6e2e81752ee4f54049f5846c977c48ce15", func := "privity/privitylaw35.CompilerInputs", spec := "compilerInputs", inPlace := ["maps.clone", "math/bits.Add64"], unfollowed := true, recurses := true, named := ["privity/typecheck.truth", "privity/field.exps"], loops := true, plainKeys := false, apart := false, laid := [("privity/field.exps", laid_privity_field_exps), ("privity/typecheck.truth", laid_privity_typecheck_truth)], narrowed := true }
def CompilerInputsUptoSaid : Prop := compilerInputsUptoRow.holds Tryz.pinned (OpenSpec.upto compilerInputsSpec)

/-- 'privitylaw35.CompilerFields', WHERE WHAT IT READS IS OF BULK AT MOST 1048576: true; the input reads as it did. -/
def compilerFieldsUptoRow : OpenClaim := { program := "ytihjhelbdbeokaagreatdoor", sum := "b7252c9a21f02e03d44d0a565c649e6e2e81752ee4f54049f5846c977c48ce15", func := "privity/privitylaw35.CompilerFields", spec := "compilerFields", inPlace := ["maps.clone", "math/bits.Add64"], unfollowed := true, recurses := true, named := ["privity/typecheck.truth", "privity/field.exps"], loops := true, plainKeys := false, apart := false, laid := [("privity/field.exps", laid_privity_field_exps), ("privity/typecheck.truth", laid_privity_typecheck_truth)], narrowed := true }
def CompilerFieldsUptoSaid : Prop := compilerFieldsUptoRow.holds Tryz.pinned (OpenSpec.upto compilerFieldsSpec)

/-- 'privitylaw35.CompilerBranches', WHERE WHAT IT READS IS OF BULK AT MOST 1048576: true; the input reads as it did. -/
def compilerBranchesUptoRow : OpenClaim := { program := "ytihjhelbdbeokaagreatdoor", sum := "b7252c9a21f02e03d44d0a565c649e6e2e81752ee4f54049f5846c977c48ce15", func := "privity/privitylaw35.CompilerBranches", spec := "compilerBranches", inPlace := ["maps.clone", "math/bits.Add64"], unfollowed := true, recurses := true, named := ["privity/typecheck.truth", "privity/field.exps"], plainKeys := false, apart := false, laid := [("privity/field.exps", laid_privity_field_exps), ("privity/typecheck.truth", laid_privity_typecheck_truth)], narrowed := true }
def CompilerBranchesUptoSaid : Prop := compilerBranchesUptoRow.holds Tryz.pinned (OpenSpec.upto compilerBranchesSpec)

/-- 'privitylaw35.CompilerUnusedVariable', WHERE WHAT IT READS IS OF BULK AT MOST 1048576: true; the input reads as it did. -/
def compilerUnusedVariableUptoRow : OpenClaim := { program := "ytihjhelbdbeokaagreatdoor", sum := "b7252c9a21f02e03d44d0a565c649e6e2e81752ee4f54049f5846c977c48ce15", func := "privity/privitylaw35.CompilerUnusedVariable", spec := "compilerUnusedVariable", inPlace := ["maps.clone", "math/bits.Add64"], unfollowed := true, recurses := true, named := ["privity/typecheck.truth", "privity/field.exps"], loops := true, plainKeys := false, apart := false, laid := [("privity/field.exps", laid_privity_field_exps), ("privity/typecheck.truth", laid_privity_typecheck_truth)], narrowed := true }
def CompilerUnusedVariableUptoSaid : Prop := compilerUnusedVariableUptoRow.holds Tryz.pinned (OpenSpec.upto compilerUnusedVariableSpec)

end Rows
end Go.Proofs.YtihjhelbdbeokaaGreatDoor
