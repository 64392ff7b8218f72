/-
  NARROWER THAN 'FOR EVERY INPUT', by the rows' own cells (each row's printed sentence says how): TypecheckCheck: loops, laid · TypecheckMaxWidth: loops, laid · TypecheckPrefix: loops, laid · TypecheckFields: loops, laid · TypecheckChains: laid · TypecheckSteps: laid.
  DERIVED. THE GIVEN ROWS OF THIS SEAT. 6 by the template 'for every input the law returns true; each argument reads behind the call as it read before'; 0 by the template 'total and deterministic' (their statements: YtihmoaibgmhjeaaDoorTotals.lean).
  GIVEN WITH THE SEED: the statements are not yours to turn. If you find one false, say at which input.
  Laid BY PROGRAM, IN A SANDBOX (cutbox-rows.mjs): the forced cells as the released guide's own fill.sh prints them over the translation a127450b1e6be7ec… (all of the seat's roots in one cut). By AI agents, Wed Nov 11 2026. No macro, syntax, notation, axiom, sorry.
-/
import Derived.Test.YtihmoaibgmhjeaaDoorChecked
import GoSem.Claim
import GoSem.ClaimJoined
import GoSem.ClaimMapViews
import Derived.JoinedTies
import Derived.KernelRfl
namespace Go.Proofs.YtihmoaibgmhjeaaDoor
/- THE CELL 'sum', in the pinned program and in every row, IS THE sha256 OF THE DUMP (.gsa) THAT YtihmoaibgmhjeaaDoorProg.lean LOADS. Nothing in Lean hashes anything: it is a label: what it is worth is what the hold of that sum in a sandbox is worth. -/
noncomputable def Tryd.pinned : Pinned := { name := "ytihmoaibgmhjeaadoor", sum := "a127450b1e6be7ec99bf3d945d23137df5d2a27147474d1e588762eb5004cbe4", checked := Tryd.checked }
namespace Rows
def none {H : Type} : Left H := { results := [], args := [] }

/- WHAT THE LISTED PACKAGE-LEVEL VARIABLES READ AS WHEN THE CALL BEGINS. Each datum BY PROGRAM (the guide's laid-datum.mjs) off the statement by which the dump's own 'gosem.cut.vars' lays the variable. In a bare row this is a premise. The card (YtihmoaibgmhjeaaDoorCards.lean) ties it to the program's text. -/
def laid_privity_field_exps {H : Type} : DataW H := .agg [.lit (.int .i64 5), .lit (.int .i64 7), .lit (.int .i64 13), .lit (.int .i64 17), .lit (.int .i64 19), .lit (.int .i64 31), .lit (.int .i64 61)]
def laid_privity_typecheck_truth {H : Type} : DataW H := .agg [.lit (.int .i64 2), .lit (.int .i64 0), .lit (.bool false), .lit (.int .u64 0)]

/-- 'privitylaw29.TypecheckCheck': WHATEVER THE INPUT: true; the input reads as it did. -/
def typecheckCheckSpec : ChangeSpec := { name := "typecheckCheck", fn := fun _ => fun
  | [d] => { results := [.lit (.bool true)], args := [d] }
  | _ => none }
def typecheckCheckRow : OpenClaim := { program := "ytihmoaibgmhjeaadoor", sum := "a127450b1e6be7ec99bf3d945d23137df5d2a27147474d1e588762eb5004cbe4", func := "privity/privitylaw29.TypecheckCheck", spec := "typecheckCheck", inPlace := ["maps.clone"], unfollowed := true, recurses := true, named := ["privity/typecheck.truth", "privity/field.exps"], loops := true, apart := false, laid := [("privity/field.exps", laid_privity_field_exps), ("privity/typecheck.truth", laid_privity_typecheck_truth)] }
def TypecheckCheckSaid : Prop := typecheckCheckRow.holds Tryd.pinned (OpenSpec.ofChange typecheckCheckSpec)

/-- ITS FALSE NEIGHBOUR: 'it returns false'. Refute it at one input. -/
def typecheckCheckWrong : ChangeSpec := { name := "typecheckCheck", fn := fun _ => fun
  | [d] => { results := [.lit (.bool false)], args := [d] }
  | _ => none }
def TypecheckCheckWrongFalsely : Prop := typecheckCheckRow.holds Tryd.pinned (OpenSpec.ofChange typecheckCheckWrong)

/-- 'privitylaw29.TypecheckMaxWidth': WHATEVER THE INPUT: true; the input reads as it did. -/
def typecheckMaxWidthSpec : ChangeSpec := { name := "typecheckMaxWidth", fn := fun _ => fun
  | [d1, d2] => { results := [.lit (.bool true)], args := [d1, d2] }
  | _ => none }
def typecheckMaxWidthRow : OpenClaim := { program := "ytihmoaibgmhjeaadoor", sum := "a127450b1e6be7ec99bf3d945d23137df5d2a27147474d1e588762eb5004cbe4", func := "privity/privitylaw29.TypecheckMaxWidth", spec := "typecheckMaxWidth", inPlace := ["maps.clone"], unfollowed := true, recurses := true, named := ["privity/typecheck.truth", "privity/field.exps"], loops := true, apart := false, laid := [("privity/field.exps", laid_privity_field_exps), ("privity/typecheck.truth", laid_privity_typecheck_truth)] }
def TypecheckMaxWidthSaid : Prop := typecheckMaxWidthRow.holds Tryd.pinned (OpenSpec.ofChange typecheckMaxWidthSpec)

/-- ITS FALSE NEIGHBOUR: 'it returns false'. Refute it at one input. -/
def typecheckMaxWidthWrong : ChangeSpec := { name := "typecheckMaxWidth", fn := fun _ => fun
  | [d1, d2] => { results := [.lit (.bool false)], args := [d1, d2] }
  | _ => none }
def TypecheckMaxWidthWrongFalsely : Prop := typecheckMaxWidthRow.holds Tryd.pinned (OpenSpec.ofChange typecheckMaxWidthWrong)

/-- 'privitylaw29.TypecheckPrefix': WHATEVER THE INPUT: true; the input reads as it did. -/
def typecheckPrefixSpec : ChangeSpec := { name := "typecheckPrefix", fn := fun _ => fun
  | [d] => { results := [.lit (.bool true)], args := [d] }
  | _ => none }
def typecheckPrefixRow : OpenClaim := { program := "ytihmoaibgmhjeaadoor", sum := "a127450b1e6be7ec99bf3d945d23137df5d2a27147474d1e588762eb5004cbe4", func := "privity/privitylaw29.TypecheckPrefix", spec := "typecheckPrefix", inPlace := ["maps.clone"], unfollowed := true, recurses := true, named := ["privity/typecheck.truth", "privity/field.exps"], loops := true, apart := false, laid := [("privity/field.exps", laid_privity_field_exps), ("privity/typecheck.truth", laid_privity_typecheck_truth)] }
def TypecheckPrefixSaid : Prop := typecheckPrefixRow.holds Tryd.pinned (OpenSpec.ofChange typecheckPrefixSpec)

/-- ITS FALSE NEIGHBOUR: 'it returns false'. Refute it at one input. -/
def typecheckPrefixWrong : ChangeSpec := { name := "typecheckPrefix", fn := fun _ => fun
  | [d] => { results := [.lit (.bool false)], args := [d] }
  | _ => none }
def TypecheckPrefixWrongFalsely : Prop := typecheckPrefixRow.holds Tryd.pinned (OpenSpec.ofChange typecheckPrefixWrong)

/-- 'privitylaw29.TypecheckFields': WHATEVER THE INPUT: true; the input reads as it did. -/
def typecheckFieldsSpec : ChangeSpec := { name := "typecheckFields", fn := fun _ => fun
  | [d1, d2] => { results := [.lit (.bool true)], args := [d1, d2] }
  | _ => none }
def typecheckFieldsRow : OpenClaim := { program := "ytihmoaibgmhjeaadoor", sum := "a127450b1e6be7ec99bf3d945d23137df5d2a27147474d1e588762eb5004cbe4", func := "privity/privitylaw29.TypecheckFields", spec := "typecheckFields", inPlace := ["maps.clone"], unfollowed := true, recurses := true, named := ["privity/typecheck.truth", "privity/field.exps"], loops := true, apart := false, laid := [("privity/field.exps", laid_privity_field_exps), ("privity/typecheck.truth", laid_privity_typecheck_truth)] }
def TypecheckFieldsSaid : Prop := typecheckFieldsRow.holds Tryd.pinned (OpenSpec.ofChange typecheckFieldsSpec)

/-- ITS FALSE NEIGHBOUR: 'it returns false'. Refute it at one input. -/
def typecheckFieldsWrong : ChangeSpec := { name := "typecheckFields", fn := fun _ => fun
  | [d1, d2] => { results := [.lit (.bool false)], args := [d1, d2] }
  | _ => none }
def TypecheckFieldsWrongFalsely : Prop := typecheckFieldsRow.holds Tryd.pinned (OpenSpec.ofChange typecheckFieldsWrong)

/-- 'privitylaw29.TypecheckChains': WHATEVER THE INPUT: true; the input reads as it did. -/
def typecheckChainsSpec : ChangeSpec := { name := "typecheckChains", fn := fun _ => fun
  | [d1, d2] => { results := [.lit (.bool true)], args := [d1, d2] }
  | _ => none }
def typecheckChainsRow : OpenClaim := { program := "ytihmoaibgmhjeaadoor", sum := "a127450b1e6be7ec99bf3d945d23137df5d2a27147474d1e588762eb5004cbe4", func := "privity/privitylaw29.TypecheckChains", spec := "typecheckChains", inPlace := ["maps.clone"], unfollowed := true, recurses := true, named := ["privity/typecheck.truth", "privity/field.exps"], apart := false, laid := [("privity/field.exps", laid_privity_field_exps), ("privity/typecheck.truth", laid_privity_typecheck_truth)] }
def TypecheckChainsSaid : Prop := typecheckChainsRow.holds Tryd.pinned (OpenSpec.ofChange typecheckChainsSpec)

/-- ITS FALSE NEIGHBOUR: 'it returns false'. Refute it at one input. -/
def typecheckChainsWrong : ChangeSpec := { name := "typecheckChains", fn := fun _ => fun
  | [d1, d2] => { results := [.lit (.bool false)], args := [d1, d2] }
  | _ => none }
def TypecheckChainsWrongFalsely : Prop := typecheckChainsRow.holds Tryd.pinned (OpenSpec.ofChange typecheckChainsWrong)

/-- 'privitylaw29.TypecheckSteps': WHATEVER THE INPUT: true; the input reads as it did. -/
def typecheckStepsSpec : ChangeSpec := { name := "typecheckSteps", fn := fun _ => fun
  | [d1, d2] => { results := [.lit (.bool true)], args := [d1, d2] }
  | _ => none }
def typecheckStepsRow : OpenClaim := { program := "ytihmoaibgmhjeaadoor", sum := "a127450b1e6be7ec99bf3d945d23137df5d2a27147474d1e588762eb5004cbe4", func := "privity/privitylaw29.TypecheckSteps", spec := "typecheckSteps", inPlace := ["maps.clone"], unfollowed := true, recurses := true, named := ["privity/typecheck.truth", "privity/field.exps"], apart := false, laid := [("privity/field.exps", laid_privity_field_exps), ("privity/typecheck.truth", laid_privity_typecheck_truth)] }
def TypecheckStepsSaid : Prop := typecheckStepsRow.holds Tryd.pinned (OpenSpec.ofChange typecheckStepsSpec)

/-- ITS FALSE NEIGHBOUR: 'it returns false'. Refute it at one input. -/
def typecheckStepsWrong : ChangeSpec := { name := "typecheckSteps", fn := fun _ => fun
  | [d1, d2] => { results := [.lit (.bool false)], args := [d1, d2] }
  | _ => none }
def TypecheckStepsWrongFalsely : Prop := typecheckStepsRow.holds Tryd.pinned (OpenSpec.ofChange typecheckStepsWrong)

/- THE SECOND FORM. 'bulk': how many values and letters a reading holds, each counted each time it is reached (what is shared counts as often as it is met; a slice's spare places count too). A statement '..UptoSaid' is the law's where the arguments, and the package variables that the reading takes, are together of bulk at most 1048576: NARROWER than '..Said'. Prove '..Said' where nothing that the law and all that it calls make is longer than what came in: it says more and counts as full. Else prove '..UptoSaid'. A law counts once. -/
mutual
def uptoBulk {H : Type} : DataW H → Nat
  | .lit (.string bytes) => bytes.length + 1
  | .lit _ => 1
  | .nil => 1
  | .ptr d => uptoBulk d + 1
  | .slice elems spare => uptoBulkAll elems + uptoBulkAll spare + 1
  | .agg parts => uptoBulkAll parts + 1
  | .iface _ d => uptoBulk d + 1
  | .map entries => uptoBulkEntries entries + 1
  | .held _ => 1
def uptoBulkAll {H : Type} : List (DataW H) → Nat
  | [] => 0
  | d :: r => uptoBulk d + uptoBulkAll r
def uptoBulkEntries {H : Type} : List (Lit × DataW H) → Nat
  | [] => 0
  | x :: r => uptoBulkEntry x + uptoBulkEntries r
def uptoBulkEntry {H : Type} : Lit × DataW H → Nat
  | (.string bytes, d) => bytes.length + uptoBulk d + 1
  | (_, d) => uptoBulk d + 1
 end
def uptoSmall : (H : Type) → List (DataW H) → Bool := fun _ ds => decide (uptoBulkAll ds ≤ 1048576)
def OpenSpec.upto (s : _root_.Go.ChangeSpec) : _root_.Go.OpenSpec := { _root_.Go.OpenSpec.ofChange s with cond := some uptoSmall }

/-- 'privitylaw29.TypecheckCheck', WHERE WHAT IT READS IS OF BULK AT MOST 1048576: true; the input reads as it did. -/
def typecheckCheckUptoRow : OpenClaim := { program := "ytihmoaibgmhjeaadoor", sum := "a127450b1e6be7ec99bf3d945d23137df5d2a27147474d1e588762eb5004cbe4", func := "privity/privitylaw29.TypecheckCheck", spec := "typecheckCheck", inPlace := ["maps.clone"], unfollowed := true, recurses := true, named := ["privity/typecheck.truth", "privity/field.exps"], loops := true, apart := false, laid := [("privity/field.exps", laid_privity_field_exps), ("privity/typecheck.truth", laid_privity_typecheck_truth)], narrowed := true }
def TypecheckCheckUptoSaid : Prop := typecheckCheckUptoRow.holds Tryd.pinned (OpenSpec.upto typecheckCheckSpec)

/-- 'privitylaw29.TypecheckMaxWidth', WHERE WHAT IT READS IS OF BULK AT MOST 1048576: true; the input reads as it did. -/
def typecheckMaxWidthUptoRow : OpenClaim := { program := "ytihmoaibgmhjeaadoor", sum := "a127450b1e6be7ec99bf3d945d23137df5d2a27147474d1e588762eb5004cbe4", func := "privity/privitylaw29.TypecheckMaxWidth", spec := "typecheckMaxWidth", inPlace := ["maps.clone"], unfollowed := true, recurses := true, named := ["privity/typecheck.truth", "privity/field.exps"], loops := true, apart := false, laid := [("privity/field.exps", laid_privity_field_exps), ("privity/typecheck.truth", laid_privity_typecheck_truth)], narrowed := true }
def TypecheckMaxWidthUptoSaid : Prop := typecheckMaxWidthUptoRow.holds Tryd.pinned (OpenSpec.upto typecheckMaxWidthSpec)

/-- 'privitylaw29.TypecheckPrefix', WHERE WHAT IT READS IS OF BULK AT MOST 1048576: true; the input reads as it did. -/
def typecheckPrefixUptoRow : OpenClaim := { program := "ytihmoaibgmhjeaadoor", sum := "a127450b1e6be7ec99bf3d945d23137df5d2a27147474d1e588762eb5004cbe4", func := "privity/privitylaw29.TypecheckPrefix", spec := "typecheckPrefix", inPlace := ["maps.clone"], unfollowed := true, recurses := true, named := ["privity/typecheck.truth", "privity/field.exps"], loops := true, apart := false, laid := [("privity/field.exps", laid_privity_field_exps), ("privity/typecheck.truth", laid_privity_typecheck_truth)], narrowed := true }
def TypecheckPrefixUptoSaid : Prop := typecheckPrefixUptoRow.holds Tryd.pinned (OpenSpec.upto typecheckPrefixSpec)

/-- 'privitylaw29.TypecheckFields', WHERE WHAT IT READS IS OF BULK AT MOST 1048576: true; the input reads as it did. -/
def typecheckFieldsUptoRow : OpenClaim := { program := "ytihmoaibgmhjeaadoor", sum := "a127450b1e6be7ec99bf3d945d23137df5d2a27147474d1e588762eb5004cbe4", func := "privity/privitylaw29.TypecheckFields", spec := "typecheckFields", inPlace := ["maps.clone"], unfollowed := true, recurses := true, named := ["privity/typecheck.truth", "privity/field.exps"], loops := true, apart := false, laid := [("privity/field.exps", laid_privity_field_exps), ("privity/typecheck.truth", laid_privity_typecheck_truth)], narrowed := true }
def TypecheckFieldsUptoSaid : Prop := typecheckFieldsUptoRow.holds Tryd.pinned (OpenSpec.upto typecheckFieldsSpec)

/-- 'privitylaw29.TypecheckChains', WHERE WHAT IT READS IS OF BULK AT MOST 1048576: true; the input reads as it did. -/
def typecheckChainsUptoRow : OpenClaim := { program := "ytihmoaibgmhjeaadoor", sum := "a127450b1e6be7ec99bf3d945d23137df5d2a27147474d1e588762eb5004cbe4", func := "privity/privitylaw29.TypecheckChains", spec := "typecheckChains", inPlace := ["maps.clone"], unfollowed := true, recurses := true, named := ["privity/typecheck.truth", "privity/field.exps"], apart := false, laid := [("privity/field.exps", laid_privity_field_exps), ("privity/typecheck.truth", laid_privity_typecheck_truth)], narrowed := true }
def TypecheckChainsUptoSaid : Prop := typecheckChainsUptoRow.holds Tryd.pinned (OpenSpec.upto typecheckChainsSpec)

/-- 'privitylaw29.TypecheckSteps', WHERE WHAT IT READS IS OF BULK AT MOST 1048576: true; the input reads as it did. -/
def typecheckStepsUptoRow : OpenClaim := { program := "ytihmoaibgmhjeaadoor", sum := "a127450b1e6be7ec99bf3d945d23137df5d2a27147474d1e588762eb5004cbe4", func := "privity/privitylaw29.TypecheckSteps", spec := "typecheckSteps", inPlace := ["maps.clone"], unfollowed := true, recurses := true, named := ["privity/typecheck.truth", "privity/field.exps"], apart := false, laid := [("privity/field.exps", laid_privity_field_exps), ("privity/typecheck.truth", laid_privity_typecheck_truth)], narrowed := true }
def TypecheckStepsUptoSaid : Prop := typecheckStepsUptoRow.holds Tryd.pinned (OpenSpec.upto typecheckStepsSpec)

end Rows
end Go.Proofs.YtihmoaibgmhjeaaDoor
