/-
  NARROWER THAN 'FOR EVERY INPUT', by the rows' own cells (each row's printed sentence says how): ConstfoldMatchesReference: loops · ConstfoldEvalConstMatchesReference: loops · ConstfoldLeavesNoConstants: loops · ConstfoldIsLocal: loops · ConstfoldIsIdempotent: loops.
  DERIVED. THE GIVEN ROWS OF THIS SEAT. 5 by the template 'for every input the law returns true; each argument reads behind the call as it read before'; 0 by the template 'total and deterministic' (their statements: YtemlhjlceeiflaaTotals.lean).
  GIVEN WITH THE SEED: the statements are not yours to turn. If you find one false, say at which input.
  Laid BY PROGRAM, IN A SANDBOX (cutbox-rows.mjs): the forced cells as the released guide's own fill.sh prints them over the translation 74ac08605210b81a… (all of the seat's roots in one cut). By AI agents, Wed Nov 11 2026. No macro, syntax, notation, axiom, sorry.
-/
import Derived.Test.YtemlhjlceeiflaaChecked
import GoSem.Claim
import GoSem.ClaimJoined
import GoSem.ClaimMapViews
import Derived.JoinedTies
import Derived.KernelRfl
namespace Go.Proofs.Ytemlhjlceeiflaa
/- THE CELL 'sum', in the pinned program and in every row, IS THE sha256 OF THE DUMP (.gsa) THAT YtemlhjlceeiflaaProg.lean LOADS. Nothing in Lean hashes anything: it is a label: what it is worth is what the hold of that sum in a sandbox is worth. -/
noncomputable def Try.pinned : Pinned := { name := "ytemlhjlceeiflaa", sum := "74ac08605210b81a3cefe2fb5d81c68a4a8d3e3942259ac9f1bb6f7a41253194", checked := Try.checked }
namespace Rows
def none {H : Type} : Left H := { results := [], args := [] }

/-- 'privitylaw31.ConstfoldMatchesReference': WHATEVER THE INPUT: true; the input reads as it did. -/
def constfoldMatchesReferenceSpec : ChangeSpec := { name := "constfoldMatchesReference", fn := fun _ => fun
  | [d] => { results := [.lit (.bool true)], args := [d] }
  | _ => none }
def constfoldMatchesReferenceRow : OpenClaim := { program := "ytemlhjlceeiflaa", sum := "74ac08605210b81a3cefe2fb5d81c68a4a8d3e3942259ac9f1bb6f7a41253194", func := "privity/privitylaw31.ConstfoldMatchesReference", spec := "constfoldMatchesReference", unfollowed := true, recurses := true, loops := true, apart := false }
def ConstfoldMatchesReferenceSaid : Prop := constfoldMatchesReferenceRow.holds Try.pinned (OpenSpec.ofChange constfoldMatchesReferenceSpec)

/-- ITS FALSE NEIGHBOUR: 'it returns false'. Refute it at one input. -/
def constfoldMatchesReferenceWrong : ChangeSpec := { name := "constfoldMatchesReference", fn := fun _ => fun
  | [d] => { results := [.lit (.bool false)], args := [d] }
  | _ => none }
def ConstfoldMatchesReferenceWrongFalsely : Prop := constfoldMatchesReferenceRow.holds Try.pinned (OpenSpec.ofChange constfoldMatchesReferenceWrong)

/-- 'privitylaw31.ConstfoldEvalConstMatchesReference': WHATEVER THE INPUT: true; the input reads as it did. -/
def constfoldEvalConstMatchesReferenceSpec : ChangeSpec := { name := "constfoldEvalConstMatchesReference", fn := fun _ => fun
  | [d] => { results := [.lit (.bool true)], args := [d] }
  | _ => none }
def constfoldEvalConstMatchesReferenceRow : OpenClaim := { program := "ytemlhjlceeiflaa", sum := "74ac08605210b81a3cefe2fb5d81c68a4a8d3e3942259ac9f1bb6f7a41253194", func := "privity/privitylaw31.ConstfoldEvalConstMatchesReference", spec := "constfoldEvalConstMatchesReference", unfollowed := true, recurses := true, loops := true, apart := false }
def ConstfoldEvalConstMatchesReferenceSaid : Prop := constfoldEvalConstMatchesReferenceRow.holds Try.pinned (OpenSpec.ofChange constfoldEvalConstMatchesReferenceSpec)

/-- ITS FALSE NEIGHBOUR: 'it returns false'. Refute it at one input. -/
def constfoldEvalConstMatchesReferenceWrong : ChangeSpec := { name := "constfoldEvalConstMatchesReference", fn := fun _ => fun
  | [d] => { results := [.lit (.bool false)], args := [d] }
  | _ => none }
def ConstfoldEvalConstMatchesReferenceWrongFalsely : Prop := constfoldEvalConstMatchesReferenceRow.holds Try.pinned (OpenSpec.ofChange constfoldEvalConstMatchesReferenceWrong)

/-- 'privitylaw31.ConstfoldLeavesNoConstants': WHATEVER THE INPUT: true; the input reads as it did. -/
def constfoldLeavesNoConstantsSpec : ChangeSpec := { name := "constfoldLeavesNoConstants", fn := fun _ => fun
  | [d] => { results := [.lit (.bool true)], args := [d] }
  | _ => none }
def constfoldLeavesNoConstantsRow : OpenClaim := { program := "ytemlhjlceeiflaa", sum := "74ac08605210b81a3cefe2fb5d81c68a4a8d3e3942259ac9f1bb6f7a41253194", func := "privity/privitylaw31.ConstfoldLeavesNoConstants", spec := "constfoldLeavesNoConstants", unfollowed := true, recurses := true, loops := true, apart := false }
def ConstfoldLeavesNoConstantsSaid : Prop := constfoldLeavesNoConstantsRow.holds Try.pinned (OpenSpec.ofChange constfoldLeavesNoConstantsSpec)

/-- ITS FALSE NEIGHBOUR: 'it returns false'. Refute it at one input. -/
def constfoldLeavesNoConstantsWrong : ChangeSpec := { name := "constfoldLeavesNoConstants", fn := fun _ => fun
  | [d] => { results := [.lit (.bool false)], args := [d] }
  | _ => none }
def ConstfoldLeavesNoConstantsWrongFalsely : Prop := constfoldLeavesNoConstantsRow.holds Try.pinned (OpenSpec.ofChange constfoldLeavesNoConstantsWrong)

/-- 'privitylaw31.ConstfoldIsLocal': WHATEVER THE INPUT: true; the input reads as it did. -/
def constfoldIsLocalSpec : ChangeSpec := { name := "constfoldIsLocal", fn := fun _ => fun
  | [d1, d2] => { results := [.lit (.bool true)], args := [d1, d2] }
  | _ => none }
def constfoldIsLocalRow : OpenClaim := { program := "ytemlhjlceeiflaa", sum := "74ac08605210b81a3cefe2fb5d81c68a4a8d3e3942259ac9f1bb6f7a41253194", func := "privity/privitylaw31.ConstfoldIsLocal", spec := "constfoldIsLocal", unfollowed := true, recurses := true, loops := true, apart := false }
def ConstfoldIsLocalSaid : Prop := constfoldIsLocalRow.holds Try.pinned (OpenSpec.ofChange constfoldIsLocalSpec)

/-- ITS FALSE NEIGHBOUR: 'it returns false'. Refute it at one input. -/
def constfoldIsLocalWrong : ChangeSpec := { name := "constfoldIsLocal", fn := fun _ => fun
  | [d1, d2] => { results := [.lit (.bool false)], args := [d1, d2] }
  | _ => none }
def ConstfoldIsLocalWrongFalsely : Prop := constfoldIsLocalRow.holds Try.pinned (OpenSpec.ofChange constfoldIsLocalWrong)

/-- 'privitylaw31.ConstfoldIsIdempotent': WHATEVER THE INPUT: true; the input reads as it did. -/
def constfoldIsIdempotentSpec : ChangeSpec := { name := "constfoldIsIdempotent", fn := fun _ => fun
  | [d] => { results := [.lit (.bool true)], args := [d] }
  | _ => none }
def constfoldIsIdempotentRow : OpenClaim := { program := "ytemlhjlceeiflaa", sum := "74ac08605210b81a3cefe2fb5d81c68a4a8d3e3942259ac9f1bb6f7a41253194", func := "privity/privitylaw31.ConstfoldIsIdempotent", spec := "constfoldIsIdempotent", unfollowed := true, recurses := true, loops := true, apart := false }
def ConstfoldIsIdempotentSaid : Prop := constfoldIsIdempotentRow.holds Try.pinned (OpenSpec.ofChange constfoldIsIdempotentSpec)

/-- ITS FALSE NEIGHBOUR: 'it returns false'. Refute it at one input. -/
def constfoldIsIdempotentWrong : ChangeSpec := { name := "constfoldIsIdempotent", fn := fun _ => fun
  | [d] => { results := [.lit (.bool false)], args := [d] }
  | _ => none }
def ConstfoldIsIdempotentWrongFalsely : Prop := constfoldIsIdempotentRow.holds Try.pinned (OpenSpec.ofChange constfoldIsIdempotentWrong)

/- THE SECOND FORM. 'bulk': how many values and letters a reading holds, each counted each time it is reached (what is shared counts as often as it is met; a slice's spare places count too). A statement '..UptoSaid' is the law's where the arguments, and the package variables that the reading takes, are together of bulk at most 1048576: NARROWER than '..Said'. Prove '..Said' where nothing that the law and all that it calls make is longer than what came in: it says more and counts as full. Else prove '..UptoSaid'. A law counts once. -/
mutual
def uptoBulk {H : Type} : DataW H → Nat
  | .lit (.string bytes) => bytes.length + 1
  | .lit _ => 1
  | .nil => 1
  | .ptr d => uptoBulk d + 1
  | .slice elems spare => uptoBulkAll elems + uptoBulkAll spare + 1
  | .agg parts => uptoBulkAll parts + 1
  | .iface _ d => uptoBulk d + 1
  | .map entries => uptoBulkEntries entries + 1
  | .held _ => 1
def uptoBulkAll {H : Type} : List (DataW H) → Nat
  | [] => 0
  | d :: r => uptoBulk d + uptoBulkAll r
def uptoBulkEntries {H : Type} : List (Lit × DataW H) → Nat
  | [] => 0
  | x :: r => uptoBulkEntry x + uptoBulkEntries r
def uptoBulkEntry {H : Type} : Lit × DataW H → Nat
  | (.string bytes, d) => bytes.length + uptoBulk d + 1
  | (_, d) => uptoBulk d + 1
 end
def uptoSmall : (H : Type) → List (DataW H) → Bool := fun _ ds => decide (uptoBulkAll ds ≤ 1048576)
def OpenSpec.upto (s : _root_.Go.ChangeSpec) : _root_.Go.OpenSpec := { _root_.Go.OpenSpec.ofChange s with cond := some uptoSmall }

/-- 'privitylaw31.ConstfoldMatchesReference', WHERE WHAT IT READS IS OF BULK AT MOST 1048576: true; the input reads as it did. -/
def constfoldMatchesReferenceUptoRow : OpenClaim := { program := "ytemlhjlceeiflaa", sum := "74ac08605210b81a3cefe2fb5d81c68a4a8d3e3942259ac9f1bb6f7a41253194", func := "privity/privitylaw31.ConstfoldMatchesReference", spec := "constfoldMatchesReference", unfollowed := true, recurses := true, loops := true, apart := false, narrowed := true }
def ConstfoldMatchesReferenceUptoSaid : Prop := constfoldMatchesReferenceUptoRow.holds Try.pinned (OpenSpec.upto constfoldMatchesReferenceSpec)

/-- 'privitylaw31.ConstfoldEvalConstMatchesReference', WHERE WHAT IT READS IS OF BULK AT MOST 1048576: true; the input reads as it did. -/
def constfoldEvalConstMatchesReferenceUptoRow : OpenClaim := { program := "ytemlhjlceeiflaa", sum := "74ac08605210b81a3cefe2fb5d81c68a4a8d3e3942259ac9f1bb6f7a41253194", func := "privity/privitylaw31.ConstfoldEvalConstMatchesReference", spec := "constfoldEvalConstMatchesReference", unfollowed := true, recurses := true, loops := true, apart := false, narrowed := true }
def ConstfoldEvalConstMatchesReferenceUptoSaid : Prop := constfoldEvalConstMatchesReferenceUptoRow.holds Try.pinned (OpenSpec.upto constfoldEvalConstMatchesReferenceSpec)

/-- 'privitylaw31.ConstfoldLeavesNoConstants', WHERE WHAT IT READS IS OF BULK AT MOST 1048576: true; the input reads as it did. -/
def constfoldLeavesNoConstantsUptoRow : OpenClaim := { program := "ytemlhjlceeiflaa", sum := "74ac08605210b81a3cefe2fb5d81c68a4a8d3e3942259ac9f1bb6f7a41253194", func := "privity/privitylaw31.ConstfoldLeavesNoConstants", spec := "constfoldLeavesNoConstants", unfollowed := true, recurses := true, loops := true, apart := false, narrowed := true }
def ConstfoldLeavesNoConstantsUptoSaid : Prop := constfoldLeavesNoConstantsUptoRow.holds Try.pinned (OpenSpec.upto constfoldLeavesNoConstantsSpec)

/-- 'privitylaw31.ConstfoldIsLocal', WHERE WHAT IT READS IS OF BULK AT MOST 1048576: true; the input reads as it did. -/
def constfoldIsLocalUptoRow : OpenClaim := { program := "ytemlhjlceeiflaa", sum := "74ac08605210b81a3cefe2fb5d81c68a4a8d3e3942259ac9f1bb6f7a41253194", func := "privity/privitylaw31.ConstfoldIsLocal", spec := "constfoldIsLocal", unfollowed := true, recurses := true, loops := true, apart := false, narrowed := true }
def ConstfoldIsLocalUptoSaid : Prop := constfoldIsLocalUptoRow.holds Try.pinned (OpenSpec.upto constfoldIsLocalSpec)

/-- 'privitylaw31.ConstfoldIsIdempotent', WHERE WHAT IT READS IS OF BULK AT MOST 1048576: true; the input reads as it did. -/
def constfoldIsIdempotentUptoRow : OpenClaim := { program := "ytemlhjlceeiflaa", sum := "74ac08605210b81a3cefe2fb5d81c68a4a8d3e3942259ac9f1bb6f7a41253194", func := "privity/privitylaw31.ConstfoldIsIdempotent", spec := "constfoldIsIdempotent", unfollowed := true, recurses := true, loops := true, apart := false, narrowed := true }
def ConstfoldIsIdempotentUptoSaid : Prop := constfoldIsIdempotentUptoRow.holds Try.pinned (OpenSpec.upto constfoldIsIdempotentSpec)

end Rows
end Go.Proofs.Ytemlhjlceeiflaa
