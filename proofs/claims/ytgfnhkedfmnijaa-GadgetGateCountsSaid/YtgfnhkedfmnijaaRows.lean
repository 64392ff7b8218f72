/-
  No cell of these rows narrows 'for every input' (looked for: loops, veiled, ifaces, maps, wideKeys, modest, calm, conditions, laid).
  DERIVED. THE GIVEN ROWS OF THIS SEAT. 7 by the template 'for every input the law returns true; each argument reads behind the call as it read before'; 0 by the template 'total and deterministic' (their statements: YtgfnhkedfmnijaaTotals.lean).
  GIVEN WITH THE SEED: the statements are not yours to turn. If you find one false, say at which input.
  Laid BY PROGRAM, IN A SANDBOX (cutbox-rows.mjs): the forced cells as the released guide's own fill.sh prints them over the translation 79e13e94ad23066e… (all of the seat's roots in one cut). By AI agents, Wed Nov 11 2026. No macro, syntax, notation, axiom, sorry.
-/
import Derived.Test.YtgfnhkedfmnijaaChecked
import GoSem.Claim
import GoSem.ClaimJoined
import GoSem.ClaimMapViews
import Derived.JoinedTies
import Derived.KernelRfl
namespace Go.Proofs.Ytgfnhkedfmnijaa
/- THE CELL 'sum', in the pinned program and in every row, IS THE sha256 OF THE DUMP (.gsa) THAT YtgfnhkedfmnijaaProg.lean LOADS. Nothing in Lean hashes anything: it is a label: what it is worth is what the hold of that sum in a sandbox is worth. -/
noncomputable def Try.pinned : Pinned := { name := "ytgfnhkedfmnijaa", sum := "79e13e94ad23066edb4704b6b2e868cc413e1abcb56dbd3a687da7460b8bba54", checked := Try.checked }
namespace Rows
def none {H : Type} : Left H := { results := [], args := [] }

/-- 'privitylaw34.GadgetFieldGates': WHATEVER THE INPUT: true; the input reads as it did. -/
def gadgetFieldGatesSpec : ChangeSpec := { name := "gadgetFieldGates", fn := fun _ => fun
  | [d1, d2, d3] => { results := [.lit (.bool true)], args := [d1, d2, d3] }
  | _ => none }
def gadgetFieldGatesRow : OpenClaim := { program := "ytgfnhkedfmnijaa", sum := "79e13e94ad23066edb4704b6b2e868cc413e1abcb56dbd3a687da7460b8bba54", func := "privity/privitylaw34.GadgetFieldGates", spec := "gadgetFieldGates", inPlace := ["math/bits.Add64"], apart := false }
def GadgetFieldGatesSaid : Prop := gadgetFieldGatesRow.holds Try.pinned (OpenSpec.ofChange gadgetFieldGatesSpec)

/-- ITS FALSE NEIGHBOUR: 'it returns false'. Refute it at one input. -/
def gadgetFieldGatesWrong : ChangeSpec := { name := "gadgetFieldGates", fn := fun _ => fun
  | [d1, d2, d3] => { results := [.lit (.bool false)], args := [d1, d2, d3] }
  | _ => none }
def GadgetFieldGatesWrongFalsely : Prop := gadgetFieldGatesRow.holds Try.pinned (OpenSpec.ofChange gadgetFieldGatesWrong)

/-- 'privitylaw34.GadgetInputOrder': WHATEVER THE INPUT: true; the input reads as it did. -/
def gadgetInputOrderSpec : ChangeSpec := { name := "gadgetInputOrder", fn := fun _ => fun
  | [d1, d2, d3] => { results := [.lit (.bool true)], args := [d1, d2, d3] }
  | _ => none }
def gadgetInputOrderRow : OpenClaim := { program := "ytgfnhkedfmnijaa", sum := "79e13e94ad23066edb4704b6b2e868cc413e1abcb56dbd3a687da7460b8bba54", func := "privity/privitylaw34.GadgetInputOrder", spec := "gadgetInputOrder", inPlace := ["math/bits.Add64"], apart := false }
def GadgetInputOrderSaid : Prop := gadgetInputOrderRow.holds Try.pinned (OpenSpec.ofChange gadgetInputOrderSpec)

/-- ITS FALSE NEIGHBOUR: 'it returns false'. Refute it at one input. -/
def gadgetInputOrderWrong : ChangeSpec := { name := "gadgetInputOrder", fn := fun _ => fun
  | [d1, d2, d3] => { results := [.lit (.bool false)], args := [d1, d2, d3] }
  | _ => none }
def GadgetInputOrderWrongFalsely : Prop := gadgetInputOrderRow.holds Try.pinned (OpenSpec.ofChange gadgetInputOrderWrong)

/-- 'privitylaw34.GadgetCircuitSnapshots': WHATEVER THE INPUT: true; the input reads as it did. -/
def gadgetCircuitSnapshotsSpec : ChangeSpec := { name := "gadgetCircuitSnapshots", fn := fun _ => fun
  | [d1, d2] => { results := [.lit (.bool true)], args := [d1, d2] }
  | _ => none }
def gadgetCircuitSnapshotsRow : OpenClaim := { program := "ytgfnhkedfmnijaa", sum := "79e13e94ad23066edb4704b6b2e868cc413e1abcb56dbd3a687da7460b8bba54", func := "privity/privitylaw34.GadgetCircuitSnapshots", spec := "gadgetCircuitSnapshots", inPlace := ["math/bits.Add64"], apart := false }
def GadgetCircuitSnapshotsSaid : Prop := gadgetCircuitSnapshotsRow.holds Try.pinned (OpenSpec.ofChange gadgetCircuitSnapshotsSpec)

/-- ITS FALSE NEIGHBOUR: 'it returns false'. Refute it at one input. -/
def gadgetCircuitSnapshotsWrong : ChangeSpec := { name := "gadgetCircuitSnapshots", fn := fun _ => fun
  | [d1, d2] => { results := [.lit (.bool false)], args := [d1, d2] }
  | _ => none }
def GadgetCircuitSnapshotsWrongFalsely : Prop := gadgetCircuitSnapshotsRow.holds Try.pinned (OpenSpec.ofChange gadgetCircuitSnapshotsWrong)

/-- 'privitylaw34.GadgetBooleanGates': WHATEVER THE INPUT: true; the input reads as it did. -/
def gadgetBooleanGatesSpec : ChangeSpec := { name := "gadgetBooleanGates", fn := fun _ => fun
  | [d1, d2, d3] => { results := [.lit (.bool true)], args := [d1, d2, d3] }
  | _ => none }
def gadgetBooleanGatesRow : OpenClaim := { program := "ytgfnhkedfmnijaa", sum := "79e13e94ad23066edb4704b6b2e868cc413e1abcb56dbd3a687da7460b8bba54", func := "privity/privitylaw34.GadgetBooleanGates", spec := "gadgetBooleanGates", inPlace := ["math/bits.Add64"], apart := false }
def GadgetBooleanGatesSaid : Prop := gadgetBooleanGatesRow.holds Try.pinned (OpenSpec.ofChange gadgetBooleanGatesSpec)

/-- ITS FALSE NEIGHBOUR: 'it returns false'. Refute it at one input. -/
def gadgetBooleanGatesWrong : ChangeSpec := { name := "gadgetBooleanGates", fn := fun _ => fun
  | [d1, d2, d3] => { results := [.lit (.bool false)], args := [d1, d2, d3] }
  | _ => none }
def GadgetBooleanGatesWrongFalsely : Prop := gadgetBooleanGatesRow.holds Try.pinned (OpenSpec.ofChange gadgetBooleanGatesWrong)

/-- 'privitylaw34.GadgetComparisons': WHATEVER THE INPUT: true; the input reads as it did. -/
def gadgetComparisonsSpec : ChangeSpec := { name := "gadgetComparisons", fn := fun _ => fun
  | [d1, d2, d3] => { results := [.lit (.bool true)], args := [d1, d2, d3] }
  | _ => none }
def gadgetComparisonsRow : OpenClaim := { program := "ytgfnhkedfmnijaa", sum := "79e13e94ad23066edb4704b6b2e868cc413e1abcb56dbd3a687da7460b8bba54", func := "privity/privitylaw34.GadgetComparisons", spec := "gadgetComparisons", inPlace := ["math/bits.Add64"], unfollowed := true, recurses := true, apart := false }
def GadgetComparisonsSaid : Prop := gadgetComparisonsRow.holds Try.pinned (OpenSpec.ofChange gadgetComparisonsSpec)

/-- ITS FALSE NEIGHBOUR: 'it returns false'. Refute it at one input. -/
def gadgetComparisonsWrong : ChangeSpec := { name := "gadgetComparisons", fn := fun _ => fun
  | [d1, d2, d3] => { results := [.lit (.bool false)], args := [d1, d2, d3] }
  | _ => none }
def GadgetComparisonsWrongFalsely : Prop := gadgetComparisonsRow.holds Try.pinned (OpenSpec.ofChange gadgetComparisonsWrong)

/-- 'privitylaw34.GadgetBitArithmetic': WHATEVER THE INPUT: true; the input reads as it did. -/
def gadgetBitArithmeticSpec : ChangeSpec := { name := "gadgetBitArithmetic", fn := fun _ => fun
  | [d1, d2, d3] => { results := [.lit (.bool true)], args := [d1, d2, d3] }
  | _ => none }
def gadgetBitArithmeticRow : OpenClaim := { program := "ytgfnhkedfmnijaa", sum := "79e13e94ad23066edb4704b6b2e868cc413e1abcb56dbd3a687da7460b8bba54", func := "privity/privitylaw34.GadgetBitArithmetic", spec := "gadgetBitArithmetic", inPlace := ["math/bits.Add64"], unfollowed := true, recurses := true, apart := false }
def GadgetBitArithmeticSaid : Prop := gadgetBitArithmeticRow.holds Try.pinned (OpenSpec.ofChange gadgetBitArithmeticSpec)

/-- ITS FALSE NEIGHBOUR: 'it returns false'. Refute it at one input. -/
def gadgetBitArithmeticWrong : ChangeSpec := { name := "gadgetBitArithmetic", fn := fun _ => fun
  | [d1, d2, d3] => { results := [.lit (.bool false)], args := [d1, d2, d3] }
  | _ => none }
def GadgetBitArithmeticWrongFalsely : Prop := gadgetBitArithmeticRow.holds Try.pinned (OpenSpec.ofChange gadgetBitArithmeticWrong)

/-- 'privitylaw34.GadgetGateCounts': WHATEVER THE INPUT: true; the input reads as it did. -/
def gadgetGateCountsSpec : ChangeSpec := { name := "gadgetGateCounts", fn := fun _ => fun
  | [d1, d2, d3] => { results := [.lit (.bool true)], args := [d1, d2, d3] }
  | _ => none }
def gadgetGateCountsRow : OpenClaim := { program := "ytgfnhkedfmnijaa", sum := "79e13e94ad23066edb4704b6b2e868cc413e1abcb56dbd3a687da7460b8bba54", func := "privity/privitylaw34.GadgetGateCounts", spec := "gadgetGateCounts", inPlace := ["math/bits.Add64"], unfollowed := true, recurses := true, apart := false }
def GadgetGateCountsSaid : Prop := gadgetGateCountsRow.holds Try.pinned (OpenSpec.ofChange gadgetGateCountsSpec)

/-- ITS FALSE NEIGHBOUR: 'it returns false'. Refute it at one input. -/
def gadgetGateCountsWrong : ChangeSpec := { name := "gadgetGateCounts", fn := fun _ => fun
  | [d1, d2, d3] => { results := [.lit (.bool false)], args := [d1, d2, d3] }
  | _ => none }
def GadgetGateCountsWrongFalsely : Prop := gadgetGateCountsRow.holds Try.pinned (OpenSpec.ofChange gadgetGateCountsWrong)

/- THE SECOND FORM. 'bulk': how many values and letters a reading holds, each counted each time it is reached (what is shared counts as often as it is met; a slice's spare places count too). A statement '..UptoSaid' is the law's where the arguments, and the package variables that the reading takes, are together of bulk at most 1048576: NARROWER than '..Said'. Prove '..Said' where nothing that the law and all that it calls make is longer than what came in: it says more and counts as full. Else prove '..UptoSaid'. A law counts once. -/
mutual
def uptoBulk {H : Type} : DataW H → Nat
  | .lit (.string bytes) => bytes.length + 1
  | .lit _ => 1
  | .nil => 1
  | .ptr d => uptoBulk d + 1
  | .slice elems spare => uptoBulkAll elems + uptoBulkAll spare + 1
  | .agg parts => uptoBulkAll parts + 1
  | .iface _ d => uptoBulk d + 1
  | .map entries => uptoBulkEntries entries + 1
  | .held _ => 1
def uptoBulkAll {H : Type} : List (DataW H) → Nat
  | [] => 0
  | d :: r => uptoBulk d + uptoBulkAll r
def uptoBulkEntries {H : Type} : List (Lit × DataW H) → Nat
  | [] => 0
  | x :: r => uptoBulkEntry x + uptoBulkEntries r
def uptoBulkEntry {H : Type} : Lit × DataW H → Nat
  | (.string bytes, d) => bytes.length + uptoBulk d + 1
  | (_, d) => uptoBulk d + 1
 end
def uptoSmall : (H : Type) → List (DataW H) → Bool := fun _ ds => decide (uptoBulkAll ds ≤ 1048576)
def OpenSpec.upto (s : _root_.Go.ChangeSpec) : _root_.Go.OpenSpec := { _root_.Go.OpenSpec.ofChange s with cond := some uptoSmall }

/-- 'privitylaw34.GadgetFieldGates', WHERE WHAT IT READS IS OF BULK AT MOST 1048576: true; the input reads as it did. -/
def gadgetFieldGatesUptoRow : OpenClaim := { program := "ytgfnhkedfmnijaa", sum := "79e13e94ad23066edb4704b6b2e868cc413e1abcb56dbd3a687da7460b8bba54", func := "privity/privitylaw34.GadgetFieldGates", spec := "gadgetFieldGates", inPlace := ["math/bits.Add64"], apart := false, narrowed := true }
def GadgetFieldGatesUptoSaid : Prop := gadgetFieldGatesUptoRow.holds Try.pinned (OpenSpec.upto gadgetFieldGatesSpec)

/-- 'privitylaw34.GadgetInputOrder', WHERE WHAT IT READS IS OF BULK AT MOST 1048576: true; the input reads as it did. -/
def gadgetInputOrderUptoRow : OpenClaim := { program := "ytgfnhkedfmnijaa", sum := "79e13e94ad23066edb4704b6b2e868cc413e1abcb56dbd3a687da7460b8bba54", func := "privity/privitylaw34.GadgetInputOrder", spec := "gadgetInputOrder", inPlace := ["math/bits.Add64"], apart := false, narrowed := true }
def GadgetInputOrderUptoSaid : Prop := gadgetInputOrderUptoRow.holds Try.pinned (OpenSpec.upto gadgetInputOrderSpec)

/-- 'privitylaw34.GadgetCircuitSnapshots', WHERE WHAT IT READS IS OF BULK AT MOST 1048576: true; the input reads as it did. -/
def gadgetCircuitSnapshotsUptoRow : OpenClaim := { program := "ytgfnhkedfmnijaa", sum := "79e13e94ad23066edb4704b6b2e868cc413e1abcb56dbd3a687da7460b8bba54", func := "privity/privitylaw34.GadgetCircuitSnapshots", spec := "gadgetCircuitSnapshots", inPlace := ["math/bits.Add64"], apart := false, narrowed := true }
def GadgetCircuitSnapshotsUptoSaid : Prop := gadgetCircuitSnapshotsUptoRow.holds Try.pinned (OpenSpec.upto gadgetCircuitSnapshotsSpec)

/-- 'privitylaw34.GadgetBooleanGates', WHERE WHAT IT READS IS OF BULK AT MOST 1048576: true; the input reads as it did. -/
def gadgetBooleanGatesUptoRow : OpenClaim := { program := "ytgfnhkedfmnijaa", sum := "79e13e94ad23066edb4704b6b2e868cc413e1abcb56dbd3a687da7460b8bba54", func := "privity/privitylaw34.GadgetBooleanGates", spec := "gadgetBooleanGates", inPlace := ["math/bits.Add64"], apart := false, narrowed := true }
def GadgetBooleanGatesUptoSaid : Prop := gadgetBooleanGatesUptoRow.holds Try.pinned (OpenSpec.upto gadgetBooleanGatesSpec)

/-- 'privitylaw34.GadgetComparisons', WHERE WHAT IT READS IS OF BULK AT MOST 1048576: true; the input reads as it did. -/
def gadgetComparisonsUptoRow : OpenClaim := { program := "ytgfnhkedfmnijaa", sum := "79e13e94ad23066edb4704b6b2e868cc413e1abcb56dbd3a687da7460b8bba54", func := "privity/privitylaw34.GadgetComparisons", spec := "gadgetComparisons", inPlace := ["math/bits.Add64"], unfollowed := true, recurses := true, apart := false, narrowed := true }
def GadgetComparisonsUptoSaid : Prop := gadgetComparisonsUptoRow.holds Try.pinned (OpenSpec.upto gadgetComparisonsSpec)

/-- 'privitylaw34.GadgetBitArithmetic', WHERE WHAT IT READS IS OF BULK AT MOST 1048576: true; the input reads as it did. -/
def gadgetBitArithmeticUptoRow : OpenClaim := { program := "ytgfnhkedfmnijaa", sum := "79e13e94ad23066edb4704b6b2e868cc413e1abcb56dbd3a687da7460b8bba54", func := "privity/privitylaw34.GadgetBitArithmetic", spec := "gadgetBitArithmetic", inPlace := ["math/bits.Add64"], unfollowed := true, recurses := true, apart := false, narrowed := true }
def GadgetBitArithmeticUptoSaid : Prop := gadgetBitArithmeticUptoRow.holds Try.pinned (OpenSpec.upto gadgetBitArithmeticSpec)

/-- 'privitylaw34.GadgetGateCounts', WHERE WHAT IT READS IS OF BULK AT MOST 1048576: true; the input reads as it did. -/
def gadgetGateCountsUptoRow : OpenClaim := { program := "ytgfnhkedfmnijaa", sum := "79e13e94ad23066edb4704b6b2e868cc413e1abcb56dbd3a687da7460b8bba54", func := "privity/privitylaw34.GadgetGateCounts", spec := "gadgetGateCounts", inPlace := ["math/bits.Add64"], unfollowed := true, recurses := true, apart := false, narrowed := true }
def GadgetGateCountsUptoSaid : Prop := gadgetGateCountsUptoRow.holds Try.pinned (OpenSpec.upto gadgetGateCountsSpec)

end Rows
end Go.Proofs.Ytgfnhkedfmnijaa
