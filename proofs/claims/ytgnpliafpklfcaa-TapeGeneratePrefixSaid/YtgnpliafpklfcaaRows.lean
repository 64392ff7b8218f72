/-
  No cell of these rows narrows 'for every input' (looked for: loops, veiled, ifaces, maps, wideKeys, modest, calm, conditions, laid).
  DERIVED. THE GIVEN ROWS OF THIS SEAT. 5 by the template 'for every input the law returns true; each argument reads behind the call as it read before'; 0 by the template 'total and deterministic' (their statements: YtgnpliafpklfcaaTotals.lean).
  GIVEN WITH THE SEED: the statements are not yours to turn. If you find one false, say at which input.
  Laid BY PROGRAM, IN A SANDBOX (cutbox-rows.mjs): the forced cells as the released guide's own fill.sh prints them over the translation 3fe69648becfe8f1… (all of the seat's roots in one cut). By AI agents, Wed Nov 11 2026. No macro, syntax, notation, axiom, sorry.
-/
import Derived.Test.YtgnpliafpklfcaaChecked
import GoSem.Claim
import GoSem.ClaimJoined
import GoSem.ClaimMapViews
import Derived.JoinedTies
import Derived.KernelRfl
namespace Go.Proofs.Ytgnpliafpklfcaa
/- THE CELL 'sum', in the pinned program and in every row, IS THE sha256 OF THE DUMP (.gsa) THAT YtgnpliafpklfcaaProg.lean LOADS. Nothing in Lean hashes anything: it is a label: what it is worth is what the hold of that sum in a sandbox is worth. -/
noncomputable def Try.pinned : Pinned := { name := "ytgnpliafpklfcaa", sum := "3fe69648becfe8f11bc4ebfa5dc69b37cd33898a4b52d299b93b93ed9d48282e", checked := Try.checked }
namespace Rows
def none {H : Type} : Left H := { results := [], args := [] }

/-- 'privitylaw11.TapeTake': WHATEVER THE INPUT: true; the input reads as it did. -/
def tapeTakeSpec : ChangeSpec := { name := "tapeTake", fn := fun _ => fun
  | [d1, d2] => { results := [.lit (.bool true)], args := [d1, d2] }
  | _ => none }
def tapeTakeRow : OpenClaim := { program := "ytgnpliafpklfcaa", sum := "3fe69648becfe8f11bc4ebfa5dc69b37cd33898a4b52d299b93b93ed9d48282e", func := "privity/privitylaw11.TapeTake", spec := "tapeTake", apart := false }
def TapeTakeSaid : Prop := tapeTakeRow.holds Try.pinned (OpenSpec.ofChange tapeTakeSpec)

/-- ITS FALSE NEIGHBOUR: 'it returns false'. Refute it at one input. -/
def tapeTakeWrong : ChangeSpec := { name := "tapeTake", fn := fun _ => fun
  | [d1, d2] => { results := [.lit (.bool false)], args := [d1, d2] }
  | _ => none }
def TapeTakeWrongFalsely : Prop := tapeTakeRow.holds Try.pinned (OpenSpec.ofChange tapeTakeWrong)

/-- 'privitylaw11.TapeTakeSplit': WHATEVER THE INPUT: true; the input reads as it did. -/
def tapeTakeSplitSpec : ChangeSpec := { name := "tapeTakeSplit", fn := fun _ => fun
  | [d1, d2, d3] => { results := [.lit (.bool true)], args := [d1, d2, d3] }
  | _ => none }
def tapeTakeSplitRow : OpenClaim := { program := "ytgnpliafpklfcaa", sum := "3fe69648becfe8f11bc4ebfa5dc69b37cd33898a4b52d299b93b93ed9d48282e", func := "privity/privitylaw11.TapeTakeSplit", spec := "tapeTakeSplit", apart := false }
def TapeTakeSplitSaid : Prop := tapeTakeSplitRow.holds Try.pinned (OpenSpec.ofChange tapeTakeSplitSpec)

/-- ITS FALSE NEIGHBOUR: 'it returns false'. Refute it at one input. -/
def tapeTakeSplitWrong : ChangeSpec := { name := "tapeTakeSplit", fn := fun _ => fun
  | [d1, d2, d3] => { results := [.lit (.bool false)], args := [d1, d2, d3] }
  | _ => none }
def TapeTakeSplitWrongFalsely : Prop := tapeTakeSplitRow.holds Try.pinned (OpenSpec.ofChange tapeTakeSplitWrong)

/-- 'privitylaw11.TapeTakeFails': WHATEVER THE INPUT: true; the input reads as it did. -/
def tapeTakeFailsSpec : ChangeSpec := { name := "tapeTakeFails", fn := fun _ => fun
  | [d1, d2, d3] => { results := [.lit (.bool true)], args := [d1, d2, d3] }
  | _ => none }
def tapeTakeFailsRow : OpenClaim := { program := "ytgnpliafpklfcaa", sum := "3fe69648becfe8f11bc4ebfa5dc69b37cd33898a4b52d299b93b93ed9d48282e", func := "privity/privitylaw11.TapeTakeFails", spec := "tapeTakeFails", apart := false }
def TapeTakeFailsSaid : Prop := tapeTakeFailsRow.holds Try.pinned (OpenSpec.ofChange tapeTakeFailsSpec)

/-- ITS FALSE NEIGHBOUR: 'it returns false'. Refute it at one input. -/
def tapeTakeFailsWrong : ChangeSpec := { name := "tapeTakeFails", fn := fun _ => fun
  | [d1, d2, d3] => { results := [.lit (.bool false)], args := [d1, d2, d3] }
  | _ => none }
def TapeTakeFailsWrongFalsely : Prop := tapeTakeFailsRow.holds Try.pinned (OpenSpec.ofChange tapeTakeFailsWrong)

/-- 'privitylaw11.TapeGenerate': WHATEVER THE INPUT: true; the input reads as it did. -/
def tapeGenerateSpec : ChangeSpec := { name := "tapeGenerate", fn := fun _ => fun
  | [d1, d2, d3] => { results := [.lit (.bool true)], args := [d1, d2, d3] }
  | _ => none }
def tapeGenerateRow : OpenClaim := { program := "ytgnpliafpklfcaa", sum := "3fe69648becfe8f11bc4ebfa5dc69b37cd33898a4b52d299b93b93ed9d48282e", func := "privity/privitylaw11.TapeGenerate", spec := "tapeGenerate", inPlace := ["math/bits.Add64"], apart := false }
def TapeGenerateSaid : Prop := tapeGenerateRow.holds Try.pinned (OpenSpec.ofChange tapeGenerateSpec)

/-- ITS FALSE NEIGHBOUR: 'it returns false'. Refute it at one input. -/
def tapeGenerateWrong : ChangeSpec := { name := "tapeGenerate", fn := fun _ => fun
  | [d1, d2, d3] => { results := [.lit (.bool false)], args := [d1, d2, d3] }
  | _ => none }
def TapeGenerateWrongFalsely : Prop := tapeGenerateRow.holds Try.pinned (OpenSpec.ofChange tapeGenerateWrong)

/-- 'privitylaw11.TapeGeneratePrefix': WHATEVER THE INPUT: true; the input reads as it did. -/
def tapeGeneratePrefixSpec : ChangeSpec := { name := "tapeGeneratePrefix", fn := fun _ => fun
  | [d1, d2, d3] => { results := [.lit (.bool true)], args := [d1, d2, d3] }
  | _ => none }
def tapeGeneratePrefixRow : OpenClaim := { program := "ytgnpliafpklfcaa", sum := "3fe69648becfe8f11bc4ebfa5dc69b37cd33898a4b52d299b93b93ed9d48282e", func := "privity/privitylaw11.TapeGeneratePrefix", spec := "tapeGeneratePrefix", inPlace := ["math/bits.Add64"], apart := false }
def TapeGeneratePrefixSaid : Prop := tapeGeneratePrefixRow.holds Try.pinned (OpenSpec.ofChange tapeGeneratePrefixSpec)

/-- ITS FALSE NEIGHBOUR: 'it returns false'. Refute it at one input. -/
def tapeGeneratePrefixWrong : ChangeSpec := { name := "tapeGeneratePrefix", fn := fun _ => fun
  | [d1, d2, d3] => { results := [.lit (.bool false)], args := [d1, d2, d3] }
  | _ => none }
def TapeGeneratePrefixWrongFalsely : Prop := tapeGeneratePrefixRow.holds Try.pinned (OpenSpec.ofChange tapeGeneratePrefixWrong)

/- THE SECOND FORM. 'bulk': how many values and letters a reading holds, each counted each time it is reached (what is shared counts as often as it is met; a slice's spare places count too). A statement '..UptoSaid' is the law's where the arguments, and the package variables that the reading takes, are together of bulk at most 1048576: NARROWER than '..Said'. Prove '..Said' where nothing that the law and all that it calls make is longer than what came in: it says more and counts as full. Else prove '..UptoSaid'. A law counts once. -/
mutual
def uptoBulk {H : Type} : DataW H → Nat
  | .lit (.string bytes) => bytes.length + 1
  | .lit _ => 1
  | .nil => 1
  | .ptr d => uptoBulk d + 1
  | .slice elems spare => uptoBulkAll elems + uptoBulkAll spare + 1
  | .agg parts => uptoBulkAll parts + 1
  | .iface _ d => uptoBulk d + 1
  | .map entries => uptoBulkEntries entries + 1
  | .held _ => 1
def uptoBulkAll {H : Type} : List (DataW H) → Nat
  | [] => 0
  | d :: r => uptoBulk d + uptoBulkAll r
def uptoBulkEntries {H : Type} : List (Lit × DataW H) → Nat
  | [] => 0
  | x :: r => uptoBulkEntry x + uptoBulkEntries r
def uptoBulkEntry {H : Type} : Lit × DataW H → Nat
  | (.string bytes, d) => bytes.length + uptoBulk d + 1
  | (_, d) => uptoBulk d + 1
 end
def uptoSmall : (H : Type) → List (DataW H) → Bool := fun _ ds => decide (uptoBulkAll ds ≤ 1048576)
def OpenSpec.upto (s : _root_.Go.ChangeSpec) : _root_.Go.OpenSpec := { _root_.Go.OpenSpec.ofChange s with cond := some uptoSmall }

/-- 'privitylaw11.TapeTake', WHERE WHAT IT READS IS OF BULK AT MOST 1048576: true; the input reads as it did. -/
def tapeTakeUptoRow : OpenClaim := { program := "ytgnpliafpklfcaa", sum := "3fe69648becfe8f11bc4ebfa5dc69b37cd33898a4b52d299b93b93ed9d48282e", func := "privity/privitylaw11.TapeTake", spec := "tapeTake", apart := false, narrowed := true }
def TapeTakeUptoSaid : Prop := tapeTakeUptoRow.holds Try.pinned (OpenSpec.upto tapeTakeSpec)

/-- 'privitylaw11.TapeTakeSplit', WHERE WHAT IT READS IS OF BULK AT MOST 1048576: true; the input reads as it did. -/
def tapeTakeSplitUptoRow : OpenClaim := { program := "ytgnpliafpklfcaa", sum := "3fe69648becfe8f11bc4ebfa5dc69b37cd33898a4b52d299b93b93ed9d48282e", func := "privity/privitylaw11.TapeTakeSplit", spec := "tapeTakeSplit", apart := false, narrowed := true }
def TapeTakeSplitUptoSaid : Prop := tapeTakeSplitUptoRow.holds Try.pinned (OpenSpec.upto tapeTakeSplitSpec)

/-- 'privitylaw11.TapeTakeFails', WHERE WHAT IT READS IS OF BULK AT MOST 1048576: true; the input reads as it did. -/
def tapeTakeFailsUptoRow : OpenClaim := { program := "ytgnpliafpklfcaa", sum := "3fe69648becfe8f11bc4ebfa5dc69b37cd33898a4b52d299b93b93ed9d48282e", func := "privity/privitylaw11.TapeTakeFails", spec := "tapeTakeFails", apart := false, narrowed := true }
def TapeTakeFailsUptoSaid : Prop := tapeTakeFailsUptoRow.holds Try.pinned (OpenSpec.upto tapeTakeFailsSpec)

/-- 'privitylaw11.TapeGenerate', WHERE WHAT IT READS IS OF BULK AT MOST 1048576: true; the input reads as it did. -/
def tapeGenerateUptoRow : OpenClaim := { program := "ytgnpliafpklfcaa", sum := "3fe69648becfe8f11bc4ebfa5dc69b37cd33898a4b52d299b93b93ed9d48282e", func := "privity/privitylaw11.TapeGenerate", spec := "tapeGenerate", inPlace := ["math/bits.Add64"], apart := false, narrowed := true }
def TapeGenerateUptoSaid : Prop := tapeGenerateUptoRow.holds Try.pinned (OpenSpec.upto tapeGenerateSpec)

/-- 'privitylaw11.TapeGeneratePrefix', WHERE WHAT IT READS IS OF BULK AT MOST 1048576: true; the input reads as it did. -/
def tapeGeneratePrefixUptoRow : OpenClaim := { program := "ytgnpliafpklfcaa", sum := "3fe69648becfe8f11bc4ebfa5dc69b37cd33898a4b52d299b93b93ed9d48282e", func := "privity/privitylaw11.TapeGeneratePrefix", spec := "tapeGeneratePrefix", inPlace := ["math/bits.Add64"], apart := false, narrowed := true }
def TapeGeneratePrefixUptoSaid : Prop := tapeGeneratePrefixUptoRow.holds Try.pinned (OpenSpec.upto tapeGeneratePrefixSpec)

end Rows
end Go.Proofs.Ytgnpliafpklfcaa
