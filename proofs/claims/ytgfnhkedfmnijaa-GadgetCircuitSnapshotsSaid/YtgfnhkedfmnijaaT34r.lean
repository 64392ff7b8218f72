/- The statement GadgetCircuitSnapshots: for every input the call returns true, and each argument reads as it did. No condition. -/
import Derived.Test.YtgfnhkedfmnijaaRows
import Derived.Test.YtgfnhkedfmnijaaT34b
set_option linter.unusedVariables false
set_option linter.unusedSimpArgs false
namespace Go.Proofs.Ytgfnhkedfmnijaa
open Go.Ab Go.Ab.Ytgfnhkedfmnijaa

theorem own : ownKnob Try.prog.godebug = none := by kernel_rfl
theorem laidOut : laidOutB Try.prog = true := by kernel_rfl

set_option maxRecDepth 100000 in
theorem gadgetCircuitSnapshots_lifted (os : Os) (started : os.Started) (H : Type) (enc : TypeId × Value → H) :
    ReturnsInHanded {} Try.checked os 5 .any (Rows.gadgetCircuitSnapshotsSpec.pre6 enc Try.prog Try.f5 Rows.gadgetCircuitSnapshotsRow.domain false) (Rows.gadgetCircuitSnapshotsSpec.post enc Try.prog Try.f5 false true false false) := by
  refine returnsInHanded_of_change (C := Try.checked) own started (by kernel_rfl) Try.func5
    (ChangeSpec.witness6 (enc := enc) (C := Try.checked) false ⟨#[], #[.int .u64 0, .agg #[.int .u64 0, .int .u64 0]], []⟩ 8 (by kernel_rfl) (by kernel_rfl) (by kernel_rfl) (by kernel_rfl)) ?_
  intro W base args ds gs before hval hW _ _
  refine law_contract (P := Try.prog) (ts := [22, 23]) (tb := 4) callOK laidOut (by kernel_rfl) (by kernel_rfl) (by kernel_rfl) (by kernel_rfl) rfl (fun ds h => ?_) hval hW fun vs hvs => ?_
  · have h : ds.length = 2 := h
    match ds, h with
    | [a, b], _ => rfl
  · have hvs : TyArgs Try.prog [22, 23] vs := hvs
    obtain ⟨a, b, rfl, ha, hb⟩ := args_2v hvs
    obtain ⟨pp, rfl, hp⟩ := arg_u64 (by kernel_rfl) ha
    obtain ⟨l, rfl, hl, hw⟩ := arg_array (k := .u64) (n := 2) (e := 22) (by kernel_rfl) (by kernel_rfl) hb
    match l, hl, hw with
    | [x, y], _, hw =>
      obtain ⟨x, rfl, hx⟩ := wf_u64 (hw x (by simp))
      obtain ⟨y, rfl, hy⟩ := wf_u64 (hw y (by simp))
      exact law34_5 hp hx hy

theorem gadgetCircuitSnapshots_holds : Rows.GadgetCircuitSnapshotsSaid :=
  OpenClaim.holds_of_wide 5 Try.f5 rfl rfl rfl rfl rfl rfl rfl ⟨rfl, rfl, rfl, rfl, rfl⟩ rfl rfl rfl rfl rfl (by kernel_rfl) Try.func5 (by kernel_rfl)
    (of_decide_eq_true (by kernel_rfl)) (by unfold Func.isWrapper; first | (rw [if_pos (by decide +kernel)]; kernel_rfl) | (rw [if_neg (by decide +kernel)]; exact ⟨rfl, rfl⟩))
    (fun os started H enc _ => gadgetCircuitSnapshots_lifted os started H enc)

end Go.Proofs.Ytgfnhkedfmnijaa
