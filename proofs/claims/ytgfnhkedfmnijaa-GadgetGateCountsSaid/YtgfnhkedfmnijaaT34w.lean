/- The statement GadgetGateCounts: for every input the call returns true, and each argument reads as it did. No condition. -/
import Derived.Test.YtgfnhkedfmnijaaRows
import Derived.Test.YtgfnhkedfmnijaaT34h
set_option linter.unusedVariables false
set_option linter.unusedSimpArgs false
namespace Go.Proofs.Ytgfnhkedfmnijaa
open Go.Ab Go.Ab.Ytgfnhkedfmnijaa

theorem own : ownKnob Try.prog.godebug = none := by kernel_rfl
theorem laidOut : laidOutB Try.prog = true := by kernel_rfl

set_option maxRecDepth 100000 in
theorem gadgetGateCounts_lifted (os : Os) (started : os.Started) (H : Type) (enc : TypeId × Value → H) :
    ReturnsInHanded {} Try.checked os 9 .any (Rows.gadgetGateCountsSpec.pre6 enc Try.prog Try.f9 Rows.gadgetGateCountsRow.domain false) (Rows.gadgetGateCountsSpec.post enc Try.prog Try.f9 false true false false) := by
  refine returnsInHanded_of_change (C := Try.checked) own started (by kernel_rfl) Try.func9
    (ChangeSpec.witness6 (enc := enc) (C := Try.checked) false ⟨#[], #[.int .u64 0, .int .u8 0, .int .u8 0], []⟩ 8 (by kernel_rfl) (by kernel_rfl) (by kernel_rfl) (by kernel_rfl)) ?_
  intro W base args ds gs before hval hW _ _
  refine law_contract (P := Try.prog) (ts := [22, 5, 4]) (tb := 4) callOK laidOut (by kernel_rfl) (by kernel_rfl) (by kernel_rfl) (by kernel_rfl) rfl (fun ds h => ?_) hval hW fun vs hvs => ?_
  · have h : ds.length = 3 := h
    match ds, h with
    | [a, b, c], _ => rfl
  · have hvs : TyArgs Try.prog [22, 5, 5] vs := hvs
    obtain ⟨a, b, c, rfl, ha, hb, hc⟩ := args_3v hvs
    obtain ⟨pp, rfl, hp⟩ := arg_u64 (by kernel_rfl) ha
    obtain ⟨x, rfl, hx⟩ := arg_u8 (by kernel_rfl) hb
    obtain ⟨y, rfl, hy⟩ := arg_u8 (by kernel_rfl) hc
    exact law34_9 hp hx hy

theorem gadgetGateCounts_holds : Rows.GadgetGateCountsSaid :=
  OpenClaim.holds_of_wide 9 Try.f9 rfl rfl rfl rfl rfl rfl rfl ⟨rfl, rfl, rfl, rfl, rfl⟩ rfl rfl rfl rfl rfl (by kernel_rfl) Try.func9 (by kernel_rfl)
    (of_decide_eq_true (by kernel_rfl)) (by unfold Func.isWrapper; first | (rw [if_pos (by decide +kernel)]; kernel_rfl) | (rw [if_neg (by decide +kernel)]; exact ⟨rfl, rfl⟩))
    (fun os started H enc _ => gadgetGateCounts_lifted os started H enc)

end Go.Proofs.Ytgfnhkedfmnijaa
