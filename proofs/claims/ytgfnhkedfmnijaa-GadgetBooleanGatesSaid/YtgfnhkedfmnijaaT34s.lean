/- The statement GadgetBooleanGates: for every input the call returns true, and each argument reads as it did. No condition. -/
import Derived.Test.YtgfnhkedfmnijaaRows
import Derived.Test.YtgfnhkedfmnijaaT34d
set_option linter.unusedVariables false
set_option linter.unusedSimpArgs false
namespace Go.Proofs.Ytgfnhkedfmnijaa
open Go.Ab Go.Ab.Ytgfnhkedfmnijaa

theorem own : ownKnob Try.prog.godebug = none := by kernel_rfl
theorem laidOut : laidOutB Try.prog = true := by kernel_rfl

set_option maxRecDepth 100000 in
theorem gadgetBooleanGates_lifted (os : Os) (started : os.Started) (H : Type) (enc : TypeId × Value → H) :
    ReturnsInHanded {} Try.checked os 6 .any (Rows.gadgetBooleanGatesSpec.pre6 enc Try.prog Try.f6 Rows.gadgetBooleanGatesRow.domain false) (Rows.gadgetBooleanGatesSpec.post enc Try.prog Try.f6 false true false false) := by
  refine returnsInHanded_of_change (C := Try.checked) own started (by kernel_rfl) Try.func6
    (ChangeSpec.witness6 (enc := enc) (C := Try.checked) false ⟨#[], #[.int .u64 0, .agg #[.bool false, .bool false, .bool false], .agg #[.int .u64 0, .int .u64 0]], []⟩ 8 (by kernel_rfl) (by kernel_rfl) (by kernel_rfl) (by kernel_rfl)) ?_
  intro W base args ds gs before hval hW _ _
  refine law_contract (P := Try.prog) (ts := [22, 23, 51, 4]) (tb := 4) callOK laidOut (by kernel_rfl) (by kernel_rfl) (by kernel_rfl) (by kernel_rfl) rfl (fun ds h => ?_) hval hW fun vs hvs => ?_
  · have h : ds.length = 3 := h
    match ds, h with
    | [a, b, c], _ => rfl
  · have hvs : TyArgs Try.prog [22, 51, 23] vs := hvs
    obtain ⟨a, b, c, rfl, ha, hb, hc⟩ := args_3v hvs
    obtain ⟨pp, rfl, hp⟩ := arg_u64 (by kernel_rfl) ha
    obtain ⟨bl, rfl, hbl⟩ := arg_barray (n := 3) (e := 4) (by kernel_rfl) (by kernel_rfl) hb
    obtain ⟨l, rfl, hl, hw⟩ := arg_array (k := .u64) (n := 2) (e := 22) (by kernel_rfl) (by kernel_rfl) hc
    match bl, hbl with
    | [b0, b1, b2], _ =>
      match l, hl, hw with
      | [x, y], _, hw =>
        obtain ⟨x, rfl, hx⟩ := wf_u64 (hw x (by simp))
        obtain ⟨y, rfl, hy⟩ := wf_u64 (hw y (by simp))
        exact law34_6 hp hx hy

theorem gadgetBooleanGates_holds : Rows.GadgetBooleanGatesSaid :=
  OpenClaim.holds_of_wide 6 Try.f6 rfl rfl rfl rfl rfl rfl rfl ⟨rfl, rfl, rfl, rfl, rfl⟩ rfl rfl rfl rfl rfl (by kernel_rfl) Try.func6 (by kernel_rfl)
    (of_decide_eq_true (by kernel_rfl)) (by unfold Func.isWrapper; first | (rw [if_pos (by decide +kernel)]; kernel_rfl) | (rw [if_neg (by decide +kernel)]; exact ⟨rfl, rfl⟩))
    (fun os started H enc _ => gadgetBooleanGates_lifted os started H enc)

end Go.Proofs.Ytgfnhkedfmnijaa
