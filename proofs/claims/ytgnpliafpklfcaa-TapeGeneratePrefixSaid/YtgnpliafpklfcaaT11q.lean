/- The statements TapeGenerate and TapeGeneratePrefix: for every input the call returns true, and each argument reads as it did. No condition. -/
import Derived.Test.YtgnpliafpklfcaaRows
import Derived.Test.YtgnpliafpklfcaaT11d
set_option linter.unusedVariables false
set_option linter.unusedSimpArgs false
namespace Go.Proofs.Ytgnpliafpklfcaa
open Go.Ab Go.Ab.Ytgnpliafpklfcaa

theorem own : ownKnob Try.prog.godebug = none := by kernel_rfl
theorem laidOut : laidOutB Try.prog = true := by kernel_rfl

set_option maxRecDepth 100000 in
theorem tapeGenerate_lifted (os : Os) (started : os.Started) (H : Type) (enc : TypeId × Value → H) :
    ReturnsInHanded {} Try.checked os 6 .any (Rows.tapeGenerateSpec.pre6 enc Try.prog Try.f6 Rows.tapeGenerateRow.domain false) (Rows.tapeGenerateSpec.post enc Try.prog Try.f6 false true false false) := by
  refine returnsInHanded_of_change (C := Try.checked) own started (by kernel_rfl) Try.func6
    (ChangeSpec.witness6 (enc := enc) (C := Try.checked) false ⟨#[], #[.int .u64 0, .int .u64 0, .int .i64 0], []⟩ 8 (by kernel_rfl) (by kernel_rfl) (by kernel_rfl) (by kernel_rfl)) ?_
  intro W base args ds gs before hval hW _ _
  refine law_contract (P := Try.prog) (ts := [37, 3]) (tb := 4) callOK laidOut (by kernel_rfl) (by kernel_rfl) (by kernel_rfl) (by kernel_rfl) rfl (fun ds h => ?_) hval hW fun vs hvs => ?_
  · have h : ds.length = 3 := h
    match ds, h with
    | [a, b, c], _ => rfl
  · have hvs : TyArgs Try.prog [37, 37, 3] vs := hvs
    obtain ⟨a, b, c, rfl, ha, hb, hc⟩ := args_3v hvs
    obtain ⟨k, rfl, hk⟩ := arg_u64 (by kernel_rfl) ha
    obtain ⟨s, rfl, hs⟩ := arg_u64 (by kernel_rfl) hb
    obtain ⟨n, rfl, _⟩ := arg_i64 (by kernel_rfl) hc
    exact law6 hk hs

theorem tapeGenerate_holds : Rows.TapeGenerateSaid :=
  OpenClaim.holds_of_wide 6 Try.f6 rfl rfl rfl rfl rfl rfl rfl ⟨rfl, rfl, rfl, rfl, rfl⟩ rfl rfl rfl rfl rfl (by kernel_rfl) Try.func6 (by kernel_rfl)
    (of_decide_eq_true (by kernel_rfl)) (by unfold Func.isWrapper; first | (rw [if_pos (by decide +kernel)]; kernel_rfl) | (rw [if_neg (by decide +kernel)]; exact ⟨rfl, rfl⟩))
    (fun os started H enc _ => tapeGenerate_lifted os started H enc)

set_option maxRecDepth 100000 in
theorem tapeGeneratePrefix_lifted (os : Os) (started : os.Started) (H : Type) (enc : TypeId × Value → H) :
    ReturnsInHanded {} Try.checked os 7 .any (Rows.tapeGeneratePrefixSpec.pre6 enc Try.prog Try.f7 Rows.tapeGeneratePrefixRow.domain false) (Rows.tapeGeneratePrefixSpec.post enc Try.prog Try.f7 false true false false) := by
  refine returnsInHanded_of_change (C := Try.checked) own started (by kernel_rfl) Try.func7
    (ChangeSpec.witness6 (enc := enc) (C := Try.checked) false ⟨#[], #[.int .u64 0, .int .u64 0, .agg #[.int .u8 0, .int .u8 0]], []⟩ 8 (by kernel_rfl) (by kernel_rfl) (by kernel_rfl) (by kernel_rfl)) ?_
  intro W base args ds gs before hval hW _ _
  refine law_contract (P := Try.prog) (ts := [37, 42, 5]) (tb := 4) callOK laidOut (by kernel_rfl) (by kernel_rfl) (by kernel_rfl) (by kernel_rfl) rfl (fun ds h => ?_) hval hW fun vs hvs => ?_
  · have h : ds.length = 3 := h
    match ds, h with
    | [a, b, c], _ => rfl
  · have hvs : TyArgs Try.prog [37, 37, 42] vs := hvs
    obtain ⟨a, b, c, rfl, ha, hb, hc⟩ := args_3v hvs
    obtain ⟨k, rfl, hk⟩ := arg_u64 (by kernel_rfl) ha
    obtain ⟨s, rfl, hs⟩ := arg_u64 (by kernel_rfl) hb
    obtain ⟨l, rfl, hl, hw⟩ := arg_array (k := .u8) (n := 2) (e := 5) (by kernel_rfl) (by kernel_rfl) hc
    match l, hl, hw with
    | [x, y], _, hw =>
      obtain ⟨x, rfl, hx⟩ := wf_u8 (hw x (by simp))
      obtain ⟨y, rfl, hy⟩ := wf_u8 (hw y (by simp))
      exact law7 hk hs hx hy

theorem tapeGeneratePrefix_holds : Rows.TapeGeneratePrefixSaid :=
  OpenClaim.holds_of_wide 7 Try.f7 rfl rfl rfl rfl rfl rfl rfl ⟨rfl, rfl, rfl, rfl, rfl⟩ rfl rfl rfl rfl rfl (by kernel_rfl) Try.func7 (by kernel_rfl)
    (of_decide_eq_true (by kernel_rfl)) (by unfold Func.isWrapper; first | (rw [if_pos (by decide +kernel)]; kernel_rfl) | (rw [if_neg (by decide +kernel)]; exact ⟨rfl, rfl⟩))
    (fun os started H enc _ => tapeGeneratePrefix_lifted os started H enc)

end Go.Proofs.Ytgnpliafpklfcaa
