/- The statements TapeTake, TapeTakeSplit and TapeTakeFails: for every input the call returns true, and each argument reads as it did. No condition. -/
import Derived.Test.YtgnpliafpklfcaaRows
import Derived.Test.YtgnpliafpklfcaaT11c
set_option linter.unusedVariables false
set_option linter.unusedSimpArgs false
namespace Go.Proofs.Ytgnpliafpklfcaa
open Go.Ab Go.Ab.Ytgnpliafpklfcaa

theorem own : ownKnob Try.prog.godebug = none := by kernel_rfl
theorem laidOut : laidOutB Try.prog = true := by kernel_rfl

set_option maxRecDepth 100000 in
theorem tapeTake_lifted (os : Os) (started : os.Started) (H : Type) (enc : TypeId × Value → H) :
    ReturnsInHanded {} Try.checked os 3 .any (Rows.tapeTakeSpec.pre6 enc Try.prog Try.f3 Rows.tapeTakeRow.domain false) (Rows.tapeTakeSpec.post enc Try.prog Try.f3 false true false false) := by
  refine returnsInHanded_of_change (C := Try.checked) own started (by kernel_rfl) Try.func3
    (ChangeSpec.witness6 (enc := enc) (C := Try.checked) false ⟨#[], #[.slice none 0 0, .slice none 0 0], []⟩ 8 (by kernel_rfl) (by kernel_rfl) (by kernel_rfl) (by kernel_rfl)) ?_
  intro W base args ds gs before hval hW _ _
  refine law_contract (P := Try.prog) (ts := [22, 37, 23, 3]) (tb := 4) callOK laidOut (by kernel_rfl) (by kernel_rfl) (by kernel_rfl) (by kernel_rfl) rfl (fun ds h => ?_) hval hW fun vs hvs => ?_
  · have h : ds.length = 2 := h
    match ds, h with
    | [a, b], _ => rfl
  · have hvs : TyArgs Try.prog [22, 23] vs := hvs
    obtain ⟨a, b, rfl, ha, hb⟩ := args_2v hvs
    obtain ⟨ws, rfl, _⟩ := arg_words (e := 37) (by kernel_rfl) (by kernel_rfl) ha
    obtain ⟨l, rfl, _⟩ := arg_ints (k := .i64) (e := 3) (by kernel_rfl) (by kernel_rfl) hb
    exact law3

theorem tapeTake_holds : Rows.TapeTakeSaid :=
  OpenClaim.holds_of_wide 3 Try.f3 rfl rfl rfl rfl rfl rfl rfl ⟨rfl, rfl, rfl, rfl, rfl⟩ rfl rfl rfl rfl rfl (by kernel_rfl) Try.func3 (by kernel_rfl)
    (of_decide_eq_true (by kernel_rfl)) (by unfold Func.isWrapper; first | (rw [if_pos (by decide +kernel)]; kernel_rfl) | (rw [if_neg (by decide +kernel)]; exact ⟨rfl, rfl⟩))
    (fun os started H enc _ => tapeTake_lifted os started H enc)

set_option maxRecDepth 100000 in
theorem tapeTakeSplit_lifted (os : Os) (started : os.Started) (H : Type) (enc : TypeId × Value → H) :
    ReturnsInHanded {} Try.checked os 4 .any (Rows.tapeTakeSplitSpec.pre6 enc Try.prog Try.f4 Rows.tapeTakeSplitRow.domain false) (Rows.tapeTakeSplitSpec.post enc Try.prog Try.f4 false true false false) := by
  refine returnsInHanded_of_change (C := Try.checked) own started (by kernel_rfl) Try.func4
    (ChangeSpec.witness6 (enc := enc) (C := Try.checked) false ⟨#[], #[.slice none 0 0, .int .u8 0, .int .u8 0], []⟩ 8 (by kernel_rfl) (by kernel_rfl) (by kernel_rfl) (by kernel_rfl)) ?_
  intro W base args ds gs before hval hW _ _
  refine law_contract (P := Try.prog) (ts := [22, 37, 5]) (tb := 4) callOK laidOut (by kernel_rfl) (by kernel_rfl) (by kernel_rfl) (by kernel_rfl) rfl (fun ds h => ?_) hval hW fun vs hvs => ?_
  · have h : ds.length = 3 := h
    match ds, h with
    | [a, b, c], _ => rfl
  · have hvs : TyArgs Try.prog [22, 5, 5] vs := hvs
    obtain ⟨a, b, c, rfl, ha, hb, hc⟩ := args_3v hvs
    obtain ⟨ws, rfl, _⟩ := arg_words (e := 37) (by kernel_rfl) (by kernel_rfl) ha
    obtain ⟨m, rfl, hm⟩ := arg_u8 (by kernel_rfl) hb
    obtain ⟨n, rfl, hn⟩ := arg_u8 (by kernel_rfl) hc
    exact law4 hm hn

theorem tapeTakeSplit_holds : Rows.TapeTakeSplitSaid :=
  OpenClaim.holds_of_wide 4 Try.f4 rfl rfl rfl rfl rfl rfl rfl ⟨rfl, rfl, rfl, rfl, rfl⟩ rfl rfl rfl rfl rfl (by kernel_rfl) Try.func4 (by kernel_rfl)
    (of_decide_eq_true (by kernel_rfl)) (by unfold Func.isWrapper; first | (rw [if_pos (by decide +kernel)]; kernel_rfl) | (rw [if_neg (by decide +kernel)]; exact ⟨rfl, rfl⟩))
    (fun os started H enc _ => tapeTakeSplit_lifted os started H enc)

set_option maxRecDepth 100000 in
theorem tapeTakeFails_lifted (os : Os) (started : os.Started) (H : Type) (enc : TypeId × Value → H) :
    ReturnsInHanded {} Try.checked os 5 .any (Rows.tapeTakeFailsSpec.pre6 enc Try.prog Try.f5 Rows.tapeTakeFailsRow.domain false) (Rows.tapeTakeFailsSpec.post enc Try.prog Try.f5 false true false false) := by
  refine returnsInHanded_of_change (C := Try.checked) own started (by kernel_rfl) Try.func5
    (ChangeSpec.witness6 (enc := enc) (C := Try.checked) false ⟨#[], #[.slice none 0 0, .int .u8 0, .int .u16 0], []⟩ 8 (by kernel_rfl) (by kernel_rfl) (by kernel_rfl) (by kernel_rfl)) ?_
  intro W base args ds gs before hval hW _ _
  refine law_contract (P := Try.prog) (ts := [22, 37, 5, 36]) (tb := 4) callOK laidOut (by kernel_rfl) (by kernel_rfl) (by kernel_rfl) (by kernel_rfl) rfl (fun ds h => ?_) hval hW fun vs hvs => ?_
  · have h : ds.length = 3 := h
    match ds, h with
    | [a, b, c], _ => rfl
  · have hvs : TyArgs Try.prog [22, 5, 36] vs := hvs
    obtain ⟨a, b, c, rfl, ha, hb, hc⟩ := args_3v hvs
    obtain ⟨ws, rfl, _⟩ := arg_words (e := 37) (by kernel_rfl) (by kernel_rfl) ha
    obtain ⟨m, rfl, hm⟩ := arg_u8 (by kernel_rfl) hb
    obtain ⟨r, rfl, hr⟩ := arg_u16 (by kernel_rfl) hc
    exact law5 hm hr

theorem tapeTakeFails_holds : Rows.TapeTakeFailsSaid :=
  OpenClaim.holds_of_wide 5 Try.f5 rfl rfl rfl rfl rfl rfl rfl ⟨rfl, rfl, rfl, rfl, rfl⟩ rfl rfl rfl rfl rfl (by kernel_rfl) Try.func5 (by kernel_rfl)
    (of_decide_eq_true (by kernel_rfl)) (by unfold Func.isWrapper; first | (rw [if_pos (by decide +kernel)]; kernel_rfl) | (rw [if_neg (by decide +kernel)]; exact ⟨rfl, rfl⟩))
    (fun os started H enc _ => tapeTakeFails_lifted os started H enc)

end Go.Proofs.Ytgnpliafpklfcaa
