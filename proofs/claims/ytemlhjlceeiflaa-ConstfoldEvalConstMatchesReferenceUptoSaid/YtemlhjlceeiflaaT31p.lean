/- The statement ConstfoldEvalConstMatchesReference, in its second form: for every input of bulk at most 1048576 the call returns true, and each argument reads as it did. -/
import Derived.Test.YtemlhjlceeiflaaRows
import Derived.Test.YtemlhjlceeiflaaAb35
import Derived.OpenShut
import Derived.JoinedCond
import Derived.Test.YtemlhjlceeiflaaT31a
set_option linter.unusedVariables false
set_option linter.unusedSimpArgs false
namespace Go.Proofs.Ytemlhjlceeiflaa
open Go.Ab Go.Ab.Ytemlhjlceeiflaa

theorem own : ownKnob Try.prog.godebug = none := by kernel_rfl
theorem laidOut : laidOutB Try.prog = true := by kernel_rfl

theorem bulkOK {H : Type} : BulkOK (H' := H) Rows.uptoBulk := by
  have hs : ∀ l : List (DataW H), (l.map Rows.uptoBulk).sum ≤ Rows.uptoBulkAll l := fun l => by
    induction l with
    | nil => exact Nat.le_refl _
    | cons x l ih => rw [List.map_cons, List.sum_cons, Rows.uptoBulkAll]; omega
  refine ⟨fun l => ?_, fun l => ?_, ?_, fun e s => ?_, fun e => ?_⟩
  · rw [Rows.uptoBulk]; exact Nat.le_refl _
  · cases l <;> simp [Rows.uptoBulk]
  · rw [Rows.uptoBulk]; exact Nat.le_refl _
  · have := hs e
    rw [Rows.uptoBulk]; omega
  · have := hs e
    rw [Rows.uptoBulk]; omega
theorem small {H : Type} {ds gs : List (DataW H)} (hk : Rows.uptoSmall H (ds ++ gs) = true) : (ds.map Rows.uptoBulk).sum ≤ 1048576 := by
  have h := of_decide_eq_true hk
  have hs : ∀ l : List (DataW H), (l.map Rows.uptoBulk).sum ≤ Rows.uptoBulkAll l := fun l => by
    induction l with
    | nil => exact Nat.le_refl _
    | cons x l ih => rw [List.map_cons, List.sum_cons, Rows.uptoBulkAll]; omega
  have h1 := hs (ds ++ gs)
  rw [List.map_append, List.sum_append] at h1
  omega

theorem astT : ∃ e0 e1 e2 e3 e4 s0 s1 s2 s3 s4, AstT Try.prog 35 33 37 24 e0 e1 e2 e3 e4 s0 s1 s2 s3 s4 :=
  ⟨_, _, _, _, _, _, _, _, _, _, { e := Try.underlying35, ek := Try.underlying3, eo := Try.underlying3, en := Try.underlying32, es := Try.underlying9, eks := rfl, es2 := Try.underlying33, s := Try.underlying37, sk := Try.underlying3, sn := Try.underlying9, se := rfl, sa := rfl, sb := rfl, ss := Try.underlying24 }⟩
theorem arg_expr {v : V} (h : TyArg Try.prog 35 v) : ∃ e : Exp, v = e.v ∧ EOk e := by
  obtain ⟨ag, cs, ha, rfl, hc⟩ := h
  obtain ⟨e0, e1, e2, e3, e4, s0, s1, s2, s3, s4, hT⟩ := astT
  obtain ⟨e, rfl, ok⟩ := (ty_expr hT hc).1 rfl
  rw [agg_struct hT.e] at ha
  cases ha
  exact ⟨e, Exp.v_ag, ok⟩

set_option maxRecDepth 100000 in
theorem constfoldEvalConstMatchesReference_lifted (os : Os) (started : os.Started) (H : Type) (enc : TypeId × Value → H) (F : Stop.Interp) :
    ReturnsInHanded {} Try.checked os 4 .any ((Rows.OpenSpec.upto Rows.constfoldEvalConstMatchesReferenceSpec).pre6 enc Try.prog Try.f4 Rows.constfoldEvalConstMatchesReferenceUptoRow.domain false) (((Rows.OpenSpec.upto Rows.constfoldEvalConstMatchesReferenceSpec).at F).post enc Try.prog Try.f4 false true false false) := by
  refine returnsInHanded_of_cond (C := Try.checked) (s := Rows.OpenSpec.upto Rows.constfoldEvalConstMatchesReferenceSpec) (k := Rows.uptoSmall) rfl own started (by kernel_rfl) Try.func4
    (OpenSpec.witness (enc := enc) (C := Try.checked) (s := Rows.OpenSpec.upto Rows.constfoldEvalConstMatchesReferenceSpec) (k := Rows.uptoSmall) rfl false ⟨#[], #[.agg #[.int .i64 0, .int .i64 0, .int .u64 0, .string ⟨#[]⟩, .slice none 0 0]], []⟩ 8 (by kernel_rfl) (by kernel_rfl) (by kernel_rfl)
      (x := ([.agg [.lit (.int .i64 0), .lit (.int .i64 0), .lit (.int .u64 0), .lit (.string []), .nil]], [], [])) (by kernel_rfl) rfl (by kernel_rfl)) ?_
  intro W base args ds gs before hval hW _ hk _
  show Calls _ _ _ _ fun e W' => ∃ v, e = .returned v ∧ Rows.constfoldEvalConstMatchesReferenceSpec.post enc Try.prog Try.f4 false true false false W args v W'
  refine law_contractB bulkOK (N := 1048576) (P := Try.prog) (ts := [35, 33, 3, 32, 9]) (tb := 4) callOK laidOut (by kernel_rfl) (by kernel_rfl) (by kernel_rfl) (by kernel_rfl) rfl (fun ds h => ?_) hval hW (small hk) fun vs hvs hbk => ?_
  · have h : ds.length = 1 := h
    match ds, h with
    | [a], _ => rfl
  · have hvs : TyArgs Try.prog [35] vs := hvs
    obtain ⟨a, rfl, ha⟩ := args_1v hvs
    obtain ⟨e, rfl, ok⟩ := arg_expr ha
    rw [bulks_one] at hbk
    exact law31_2 ok hbk

theorem constfoldEvalConstMatchesReferenceUpto_holds : Rows.ConstfoldEvalConstMatchesReferenceUptoSaid :=
  OpenClaim.holds_of_cond 4 Try.f4 rfl rfl rfl rfl rfl rfl rfl ⟨rfl, rfl, rfl, rfl, rfl⟩ rfl rfl rfl rfl rfl (by kernel_rfl) Try.func4 (by kernel_rfl)
    (of_decide_eq_true (by kernel_rfl)) (by unfold Func.isWrapper; first | (rw [if_pos (by decide +kernel)]; kernel_rfl) | (rw [if_neg (by decide +kernel)]; exact ⟨rfl, rfl⟩))
    (fun os started H enc _ F => constfoldEvalConstMatchesReference_lifted os started H enc F)

end Go.Proofs.Ytemlhjlceeiflaa
