/- The statement ConstfoldIsIdempotent, in its second form: for every input of bulk at most 1048576 the call returns true, and each argument reads as it did. -/
import Derived.Test.YtemlhjlceeiflaaRows
import Derived.Test.YtemlhjlceeiflaaAb35
import Derived.OpenShut
import Derived.JoinedCond
import Derived.Test.YtemlhjlceeiflaaT31e
set_option linter.unusedVariables false
set_option linter.unusedSimpArgs false
namespace Go.Proofs.Ytemlhjlceeiflaa
open Go.Ab Go.Ab.Ytemlhjlceeiflaa

theorem own : ownKnob Try.prog.godebug = none := by kernel_rfl
theorem laidOut : laidOutB Try.prog = true := by kernel_rfl

theorem bulkOK {H : Type} : BulkOK (H' := H) Rows.uptoBulk := by
  have hs : ∀ l : List (DataW H), (l.map Rows.uptoBulk).sum ≤ Rows.uptoBulkAll l := fun l => by
    induction l with
    | nil => exact Nat.le_refl _
    | cons x l ih => rw [List.map_cons, List.sum_cons, Rows.uptoBulkAll]; omega
  refine ⟨fun l => ?_, fun l => ?_, ?_, fun e s => ?_, fun e => ?_⟩
  · rw [Rows.uptoBulk]; exact Nat.le_refl _
  · cases l <;> simp [Rows.uptoBulk]
  · rw [Rows.uptoBulk]; exact Nat.le_refl _
  · have := hs e
    rw [Rows.uptoBulk]; omega
  · have := hs e
    rw [Rows.uptoBulk]; omega
theorem small {H : Type} {ds gs : List (DataW H)} (hk : Rows.uptoSmall H (ds ++ gs) = true) : (ds.map Rows.uptoBulk).sum ≤ 1048576 := by
  have h := of_decide_eq_true hk
  have hs : ∀ l : List (DataW H), (l.map Rows.uptoBulk).sum ≤ Rows.uptoBulkAll l := fun l => by
    induction l with
    | nil => exact Nat.le_refl _
    | cons x l ih => rw [List.map_cons, List.sum_cons, Rows.uptoBulkAll]; omega
  have h1 := hs (ds ++ gs)
  rw [List.map_append, List.sum_append] at h1
  omega

theorem astT : ∃ e0 e1 e2 e3 e4 s0 s1 s2 s3 s4, AstT Try.prog 35 33 37 24 e0 e1 e2 e3 e4 s0 s1 s2 s3 s4 :=
  ⟨_, _, _, _, _, _, _, _, _, _, { e := Try.underlying35, ek := Try.underlying3, eo := Try.underlying3, en := Try.underlying32, es := Try.underlying9, eks := rfl, es2 := Try.underlying33, s := Try.underlying37, sk := Try.underlying3, sn := Try.underlying9, se := rfl, sa := rfl, sb := rfl, ss := Try.underlying24 }⟩
theorem arg_expr {v : V} (h : TyArg Try.prog 35 v) : ∃ e : Exp, v = e.v ∧ EOk e := by
  obtain ⟨ag, cs, ha, rfl, hc⟩ := h
  obtain ⟨e0, e1, e2, e3, e4, s0, s1, s2, s3, s4, hT⟩ := astT
  obtain ⟨e, rfl, ok⟩ := (ty_expr hT hc).1 rfl
  rw [agg_struct hT.e] at ha
  cases ha
  exact ⟨e, Exp.v_ag, ok⟩

theorem ty_list {P : Program} {t e : TypeId} {α : Type} {f : α → V} {Q : α → Prop} {cs : List V} (ht : P.underlying t = some (.slice e)) (ha : aggT P e = some true)
    (hf : ∀ cs, Ty P e cs → ∃ a, cs = (f a).cells ∧ Q a ∧ ∃ l, f a = .agg l) (h : Ty P t cs) : ∃ l : List α, cs = [.vec (l.map f) .any] ∧ l.length ≤ maxLen ∧ ∀ x ∈ l, Q x := by
  obtain ⟨ag, css, h1, rfl, h2, h3⟩ := ty_slice ht h
  rw [ha] at h1
  cases h1
  obtain ⟨l, g1, g2, g3⟩ := list_of (f := f) (Q := Q) (css := css) (fun cs hcs => hf cs (h2 cs hcs))
  exact ⟨l, by rw [g1], by omega, g3⟩
theorem arg_prog {v : V} (h : TyArg Try.prog 26 v) : ∃ p : Prg, v = p.v ∧ POk p := by
  obtain ⟨ag, cs, ha, rfl, hc⟩ := h
  obtain ⟨e0, e1, e2, e3, e4, s0, s1, s2, s3, s4, hT⟩ := astT
  have hP := Try.underlying26
  rw [agg_struct hP] at ha
  cases ha
  obtain ⟨parts, rfl, hl, hp⟩ := ty_struct hP hc
  obtain ⟨a, b, c, rfl, g0, g1, g2⟩ := parts_3 rfl hl hp
  obtain ⟨la, rfl, hla, hca⟩ := ty_list (f := InD.v) (Q := InOk) Try.underlying22 (agg_struct Try.underlying48) (fun cs h => by
    obtain ⟨x, hx, ok⟩ := ty_in Try.underlying48 Try.underlying9 Try.underlying3 Try.underlying3 Try.underlying3 h
    exact ⟨x, hx, ok, x.cells, rfl⟩) g0
  obtain ⟨lb, rfl, hlb, hcb⟩ := ty_list (f := ArD.v) (Q := ArOk) Try.underlying23 (agg_struct Try.underlying50) (fun cs h => by
    obtain ⟨x, hx, ok⟩ := ty_ar Try.underlying50 Try.underlying9 Try.underlying3 h
    exact ⟨x, hx, ok, x.cells, rfl⟩) g1
  obtain ⟨lc, rfl, hlc, hcc⟩ := (ty_stmt hT g2).2 rfl
  exact ⟨⟨la, lb, lc⟩, rfl, ⟨hca, hcb, hcc, hla, hlb, hlc⟩⟩

set_option maxRecDepth 100000 in
theorem constfoldIsIdempotent_lifted (os : Os) (started : os.Started) (H : Type) (enc : TypeId × Value → H) (F : Stop.Interp) :
    ReturnsInHanded {} Try.checked os 7 .any ((Rows.OpenSpec.upto Rows.constfoldIsIdempotentSpec).pre6 enc Try.prog Try.f7 Rows.constfoldIsIdempotentUptoRow.domain false) (((Rows.OpenSpec.upto Rows.constfoldIsIdempotentSpec).at F).post enc Try.prog Try.f7 false true false false) := by
  refine returnsInHanded_of_cond (C := Try.checked) (s := Rows.OpenSpec.upto Rows.constfoldIsIdempotentSpec) (k := Rows.uptoSmall) rfl own started (by kernel_rfl) Try.func7
    (OpenSpec.witness (enc := enc) (C := Try.checked) (s := Rows.OpenSpec.upto Rows.constfoldIsIdempotentSpec) (k := Rows.uptoSmall) rfl false ⟨#[], #[.agg #[.slice none 0 0, .slice none 0 0, .slice none 0 0]], []⟩ 8 (by kernel_rfl) (by kernel_rfl) (by kernel_rfl)
      (x := ([.agg [.nil, .nil, .nil]], [], [])) (by kernel_rfl) rfl (by kernel_rfl)) ?_
  intro W base args ds gs before hval hW _ hk _
  show Calls _ _ _ _ fun e W' => ∃ v, e = .returned v ∧ Rows.constfoldIsIdempotentSpec.post enc Try.prog Try.f7 false true false false W args v W'
  refine law_contractB bulkOK (N := 1048576) (P := Try.prog) (ts := [26, 22, 48, 23, 50, 24, 37, 33, 35, 3, 32, 9]) (tb := 4) callOK laidOut (by kernel_rfl) (by kernel_rfl) (by kernel_rfl) (by kernel_rfl) rfl (fun ds h => ?_) hval hW (small hk) fun vs hvs hbk => ?_
  · have h : ds.length = 1 := h
    match ds, h with
    | [a], _ => rfl
  · have hvs : TyArgs Try.prog [26] vs := hvs
    obtain ⟨a, rfl, ha⟩ := args_1v hvs
    obtain ⟨p, rfl, ok⟩ := arg_prog ha
    rw [bulks_one] at hbk
    exact law31_5 ok hbk

theorem constfoldIsIdempotentUpto_holds : Rows.ConstfoldIsIdempotentUptoSaid :=
  OpenClaim.holds_of_cond 7 Try.f7 rfl rfl rfl rfl rfl rfl rfl ⟨rfl, rfl, rfl, rfl, rfl⟩ rfl rfl rfl rfl rfl (by kernel_rfl) Try.func7 (by kernel_rfl)
    (of_decide_eq_true (by kernel_rfl)) (by unfold Func.isWrapper; first | (rw [if_pos (by decide +kernel)]; kernel_rfl) | (rw [if_neg (by decide +kernel)]; exact ⟨rfl, rfl⟩))
    (fun os started H enc _ F => constfoldIsIdempotent_lifted os started H enc F)

end Go.Proofs.Ytemlhjlceeiflaa
