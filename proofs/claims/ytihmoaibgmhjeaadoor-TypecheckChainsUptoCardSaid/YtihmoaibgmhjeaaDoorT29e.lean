/- The statement TypecheckChains, in its second form: for every input of bulk at most 1048576 the call returns true, and each argument reads as it did; and its card. -/
import Derived.Test.YtihmoaibgmhjeaaDoorRows
import Derived.Test.YtihmoaibgmhjeaaDoorCards
import Derived.Test.YtihmoaibgmhjeaaDoorTie
import Derived.Deep.DeepHandedRow
import Derived.LaidLaws
import Derived.WalkKit
import Derived.ProofKit
import Derived.Test.YtihmoaibgmhjeaaDoorAb35
import Derived.OpenShut
import Derived.JoinedCond
import Derived.Test.YtihmoaibgmhjeaaDoorL29
import Derived.Test.YtihmoaibgmhjeaaDoorAb36
import Derived.Test.YtihmoaibgmhjeaaDoorT29d
set_option linter.unusedVariables false
set_option linter.unusedSimpArgs false
namespace Go.Proofs.YtihmoaibgmhjeaaDoor
open Go.Ab Go.Ab.YtihmoaibgmhjeaaDoor

theorem own : ownKnob Tryd.prog.godebug = none := by kernel_rfl
theorem laidOut : laidOutB Tryd.prog = true := by kernel_rfl

theorem bulkOK {H : Type} : BulkOK (H' := H) Rows.uptoBulk := by
  have hs : ∀ l : List (DataW H), (l.map Rows.uptoBulk).sum ≤ Rows.uptoBulkAll l := fun l => by
    induction l with
    | nil => exact Nat.le_refl _
    | cons x l ih => rw [List.map_cons, List.sum_cons, Rows.uptoBulkAll]; omega
  refine ⟨fun l => ?_, fun l => ?_, ?_, fun e s => ?_, fun e => ?_⟩
  · rw [Rows.uptoBulk]; exact Nat.le_refl _
  · cases l <;> simp [Rows.uptoBulk]
  · rw [Rows.uptoBulk]; exact Nat.le_refl _
  · have := hs e
    rw [Rows.uptoBulk]; omega
  · have := hs e
    rw [Rows.uptoBulk]; omega
theorem small {H : Type} {ds gs : List (DataW H)} (hk : Rows.uptoSmall H (ds ++ gs) = true) : (ds.map Rows.uptoBulk).sum ≤ 1048576 := by
  have h := of_decide_eq_true hk
  have hs : ∀ l : List (DataW H), (l.map Rows.uptoBulk).sum ≤ Rows.uptoBulkAll l := fun l => by
    induction l with
    | nil => exact Nat.le_refl _
    | cons x l ih => rw [List.map_cons, List.sum_cons, Rows.uptoBulkAll]; omega
  have h1 := hs (ds ++ gs)
  rw [List.map_append, List.sum_append] at h1
  omega

noncomputable def laidWorld (os : Os) : World := { World.holding Tryd.prog os ⟨#[], #[], []⟩ with heap := (((World.holding Tryd.prog os ⟨#[], #[], []⟩).heap.modify 0 fun
      | .cells _ t frozen => .cells #[.int .i64 5, .int .i64 7, .int .i64 13, .int .i64 17, .int .i64 19, .int .i64 31, .int .i64 61] t frozen
      | o => o).modify 1 fun
      | .cells _ t frozen => .cells #[.int .i64 2, .int .i64 0, .bool false, .int .u64 0] t frozen
      | o => o) }

theorem typecheckChains_met (os : Os) : laidMet Tryd.prog Rows.typecheckChainsUptoRow.laid ((laidWorld os).forCall (fun _ _ => 0) ⟨#[], #[.slice none 0 0, .bool false], []⟩).memory :=
  laidMet_of_run' 8 (by kernel_rfl) (by kernel_rfl)
theorem typecheckChains_reads (os : Os) {H : Type} (enc : TypeId × Value → H) : ∃ places, DataW.whole enc Tryd.prog ((laidWorld os).forCall (fun _ _ => 0) ⟨#[], #[.slice none 0 0, .bool false], []⟩).memory Tryd.f7.params.toList Rows.typecheckChainsSpec.vars false #[.slice none 0 0, .bool false].toList 8 = some ([.nil, .lit (.bool false)], [], places) :=
  ⟨[], by kernel_rfl⟩

set_option maxRecDepth 100000 in
theorem typecheckChains_lifted (os : Os) (started : os.Started) (H : Type) (enc : TypeId × Value → H) (F : Stop.Interp) :
    ReturnsInHanded {} Tryd.checked os 7 .any ((Rows.OpenSpec.upto Rows.typecheckChainsSpec).preRow enc Tryd.prog Tryd.f7 Rows.typecheckChainsUptoRow.domain false Rows.typecheckChainsUptoRow.laid) (((Rows.OpenSpec.upto Rows.typecheckChainsSpec).at F).post enc Tryd.prog Tryd.f7 false true false false) := by
  obtain ⟨places, hx⟩ := typecheckChains_reads os enc
  refine returnsInHanded_of_row (C := Tryd.checked) (s := Rows.OpenSpec.upto Rows.typecheckChainsSpec) own started (by kernel_rfl) Tryd.func7
    (witness_row_at (enc := enc) (C := Tryd.checked) false (laidWorld os) #[.slice none 0 0, .bool false] rfl (by kernel_rfl) (by kernel_rfl) (by kernel_rfl)
      (OpenSpec.preRow_of_cond 8 hx (by kernel_rfl) (fun k hk => by cases hk; kernel_rfl) (by kernel_rfl) (typecheckChains_met os))) ?_
  intro W base args ds gs before hval hW _ hcond _ hL _ _
  show Calls _ _ _ _ fun e W' => ∃ v, e = .returned v ∧ Rows.typecheckChainsSpec.post enc Tryd.prog Tryd.f7 false true false false W args v W'
  refine law_contractG bulkOK (N := 1048576) (P := Tryd.prog) (ts := [41, 32, 4]) (tb := 4) callOK (laid_wr hL) laidOut (by kernel_rfl) (by kernel_rfl) (by kernel_rfl) (by kernel_rfl) rfl (fun ds h => ?_) hval hW (small (hcond _ rfl)) fun vs hvs hbk => ?_
  · have h : ds.length = 2 := h
    match ds, h with
    | [a, b], _ => rfl
  · have hvs : TyArgs Tryd.prog [41, 4] vs := hvs
    obtain ⟨a, b, rfl, ha, hb⟩ := args_2v hvs
    obtain ⟨l, rfl, hl, hw⟩ := arg_words (e := 32) (by kernel_rfl) (by kernel_rfl) ha
    obtain ⟨t, rfl⟩ := arg_bool (by kernel_rfl) hb
    exact chains29 hw hl fun h' => rfl

theorem typecheckChains_said : Rows.TypecheckChainsUptoSaid :=
  OpenClaim.holds_of_cond 7 Tryd.f7 rfl rfl rfl rfl rfl rfl rfl ⟨rfl, rfl, rfl, rfl, rfl⟩ rfl rfl rfl rfl rfl (by kernel_rfl) Tryd.func7 (by kernel_rfl)
    (of_decide_eq_true (by kernel_rfl)) (by unfold Func.isWrapper; first | (rw [if_pos (by decide +kernel)]; kernel_rfl) | (rw [if_neg (by decide +kernel)]; exact ⟨rfl, rfl⟩))
    (fun os started H enc _ F => by rw [OpenClaim.pre_eq_preRow]; exact typecheckChains_lifted os started H enc F)

theorem typecheckChains_plain (f : FuncId) (fn : Func) (hf : Tryd.pinned.checked.prog.funcNamed "privity/privitylaw29.TypecheckChains" = some f) (hfn : Tryd.pinned.checked.prog.funcs[f]? = some fn) :
    true = Tryd.pinned.checked.prog.looks [] ∧ ∀ (j : Nat) t, fn.params[j]? = some t → Tryd.pinned.checked.prog.wantsStandIn t = false := by
  obtain rfl : f = 7 := Option.some.inj ((show Tryd.prog.funcNamed "privity/privitylaw29.TypecheckChains" = some 7 by kernel_rfl).symm.trans hf) |>.symm
  obtain rfl : fn = Tryd.f7 := (Option.some.inj (Tryd.func7.symm.trans hfn)).symm
  refine ⟨by kernel_rfl, fun j t ht => ?_⟩
  have hp : Tryd.f7.params = #[41, 4] := by kernel_rfl
  rw [hp] at ht
  have hm := Array.mem_of_getElem? ht
  simp only [List.mem_toArray, List.mem_cons, List.not_mem_nil, or_false] at hm
  rcases hm with rfl | rfl <;> exact (show Tryd.prog.wantsStandIn _ = false by kernel_rfl)

theorem typecheckChains_card : Rows.TypecheckChainsUptoCardSaid :=
  Claim7.holds_tied_plain_at .later [] _ _ _ _ typecheckChains_said (fun _ h => by cases h) (by kernel_rfl) (fun _ h => by cases h) typecheckChainsUpto_row_tie rfl ⟨rfl, rfl⟩ (by kernel_rfl) rfl typecheckChains_plain (by kernel_rfl)

end Go.Proofs.YtihmoaibgmhjeaaDoor
