/- ConstfoldEvalConstMatchesReference, as a run of the layer Ab. -/
import Derived.Test.YtemlhjlceeiflaaA10
import Derived.Test.YtemlhjlceeiflaaA11
set_option linter.unusedVariables false
set_option linter.unusedSimpArgs false
namespace Go.Ab.Ytemlhjlceeiflaa

def outP (e : Exp) : Prg := ⟨[], [], [.mk 5 noName [e] [] []]⟩
theorem outP_ok {e : Exp} (ok : EOk e) : POk (outP e) := by
  refine ⟨by simp [outP], by simp [outP], ?_, by simp [outP], by simp [outP], by rw [maxLen_eq]; simp [outP]⟩
  intro x hx
  have : x = .mk 5 noName [e] [] [] := by simpa [outP] using hx
  subst this
  have hm := maxLen_eq
  have hx2 : ∀ y ∈ [e], EOk y := fun y hy => by
    have : y = e := by simpa using hy
    subst this
    exact ok
  exact .mk ⟨by decide, by decide⟩ (by rw [hm]; decide) (by rw [hm]; simp) (by simp) (by simp) hx2 (by simp) (by simp)
theorem outP_bulk {e : Exp} : (outP e).v.bulk = e.v.bulk + 10 := by
  rw [prg_bulk]
  show 4 + 0 + 0 + V.bulks [(Stm.mk 5 noName [e] [] []).v] = _
  rw [bulks_one, stm_bulk]
  show 4 + 0 + 0 + (6 + 0 + V.bulks [e.v] + 0 + 0) = _
  rw [bulks_one]; omega

theorem law31_2 {e : Exp} (ok : EOk e) (hb : e.v.bulk ≤ 1048576) : R 4 [e.v] h0 (fun o _ => o = .ret (.bool true)) := by
  refine run4 (Nat.le_of_ble_eq_true rfl) ?_
  obtain ⟨k, o, n, s, ks⟩ := e
  simp -dsimp -implicitDefEqProofs only [↓STP, STQ, ne_eq, implies_true, forall_const, if_false, if_true, reduceCtorEq, ↓reduceIte, Nat.reduceEqDiff, Nat.reduceAdd, Int.reduceEq, Int.reduceLT, Int.reduceLE, Int.reduceNeg, Int.reduceAdd, Int.reduceSub, Int.reduceMul, Int.reduceToNat, Nat.reduceMul, Nat.reduceSub, Nat.reduceLT, Nat.reduceLeDiff, ir4, Exp.v_mk]
  refine awake31 fun h => ?_
  simp -dsimp -implicitDefEqProofs only [↓STP, STQ, ne_eq, implies_true, forall_const, if_false, if_true, reduceCtorEq, ↓reduceIte, Nat.reduceEqDiff, Nat.reduceAdd, Int.reduceEq, Int.reduceLT, Int.reduceLE, Int.reduceNeg, Int.reduceAdd, Int.reduceSub, Int.reduceMul, Int.reduceToNat, Nat.reduceMul, Nat.reduceSub, Nat.reduceLT, Nat.reduceLeDiff]
  rw [show (V.agg [V.vec [] .any, V.vec [] .any, V.vec [V.agg [V.int .i64 5, V.str ⟨#[]⟩, V.vec [V.agg [I k, I o, W n, .str s, .vec (ks.map Exp.v) .any]] .any, V.vec [] .any, V.vec [] .any]] .any]) = (outP (.mk k o n s ks)).v by
    simp only [outP, Prg.v, Prg.cells, List.map_cons, List.map_nil, Stm.v_mk, Exp.v_mk]; rfl]
  refine few_spec (outP_ok ok) (by rw [outP_bulk]; omega) fun b hb => ?_
  cases b with
  | false =>
    simp -dsimp -implicitDefEqProofs only [↓STP, STQ, ne_eq, implies_true, forall_const, if_false, if_true, reduceCtorEq, ↓reduceIte, Nat.reduceEqDiff, Nat.reduceAdd, Int.reduceEq, Int.reduceLT, Int.reduceLE, Int.reduceNeg, Int.reduceAdd, Int.reduceSub, Int.reduceMul, Int.reduceToNat, Nat.reduceMul, Nat.reduceSub, Nat.reduceLT, Nat.reduceLeDiff]
  | true =>
    have hv : VE (.mk k o n s ks) 2 := by
      have h1 := VSs_all.1 (hb rfl).body _ (by simp [outP]; rfl)
      exact (VS_mk.1 h1).2.2.2.2.2.2.2.2.1 _ (by simp)
    simp -dsimp -implicitDefEqProofs only [↓STP, STQ, ne_eq, implies_true, forall_const, if_false, if_true, reduceCtorEq, ↓reduceIte, Nat.reduceEqDiff, Nat.reduceAdd, Int.reduceEq, Int.reduceLT, Int.reduceLE, Int.reduceNeg, Int.reduceAdd, Int.reduceSub, Int.reduceMul, Int.reduceToNat, Nat.reduceMul, Nat.reduceSub, Nat.reduceLT, Nat.reduceLeDiff]
    rw [← Exp.v_mk]
    refine evalG hv ok ?_
    simp -dsimp -implicitDefEqProofs only [↓STP, STQ, ne_eq, implies_true, forall_const, if_false, if_true, reduceCtorEq, ↓reduceIte, Nat.reduceEqDiff, Nat.reduceAdd, Int.reduceEq, Int.reduceLT, Int.reduceLE, Int.reduceNeg, Int.reduceAdd, Int.reduceSub, Int.reduceMul, Int.reduceToNat, Nat.reduceMul, Nat.reduceSub, Nat.reduceLT, Nat.reduceLeDiff, T3_eq]
    rw [← Exp.v_mk]
    refine evalR _ 2 _ _ hv ok ?_
    simp -dsimp -implicitDefEqProofs only [↓STP, STQ, ne_eq, implies_true, forall_const, if_false, if_true, reduceCtorEq, ↓reduceIte, Nat.reduceEqDiff, Nat.reduceAdd, Int.reduceEq, Int.reduceLT, Int.reduceLE, Int.reduceNeg, Int.reduceAdd, Int.reduceSub, Int.reduceMul, Int.reduceToNat, Nat.reduceMul, Nat.reduceSub, Nat.reduceLT, Nat.reduceLeDiff, T3_eq]
    rw [beq_self_eq_true]
end Go.Ab.Ytemlhjlceeiflaa
