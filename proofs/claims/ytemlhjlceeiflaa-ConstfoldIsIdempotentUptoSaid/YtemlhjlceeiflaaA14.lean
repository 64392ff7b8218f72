/- Folding, as the reference does it: expressions. -/
import Derived.Test.YtemlhjlceeiflaaA13
set_option linter.unusedVariables false
set_option linter.unusedSimpArgs false
namespace Go.Ab.Ytemlhjlceeiflaa
section
variable {h : H} {K : Out → H → Prop}

theorem exprsR_of {l : List Exp} {lv : Nat} (hl : l.length ≤ 4) (ih : ∀ x ∈ l, FE 58 x) (hv : ∀ x ∈ l, VE x lv) (ok : ∀ x ∈ l, EOk x) (hK : K (.ret (.vec ((l.map foldE).map Exp.v) .any)) h) : R 38 [.vec (l.map Exp.v) .any] h K := by
  refine run38 (Nat.le_of_ble_eq_true rfl) ?_
  simp -dsimp -implicitDefEqProofs only [↓STP, STQ, ne_eq, implies_true, forall_const, if_false, if_true, reduceCtorEq, ↓reduceIte, Nat.reduceEqDiff, Nat.reduceAdd, Int.reduceEq, Int.reduceLT, Int.reduceLE, Int.reduceNeg, Int.reduceAdd, Int.reduceSub, Int.reduceMul, Int.reduceToNat, Nat.reduceMul, Nat.reduceSub, Nat.reduceLT, Nat.reduceLeDiff, ir38, List.length_map]
  refine codeT_for (N := l.length) (fun i => ⟨upd (upd (upd ρ0 0 (.vec (l.map Exp.v) .any)) 3 (.vec ((l.take i).map fun x => (foldE x).v) (.own 0))) 4 (I i), m0, 1, [], h⟩) (fun _ => True) (by simp -dsimp -implicitDefEqProofs only [↓STP, STQ, ne_eq, implies_true, forall_const, if_false, if_true, reduceCtorEq, ↓reduceIte, Nat.reduceEqDiff, Nat.reduceAdd, Int.reduceEq, Int.reduceLT, Int.reduceLE, Int.reduceNeg, Int.reduceAdd, Int.reduceSub, Int.reduceMul, Int.reduceToNat, Nat.reduceMul, Nat.reduceSub, Nat.reduceLT, Nat.reduceLeDiff] <;> rfl) trivial (fun i hi _ => ?_) (fun _ => ?_) mono
  · have hget := get_map (f := Exp.v) hi
    have hx := ih _ (List.getElem_mem hi)
    have hvx := hv _ (List.getElem_mem hi)
    have okx := ok _ (List.getElem_mem hi)
    have w1 := wiM (show i < 9223372036854775807 by omega)
    have htk : l.take (i + 1) = l.take i ++ [l[i]] := by rw [List.take_add_one, List.getElem?_eq_getElem hi]; rfl
    rw [htk]
    generalize l[i] = x at *
    simp -dsimp -implicitDefEqProofs only [↓STP, STQ, ne_eq, implies_true, forall_const, if_false, if_true, reduceCtorEq, ↓reduceIte, Nat.reduceEqDiff, Nat.reduceAdd, Int.reduceEq, Int.reduceLT, Int.reduceLE, Int.reduceNeg, Int.reduceAdd, Int.reduceSub, Int.reduceMul, Int.reduceToNat, Nat.reduceMul, Nat.reduceSub, Nat.reduceLT, Nat.reduceLeDiff, List.length_map, Int.ofNat_lt, hi, hget, storeE, Exp.v_outs, Exp.v_clen, Exp.v_tk, Exp.v_ag, Exp.v_out, eq_self]
    refine hx _ _ _ hvx okx ?_
    obtain ⟨k, o, n, s, ks, hz⟩ : ∃ k o n s ks, foldE x = .mk k o n s ks := by
      cases foldE x with
      | mk k o n s ks => exact ⟨k, o, n, s, ks, rfl⟩
    simp -dsimp -implicitDefEqProofs only [↓STP, STQ, ne_eq, implies_true, forall_const, if_false, if_true, reduceCtorEq, ↓reduceIte, Nat.reduceEqDiff, Nat.reduceAdd, Int.reduceEq, Int.reduceLT, Int.reduceLE, Int.reduceNeg, Int.reduceAdd, Int.reduceSub, Int.reduceMul, Int.reduceToNat, Nat.reduceMul, Nat.reduceSub, Nat.reduceLT, Nat.reduceLeDiff, hz, Exp.v_mk]
    rw [app1_own (sz := 5) (by simp) mapE_cells rfl (by decide) (by decide) (by rw [List.length_map, List.length_take]; omega)]
    simp -dsimp -implicitDefEqProofs only [↓STP, STQ, ne_eq, implies_true, forall_const, if_false, if_true, reduceCtorEq, ↓reduceIte, Nat.reduceEqDiff, Nat.reduceAdd, Int.reduceEq, Int.reduceLT, Int.reduceLE, Int.reduceNeg, Int.reduceAdd, Int.reduceSub, Int.reduceMul, Int.reduceToNat, Nat.reduceMul, Nat.reduceSub, Nat.reduceLT, Nat.reduceLeDiff, w1, List.map_append, hz, Exp.v_mk]
  · rw [List.take_length]
    simp -dsimp -implicitDefEqProofs only [↓STP, STQ, ne_eq, implies_true, forall_const, if_false, if_true, reduceCtorEq, ↓reduceIte, Nat.reduceEqDiff, Nat.reduceAdd, Int.reduceEq, Int.reduceLT, Int.reduceLE, Int.reduceNeg, Int.reduceAdd, Int.reduceSub, Int.reduceMul, Int.reduceToNat, Nat.reduceMul, Nat.reduceSub, Nat.reduceLT, Nat.reduceLeDiff, List.length_map, Int.lt_irrefl]
    rw [List.map_map] at hK
    exact hK

theorem exprR (e : Exp) : FE 58 e := by
  induction e using Exp.ind with
  | h k o n s ks ih =>
    intro lv h K hv ok hK
    obtain ⟨v1, v2, v3, v4, v5, v6, v7, v8, v9⟩ := VE_mk.1 hv
    obtain ⟨hk, ho, hn, hs, hl, hks⟩ := EOk_mk ok
    have hl4 : ks.length ≤ 4 := by
      unfold kidsN at v2
      repeat' split at v2
      all_goals omega
    have hv' : VE (.mk k o n s (ks.map foldE)) lv := VE_kids hv fun x hx => VE_fold x _ (v9 x hx)
    have ok' : EOk (.mk k o n s (ks.map foldE)) := EOk_kids ok fun x hx => EOk_fold x _ (v9 x hx) (hks x hx)
    rw [foldE_mk] at hK
    unfold foldTop at hK
    refine run58 (Nat.le_of_ble_eq_true rfl) ?_
    simp -dsimp -implicitDefEqProofs only [↓STP, STQ, ne_eq, implies_true, forall_const, if_false, if_true, reduceCtorEq, ↓reduceIte, Nat.reduceEqDiff, Nat.reduceAdd, Int.reduceEq, Int.reduceLT, Int.reduceLE, Int.reduceNeg, Int.reduceAdd, Int.reduceSub, Int.reduceMul, Int.reduceToNat, Nat.reduceMul, Nat.reduceSub, Nat.reduceLT, Nat.reduceLeDiff, Exp.v_mk, ir58]
    refine exprsR_of hl4 ih v9 hks ?_
    simp -dsimp -implicitDefEqProofs only [↓STP, STQ, ne_eq, implies_true, forall_const, if_false, if_true, reduceCtorEq, ↓reduceIte, Nat.reduceEqDiff, Nat.reduceAdd, Int.reduceEq, Int.reduceLT, Int.reduceLE, Int.reduceNeg, Int.reduceAdd, Int.reduceSub, Int.reduceMul, Int.reduceToNat, Nat.reduceMul, Nat.reduceSub, Nat.reduceLT, Nat.reduceLeDiff, storeV]
    rw [← Exp.v_mk]
    refine evalR _ lv _ _ hv' ok' ?_
    have cm := ck_const _ _ hv'
    have k3 : (constE (.mk k o n s (ks.map foldE))).2 = 1 ∨ ((constE (.mk k o n s (ks.map foldE))).2 = 0 ∨ (constE (.mk k o n s (ks.map foldE))).2 = 2) := by rcases cm with c | c | c <;> omega
    rcases k3 with c1 | k3
    · simp -dsimp -implicitDefEqProofs only [↓STP, STQ, ne_eq, implies_true, forall_const, if_false, if_true, reduceCtorEq, ↓reduceIte, Nat.reduceEqDiff, Nat.reduceAdd, Int.reduceEq, Int.reduceLT, Int.reduceLE, Int.reduceNeg, Int.reduceAdd, Int.reduceSub, Int.reduceMul, Int.reduceToNat, Nat.reduceMul, Nat.reduceSub, Nat.reduceLT, Nat.reduceLeDiff, T3_eq, storeV, c1]
      rw [if_pos c1] at hK
      rw [numE, Exp.v_mk] at hK
      exact hK
    rw [if_neg (by omega)] at hK
    by_cases c6 : k = 6
    rotate_left
    · rw [if_neg fun h => c6 h.1] at hK
      rw [Exp.v_mk] at hK
      rcases k3 with c1 | c1
      all_goals
        simp -dsimp -implicitDefEqProofs only [↓STP, STQ, ne_eq, implies_true, forall_const, if_false, if_true, reduceCtorEq, ↓reduceIte, Nat.reduceEqDiff, Nat.reduceAdd, Int.reduceEq, Int.reduceLT, Int.reduceLE, Int.reduceNeg, Int.reduceAdd, Int.reduceSub, Int.reduceMul, Int.reduceToNat, Nat.reduceMul, Nat.reduceSub, Nat.reduceLT, Nat.reduceLeDiff, T3_eq, storeV, c1, eq_false c6]
        exact hK
    subst c6
    obtain ⟨a, b, c, rfl⟩ := len3 (show ks.length = 3 by have : kidsN 6 = 3 := rfl; omega)
    obtain ⟨_, _, _, _, _, _, _, _, v9'⟩ := VE_mk.1 hv'
    obtain ⟨_, _, _, _, _, hks'⟩ := EOk_mk ok'
    have hK : K (.ret (if (6 : Int) = 6 ∧ (constE (foldE a)).2 = 2 then (if (constE (foldE a)).1 = 1 then foldE b else foldE c) else .mk 6 o n s [foldE a, foldE b, foldE c]).v) h := hK
    have da : foldE a ∈ [a, b, c].map foldE := by simp
    have k3 : (constE (.mk 6 o n s [foldE a, foldE b, foldE c])).2 = 0 ∨ (constE (.mk 6 o n s [foldE a, foldE b, foldE c])).2 = 2 := k3
    have ca := ck_const _ _ (v9' _ da)
    have uw1 : IntKind.u64.wrap 1 = 1 := rfl
    have uw2 : IntKind.u64.wrap 2 = 2 := rfl
    rcases k3 with c1 | c1
    all_goals
      simp -dsimp -implicitDefEqProofs only [↓STP, STQ, ne_eq, implies_true, forall_const, if_false, if_true, reduceCtorEq, ↓reduceIte, Nat.reduceEqDiff, Nat.reduceAdd, Int.reduceEq, Int.reduceLT, Int.reduceLE, Int.reduceNeg, Int.reduceAdd, Int.reduceSub, Int.reduceMul, Int.reduceToNat, Nat.reduceMul, Nat.reduceSub, Nat.reduceLT, Nat.reduceLeDiff, T3_eq, storeV, c1, Exp.v_outs, Exp.v_clen, Exp.v_tk, Exp.v_ag, Exp.v_out]
      refine evalR _ (lv + 1) _ _ (v9' _ da) (hks' _ da) ?_
      have k4 : (constE (foldE a)).2 = 2 ∨ ((constE (foldE a)).2 = 0 ∨ (constE (foldE a)).2 = 1) := by rcases ca with c | c | c <;> omega
      rcases k4 with c2 | k4
      rotate_left
      · rw [if_neg (by omega), Exp.v_mk] at hK
        rcases k4 with c2 | c2
        all_goals
          simp -dsimp -implicitDefEqProofs only [↓STP, STQ, ne_eq, implies_true, forall_const, if_false, if_true, reduceCtorEq, ↓reduceIte, Nat.reduceEqDiff, Nat.reduceAdd, Int.reduceEq, Int.reduceLT, Int.reduceLE, Int.reduceNeg, Int.reduceAdd, Int.reduceSub, Int.reduceMul, Int.reduceToNat, Nat.reduceMul, Nat.reduceSub, Nat.reduceLT, Nat.reduceLeDiff, T3_eq, storeV, c2]
          exact hK
      rw [if_pos ⟨rfl, c2⟩] at hK
      have na : (constE (foldE a)).1 = 0 ∨ (constE (foldE a)).1 = 1 := by rcases ca with ca | ca | ca <;> omega
      rcases na with na | na
      · simp -dsimp -implicitDefEqProofs only [↓STP, STQ, ne_eq, implies_true, forall_const, if_false, if_true, reduceCtorEq, ↓reduceIte, Nat.reduceEqDiff, Nat.reduceAdd, Int.reduceEq, Int.reduceLT, Int.reduceLE, Int.reduceNeg, Int.reduceAdd, Int.reduceSub, Int.reduceMul, Int.reduceToNat, Nat.reduceMul, Nat.reduceSub, Nat.reduceLT, Nat.reduceLeDiff, T3_eq, store2, storeE, c2, na, uw1, uw2, Exp.v_outs, Exp.v_clen, Exp.v_tk, Exp.v_ag, Exp.v_out]
        rw [if_neg (by omega)] at hK
        rw [Exp.v_eq (foldE c)]
        show withV (V.out (.agg (foldE c).cells)) _ _
        rw [← Exp.v_eq, Exp.v_out]
        exact hK
      · simp -dsimp -implicitDefEqProofs only [↓STP, STQ, ne_eq, implies_true, forall_const, if_false, if_true, reduceCtorEq, ↓reduceIte, Nat.reduceEqDiff, Nat.reduceAdd, Int.reduceEq, Int.reduceLT, Int.reduceLE, Int.reduceNeg, Int.reduceAdd, Int.reduceSub, Int.reduceMul, Int.reduceToNat, Nat.reduceMul, Nat.reduceSub, Nat.reduceLT, Nat.reduceLeDiff, T3_eq, store2, storeE, c2, na, uw1, uw2, Exp.v_outs, Exp.v_clen, Exp.v_tk, Exp.v_ag, Exp.v_out]
        rw [if_pos na] at hK
        rw [Exp.v_eq (foldE b)]
        show withV (V.out (.agg (foldE b).cells)) _ _
        rw [← Exp.v_eq, Exp.v_out]
        exact hK

end
end Go.Ab.Ytemlhjlceeiflaa
