/- Folding, as the given program does it: expressions. -/
import Derived.Test.YtemlhjlceeiflaaA10
import Derived.Test.YtemlhjlceeiflaaA12
set_option linter.unusedVariables false
set_option linter.unusedSimpArgs false
namespace Go.Ab
theorem store2 {st : S} {k : Nat} {a b : V} : storeV st (.lptr k 2 0) (.agg [a, b]) 2 = some { st with m := upd st.m k (some [a, b]) } := rfl
theorem v_cells5 {e : Exp} : e.v.cells.length = 5 := Exp.v_clen
theorem mapE_cells {l : List Exp} {f : Exp → Exp} : ∀ e ∈ l.map (fun x => (f x).v), e.cells.length = 5 := by
  intro e he
  obtain ⟨x, _, rfl⟩ := List.mem_map.1 he
  exact Exp.v_clen
theorem mkEl_v {e : Exp} : mkEl true e.v.cells = e.v := Exp.v_ag
end Go.Ab
namespace Go.Ab.Ytemlhjlceeiflaa
section
variable {h : H} {K : Out → H → Prop}

def FE (f : FuncId) (e : Exp) : Prop := ∀ (lv : Nat) (h : H) (K : Out → H → Prop), VE e lv → EOk e → K (.ret (foldE e).v) h → R f [e.v] h K

theorem exprsG_of {l : List Exp} {lv : Nat} (hl : l.length ≤ 4) (ih : ∀ x ∈ l, FE 79 x) (hv : ∀ x ∈ l, VE x lv) (ok : ∀ x ∈ l, EOk x) (hK : K (.ret (.vec ((l.map foldE).map Exp.v) .any)) h) : R 56 [.vec (l.map Exp.v) .any] h K := by
  refine run56 (Nat.le_of_ble_eq_true rfl) ?_
  simp -dsimp -implicitDefEqProofs only [↓STP, STQ, ne_eq, implies_true, forall_const, if_false, if_true, reduceCtorEq, ↓reduceIte, Nat.reduceEqDiff, Nat.reduceAdd, Int.reduceEq, Int.reduceLT, Int.reduceLE, Int.reduceNeg, Int.reduceAdd, Int.reduceSub, Int.reduceMul, Int.reduceToNat, Nat.reduceMul, Nat.reduceSub, Nat.reduceLT, Nat.reduceLeDiff, ir56, List.length_map]
  refine codeT_for (N := l.length) (fun i => ⟨upd (upd (upd (upd ρ0 3 (.vec ((l.take i).map fun x => (foldE x).v) (.own 0))) 6 (.vec (l.map Exp.v) .any)) 7 (I l.length)) 8 (I i), m0, 1, [], h⟩) (fun _ => True) (by simp -dsimp -implicitDefEqProofs only [↓STP, STQ, ne_eq, implies_true, forall_const, if_false, if_true, reduceCtorEq, ↓reduceIte, Nat.reduceEqDiff, Nat.reduceAdd, Int.reduceEq, Int.reduceLT, Int.reduceLE, Int.reduceNeg, Int.reduceAdd, Int.reduceSub, Int.reduceMul, Int.reduceToNat, Nat.reduceMul, Nat.reduceSub, Nat.reduceLT, Nat.reduceLeDiff] <;> rfl) trivial (fun i hi _ => ?_) (fun _ => ?_) mono
  · have hget := get_map (f := Exp.v) hi
    have hx := ih _ (List.getElem_mem hi)
    have hvx := hv _ (List.getElem_mem hi)
    have okx := ok _ (List.getElem_mem hi)
    have w1 := wiM (show i < 9223372036854775807 by omega)
    have htk : l.take (i + 1) = l.take i ++ [l[i]] := by rw [List.take_add_one, List.getElem?_eq_getElem hi]; rfl
    rw [htk]
    generalize l[i] = x at *
    simp -dsimp -implicitDefEqProofs only [↓STP, STQ, ne_eq, implies_true, forall_const, if_false, if_true, reduceCtorEq, ↓reduceIte, Nat.reduceEqDiff, Nat.reduceAdd, Int.reduceEq, Int.reduceLT, Int.reduceLE, Int.reduceNeg, Int.reduceAdd, Int.reduceSub, Int.reduceMul, Int.reduceToNat, Nat.reduceMul, Nat.reduceSub, Nat.reduceLT, Nat.reduceLeDiff, Int.ofNat_lt, hi, hget, storeE, Exp.v_outs, Exp.v_clen, Exp.v_tk, Exp.v_ag, Exp.v_out, eq_self]
    refine hx _ _ _ hvx okx ?_
    obtain ⟨k, o, n, s, ks, hz⟩ : ∃ k o n s ks, foldE x = .mk k o n s ks := by
      cases foldE x with
      | mk k o n s ks => exact ⟨k, o, n, s, ks, rfl⟩
    simp -dsimp -implicitDefEqProofs only [↓STP, STQ, ne_eq, implies_true, forall_const, if_false, if_true, reduceCtorEq, ↓reduceIte, Nat.reduceEqDiff, Nat.reduceAdd, Int.reduceEq, Int.reduceLT, Int.reduceLE, Int.reduceNeg, Int.reduceAdd, Int.reduceSub, Int.reduceMul, Int.reduceToNat, Nat.reduceMul, Nat.reduceSub, Nat.reduceLT, Nat.reduceLeDiff, hz, Exp.v_mk]
    rw [app1_own (sz := 5) (by simp) mapE_cells rfl (by decide) (by decide) (by rw [List.length_map, List.length_take]; omega)]
    simp -dsimp -implicitDefEqProofs only [↓STP, STQ, ne_eq, implies_true, forall_const, if_false, if_true, reduceCtorEq, ↓reduceIte, Nat.reduceEqDiff, Nat.reduceAdd, Int.reduceEq, Int.reduceLT, Int.reduceLE, Int.reduceNeg, Int.reduceAdd, Int.reduceSub, Int.reduceMul, Int.reduceToNat, Nat.reduceMul, Nat.reduceSub, Nat.reduceLT, Nat.reduceLeDiff, w1, List.map_append, hz, Exp.v_mk]
  · rw [List.take_length]
    simp -dsimp -implicitDefEqProofs only [↓STP, STQ, ne_eq, implies_true, forall_const, if_false, if_true, reduceCtorEq, ↓reduceIte, Nat.reduceEqDiff, Nat.reduceAdd, Int.reduceEq, Int.reduceLT, Int.reduceLE, Int.reduceNeg, Int.reduceAdd, Int.reduceSub, Int.reduceMul, Int.reduceToNat, Nat.reduceMul, Nat.reduceSub, Nat.reduceLT, Nat.reduceLeDiff, Int.lt_irrefl]
    rw [List.map_map] at hK
    exact hK

theorem exprG (e : Exp) : FE 79 e := by
  induction e using Exp.ind with
  | h k o n s ks ih =>
    intro lv h K hv ok hK
    obtain ⟨v1, v2, v3, v4, v5, v6, v7, v8, v9⟩ := VE_mk.1 hv
    obtain ⟨hk, ho, hn, hs, hl, hks⟩ := EOk_mk ok
    have hl4 : ks.length ≤ 4 := by
      unfold kidsN at v2
      repeat' split at v2
      all_goals omega
    have hv' : VE (.mk k o n s (ks.map foldE)) lv := VE_kids hv fun x hx => VE_fold x _ (v9 x hx)
    have ok' : EOk (.mk k o n s (ks.map foldE)) := EOk_kids ok fun x hx => EOk_fold x _ (v9 x hx) (hks x hx)
    rw [foldE_mk] at hK
    unfold foldTop at hK
    refine run79 (Nat.le_of_ble_eq_true rfl) ?_
    simp -dsimp -implicitDefEqProofs only [↓STP, STQ, ne_eq, implies_true, forall_const, if_false, if_true, reduceCtorEq, ↓reduceIte, Nat.reduceEqDiff, Nat.reduceAdd, Int.reduceEq, Int.reduceLT, Int.reduceLE, Int.reduceNeg, Int.reduceAdd, Int.reduceSub, Int.reduceMul, Int.reduceToNat, Nat.reduceMul, Nat.reduceSub, Nat.reduceLT, Nat.reduceLeDiff, Exp.v_mk, ir79]
    refine exprsG_of hl4 ih v9 hks ?_
    simp -dsimp -implicitDefEqProofs only [↓STP, STQ, ne_eq, implies_true, forall_const, if_false, if_true, reduceCtorEq, ↓reduceIte, Nat.reduceEqDiff, Nat.reduceAdd, Int.reduceEq, Int.reduceLT, Int.reduceLE, Int.reduceNeg, Int.reduceAdd, Int.reduceSub, Int.reduceMul, Int.reduceToNat, Nat.reduceMul, Nat.reduceSub, Nat.reduceLT, Nat.reduceLeDiff, storeV]
    rw [← Exp.v_mk]
    refine of31 _ lv _ _ hv' ok' ?_
    by_cases c1 : (constE (.mk k o n s (ks.map foldE))).2 = 1
    · simp -dsimp -implicitDefEqProofs only [↓STP, STQ, ne_eq, implies_true, forall_const, if_false, if_true, reduceCtorEq, ↓reduceIte, Nat.reduceEqDiff, Nat.reduceAdd, Int.reduceEq, Int.reduceLT, Int.reduceLE, Int.reduceNeg, Int.reduceAdd, Int.reduceSub, Int.reduceMul, Int.reduceToNat, Nat.reduceMul, Nat.reduceSub, Nat.reduceLT, Nat.reduceLeDiff, KV_eq, storeV, eq_true c1]
      rw [if_pos c1] at hK
      rw [numE, Exp.v_mk] at hK
      exact hK
    · rw [if_neg c1] at hK
      by_cases c6 : k = 6
      rotate_left
      · simp -dsimp -implicitDefEqProofs only [↓STP, STQ, ne_eq, implies_true, forall_const, if_false, if_true, reduceCtorEq, ↓reduceIte, Nat.reduceEqDiff, Nat.reduceAdd, Int.reduceEq, Int.reduceLT, Int.reduceLE, Int.reduceNeg, Int.reduceAdd, Int.reduceSub, Int.reduceMul, Int.reduceToNat, Nat.reduceMul, Nat.reduceSub, Nat.reduceLT, Nat.reduceLeDiff, KV_eq, storeV, eq_false c1, eq_false c6]
        rw [if_neg fun h => c6 h.1] at hK
        rw [Exp.v_mk] at hK
        exact hK
      subst c6
      obtain ⟨a, b, c, rfl⟩ := len3 (show ks.length = 3 by have : kidsN 6 = 3 := rfl; omega)
      obtain ⟨_, _, _, _, _, _, _, _, v9'⟩ := VE_mk.1 hv'
      obtain ⟨_, _, _, _, _, hks'⟩ := EOk_mk ok'
      have hK : K (.ret (if (6 : Int) = 6 ∧ (constE (foldE a)).2 = 2 then (if (constE (foldE a)).1 = 1 then foldE b else foldE c) else .mk 6 o n s [foldE a, foldE b, foldE c]).v) h := hK
      have da : foldE a ∈ [a, b, c].map foldE := by simp
      have c1 : ¬ (constE (.mk 6 o n s [foldE a, foldE b, foldE c])).2 = 1 := c1
      simp -dsimp -implicitDefEqProofs only [↓STP, STQ, ne_eq, implies_true, forall_const, if_false, if_true, reduceCtorEq, ↓reduceIte, Nat.reduceEqDiff, Nat.reduceAdd, Int.reduceEq, Int.reduceLT, Int.reduceLE, Int.reduceNeg, Int.reduceAdd, Int.reduceSub, Int.reduceMul, Int.reduceToNat, Nat.reduceMul, Nat.reduceSub, Nat.reduceLT, Nat.reduceLeDiff, KV_eq, storeV, eq_false c1, Exp.v_outs, Exp.v_clen, Exp.v_tk, Exp.v_ag, Exp.v_out]
      refine of31 _ (lv + 1) _ _ (v9' _ da) (hks' _ da) ?_
      have ca := ck_const _ _ (v9' _ da)
      by_cases c2 : (constE (foldE a)).2 = 2
      rotate_left
      · simp -dsimp -implicitDefEqProofs only [↓STP, STQ, ne_eq, implies_true, forall_const, if_false, if_true, reduceCtorEq, ↓reduceIte, Nat.reduceEqDiff, Nat.reduceAdd, Int.reduceEq, Int.reduceLT, Int.reduceLE, Int.reduceNeg, Int.reduceAdd, Int.reduceSub, Int.reduceMul, Int.reduceToNat, Nat.reduceMul, Nat.reduceSub, Nat.reduceLT, Nat.reduceLeDiff, KV_eq, storeV, eq_false c2]
        rw [if_neg fun h => c2 h.2, Exp.v_mk] at hK
        exact hK
      rw [if_pos ⟨rfl, c2⟩] at hK
      have na : (constE (foldE a)).1 = 0 ∨ (constE (foldE a)).1 = 1 := by rcases ca with ca | ca | ca <;> omega
      have uw1 : IntKind.u64.wrap 1 = 1 := rfl
      have uw2 : IntKind.u64.wrap 2 = 2 := rfl
      rcases na with na | na
      · simp -dsimp -implicitDefEqProofs only [↓STP, STQ, ne_eq, implies_true, forall_const, if_false, if_true, reduceCtorEq, ↓reduceIte, Nat.reduceEqDiff, Nat.reduceAdd, Int.reduceEq, Int.reduceLT, Int.reduceLE, Int.reduceNeg, Int.reduceAdd, Int.reduceSub, Int.reduceMul, Int.reduceToNat, Nat.reduceMul, Nat.reduceSub, Nat.reduceLT, Nat.reduceLeDiff, KV_eq, store2, storeE, eq_true c2, na, uw1, uw2, Exp.v_outs, Exp.v_clen, Exp.v_tk, Exp.v_ag, Exp.v_out]
        rw [if_neg (by omega)] at hK
        rw [Exp.v_eq (foldE c)]
        show withV (V.out (.agg (foldE c).cells)) _ _
        rw [← Exp.v_eq, Exp.v_out]
        exact hK
      · simp -dsimp -implicitDefEqProofs only [↓STP, STQ, ne_eq, implies_true, forall_const, if_false, if_true, reduceCtorEq, ↓reduceIte, Nat.reduceEqDiff, Nat.reduceAdd, Int.reduceEq, Int.reduceLT, Int.reduceLE, Int.reduceNeg, Int.reduceAdd, Int.reduceSub, Int.reduceMul, Int.reduceToNat, Nat.reduceMul, Nat.reduceSub, Nat.reduceLT, Nat.reduceLeDiff, KV_eq, store2, storeE, eq_true c2, na, uw1, uw2, Exp.v_outs, Exp.v_clen, Exp.v_tk, Exp.v_ag, Exp.v_out]
        rw [if_pos na] at hK
        rw [Exp.v_eq (foldE b)]
        show withV (V.out (.agg (foldE b).cells)) _ _
        rw [← Exp.v_eq, Exp.v_out]
        exact hK

end
end Go.Ab.Ytemlhjlceeiflaa
