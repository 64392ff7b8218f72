/- Constants (2): the given program's evaluation of expressions. -/
import Derived.Test.YtemlhjlceeiflaaA8
set_option linter.unusedVariables false
set_option linter.unusedSimpArgs false
namespace Go.Ab
theorem storeE {st : S} {k : Nat} {e : Exp} : storeV st (.lptr k 5 0) e.v 5 = some { st with m := upd st.m k (some e.v.cells) } := by rw [Exp.v_eq]; rfl
theorem storeSt {st : S} {k : Nat} {e : Stm} : storeV st (.lptr k 5 0) e.v 5 = some { st with m := upd st.m k (some e.v.cells) } := by rw [Stm.v_eq]; rfl
theorem storeK {st : S} {k : Nat} {x : Nat × Int} : storeV st (.lptr k 2 0) (KV x) 2 = some { st with m := upd st.m k (some [W x.1, I x.2]) } := rfl
theorem KV_ag {x : Nat × Int} : V.agg [W x.1, I x.2] = KV x := rfl
end Go.Ab
namespace Go.Ab.Ytemlhjlceeiflaa
section
variable {h : H} {K : Out → H → Prop}

theorem of31 (e : Exp) : ∀ (lv : Nat) (h : H) (K : Out → H → Prop), VE e lv → EOk e → K (.ret (KV (constE e))) h → R 24 [e.v] h K := by
  induction e using Exp.ind with
  | h k o n s ks ih =>
    intro lv h K hv ok hK
    obtain ⟨v1, v2, v3, v4, v5, v6, v7, v8, v9⟩ := VE_mk.1 hv
    obtain ⟨hk, ho, hn, hs, hl, hks⟩ := EOk_mk ok
    have hm := maxLen_eq
    refine run24 (Nat.le_of_ble_eq_true rfl) ?_
    simp -dsimp -implicitDefEqProofs only [↓STP, STQ, ne_eq, implies_true, forall_const, if_false, if_true, reduceCtorEq, ↓reduceIte, Nat.reduceEqDiff, Nat.reduceAdd, Int.reduceEq, Int.reduceLT, Int.reduceLE, Int.reduceNeg, Int.reduceAdd, Int.reduceSub, Int.reduceMul, Int.reduceToNat, Nat.reduceMul, Nat.reduceSub, Nat.reduceLT, Nat.reduceLeDiff, Exp.v_mk, ir24, List.length_map]
    refine codeT_for (N := ks.length) (fun i => ⟨upd (upd (upd (upd (upd (upd ρ0 1 (.lptr 0 5 0)) 2 (.lptr 1 2 0)) 3 (.vec ((ks.take i).map fun x => KV (constE x)) (.own 2))) 9 (.vec (ks.map Exp.v) .any)) 10 (I ks.length)) 11 (I i),
      upd (upd m0 0 (some [I k, I o, W n, .str s, .vec (ks.map Exp.v) .any])) 1 (some [W 0, I 0]), 3, [], h⟩) (fun i => (ks.take i).any (fun x => decide ((constE x).2 = 0)) = false) (by simp -dsimp -implicitDefEqProofs only [↓STP, STQ, ne_eq, implies_true, forall_const, if_false, if_true, reduceCtorEq, ↓reduceIte, Nat.reduceEqDiff, Nat.reduceAdd, Int.reduceEq, Int.reduceLT, Int.reduceLE, Int.reduceNeg, Int.reduceAdd, Int.reduceSub, Int.reduceMul, Int.reduceToNat, Nat.reduceMul, Nat.reduceSub, Nat.reduceLT, Nat.reduceLeDiff] <;> rfl) (by simp) (fun i hi hp => ?_) (fun hp => ?_) mono
    · have hget := get_map (f := Exp.v) hi
      have hx := ih _ (List.getElem_mem hi) (lv + 1) h
      have hvx := v9 _ (List.getElem_mem hi)
      have okx := hks _ (List.getElem_mem hi)
      have w1 := wiM (show i < 9223372036854775807 by omega)
      have htk : ks.take (i + 1) = ks.take i ++ [ks[i]] := by rw [List.take_add_one, List.getElem?_eq_getElem hi]; rfl
      have hmem : ks[i] ∈ ks := List.getElem_mem hi
      have hi0 : i < 4294967296 := by
        have := kidsN_cases v2
        unfold kidsN at v2
        split at v2 <;> try split at v2 <;> try split at v2 <;> try split at v2
        all_goals omega
      rw [htk]
      generalize ks[i] = x at *
      simp -dsimp -implicitDefEqProofs only [↓STP, STQ, ne_eq, implies_true, forall_const, if_false, if_true, reduceCtorEq, ↓reduceIte, Nat.reduceEqDiff, Nat.reduceAdd, Int.reduceEq, Int.reduceLT, Int.reduceLE, Int.reduceNeg, Int.reduceAdd, Int.reduceSub, Int.reduceMul, Int.reduceToNat, Nat.reduceMul, Nat.reduceSub, Nat.reduceLT, Nat.reduceLeDiff, Int.ofNat_lt, hi, hget, storeE, Exp.v_outs, Exp.v_clen, Exp.v_tk, Exp.v_ag, Exp.v_out, eq_self]
      refine hx _ hvx okx ?_
      by_cases c : (constE x).2 = 0
      · simp -dsimp -implicitDefEqProofs only [↓STP, STQ, ne_eq, implies_true, forall_const, if_false, if_true, reduceCtorEq, ↓reduceIte, Nat.reduceEqDiff, Nat.reduceAdd, Int.reduceEq, Int.reduceLT, Int.reduceLE, Int.reduceNeg, Int.reduceAdd, Int.reduceSub, Int.reduceMul, Int.reduceToNat, Nat.reduceMul, Nat.reduceSub, Nat.reduceLT, Nat.reduceLeDiff, KV_eq, storeV, eq_true c]
        have e : constE (.mk k o n s ks) = (0, 0) := by
          rw [constE_mk]
          unfold constOf
          rw [if_pos]
          rw [List.any_map, List.any_eq_true]
          exact ⟨x, hmem, by simpa using c⟩
        rw [e] at hK
        exact hK
      · simp -dsimp -implicitDefEqProofs only [↓STP, STQ, ne_eq, implies_true, forall_const, if_false, if_true, reduceCtorEq, ↓reduceIte, Nat.reduceEqDiff, Nat.reduceAdd, Int.reduceEq, Int.reduceLT, Int.reduceLE, Int.reduceNeg, Int.reduceAdd, Int.reduceSub, Int.reduceMul, Int.reduceToNat, Nat.reduceMul, Nat.reduceSub, Nat.reduceLT, Nat.reduceLeDiff, KV_eq, storeV, eq_false c]
        rw [app1_own (sz := 2) (by simp) (by intro e he; obtain ⟨y, _, rfl⟩ := List.mem_map.1 he; rfl) rfl (by decide) (by decide) (by rw [List.length_map, List.length_take]; omega)]
        simp -dsimp -implicitDefEqProofs only [↓STP, STQ, ne_eq, implies_true, forall_const, if_false, if_true, reduceCtorEq, ↓reduceIte, Nat.reduceEqDiff, Nat.reduceAdd, Int.reduceEq, Int.reduceLT, Int.reduceLE, Int.reduceNeg, Int.reduceAdd, Int.reduceSub, Int.reduceMul, Int.reduceToNat, Nat.reduceMul, Nat.reduceSub, Nat.reduceLT, Nat.reduceLeDiff, w1, List.map_append, eq_self]
        refine ⟨rfl, ?_⟩
        simpa [hp] using c
    · rw [List.take_length] at *
      have ha : (ks.map constE).any (fun x => decide (x.2 = 0)) = false := by rw [List.any_map]; exact hp
      have ce : constE (.mk k o n s ks) = if k = 1 then (n, 1) else if k = 4 then opOf o (nthK (ks.map constE) 0) (nthK (ks.map constE) 1)
          else if k = 5 then (if (nthK (ks.map constE) 0).2 = 2 then truK (decide ((nthK (ks.map constE) 0).1 = 0)) else (0, 0))
          else if k = 6 then (if (nthK (ks.map constE) 0).2 = 2 ∧ (nthK (ks.map constE) 1).2 = (nthK (ks.map constE) 2).2 then (if (nthK (ks.map constE) 0).1 = 1 then nthK (ks.map constE) 1 else nthK (ks.map constE) 2) else (0, 0))
          else (0, 0) := by
        rw [constE_mk, constOf, ha]; rfl
      rw [ce] at hK
      have ck : ∀ x ∈ ks, CK (constE x) := fun x hx => ck_const x _ (v9 x hx)
      rcases kidsN_cases v2 with rfl | rfl | rfl | rfl | rfl | rfl
      · simp -dsimp -implicitDefEqProofs only [↓STP, STQ, ne_eq, implies_true, forall_const, if_false, if_true, reduceCtorEq, ↓reduceIte, Nat.reduceEqDiff, Nat.reduceAdd, Int.reduceEq, Int.reduceLT, Int.reduceLE, Int.reduceNeg, Int.reduceAdd, Int.reduceSub, Int.reduceMul, Int.reduceToNat, Nat.reduceMul, Nat.reduceSub, Nat.reduceLT, Nat.reduceLeDiff, List.length_map, Int.lt_irrefl, storeV]
        exact hK
      · simp -dsimp -implicitDefEqProofs only [↓STP, STQ, ne_eq, implies_true, forall_const, if_false, if_true, reduceCtorEq, ↓reduceIte, Nat.reduceEqDiff, Nat.reduceAdd, Int.reduceEq, Int.reduceLT, Int.reduceLE, Int.reduceNeg, Int.reduceAdd, Int.reduceSub, Int.reduceMul, Int.reduceToNat, Nat.reduceMul, Nat.reduceSub, Nat.reduceLT, Nat.reduceLeDiff, List.length_map, Int.lt_irrefl, storeV]
        exact hK
      · simp -dsimp -implicitDefEqProofs only [↓STP, STQ, ne_eq, implies_true, forall_const, if_false, if_true, reduceCtorEq, ↓reduceIte, Nat.reduceEqDiff, Nat.reduceAdd, Int.reduceEq, Int.reduceLT, Int.reduceLE, Int.reduceNeg, Int.reduceAdd, Int.reduceSub, Int.reduceMul, Int.reduceToNat, Nat.reduceMul, Nat.reduceSub, Nat.reduceLT, Nat.reduceLeDiff, List.length_map, Int.lt_irrefl, storeV]
        exact hK
      · obtain ⟨a, b, rfl⟩ := len2 (show ks.length = 2 by have : kidsN 4 = 2 := rfl; omega)
        have hK : K (.ret (KV (opOf o (constE a) (constE b)))) h := hK
        have ca := ck a (by simp)
        have cb := ck b (by simp)
        obtain ⟨o1, o2⟩ := v5 rfl
        have oo : o = 1 ∨ o = 2 ∨ o = 3 ∨ o = 4 ∨ o = 5 ∨ o = 6 ∨ o = 7 := by omega
        rcases oo with rfl | rfl | rfl | rfl | rfl | rfl | rfl
        · simp -dsimp -implicitDefEqProofs only [↓STP, STQ, ne_eq, implies_true, forall_const, if_false, if_true, reduceCtorEq, ↓reduceIte, Nat.reduceEqDiff, Nat.reduceAdd, Int.reduceEq, Int.reduceLT, Int.reduceLE, Int.reduceNeg, Int.reduceAdd, Int.reduceSub, Int.reduceMul, Int.reduceToNat, Nat.reduceMul, Nat.reduceSub, Nat.reduceLT, Nat.reduceLeDiff, List.length_map, Int.lt_irrefl, storeV, KV_eq]
          refine operations31 ?_
          by_cases c1 : (constE a).2 = 1
          rotate_left
          · simp -dsimp -implicitDefEqProofs only [↓STP, STQ, ne_eq, implies_true, forall_const, if_false, if_true, reduceCtorEq, ↓reduceIte, Nat.reduceEqDiff, Nat.reduceAdd, Int.reduceEq, Int.reduceLT, Int.reduceLE, Int.reduceNeg, Int.reduceAdd, Int.reduceSub, Int.reduceMul, Int.reduceToNat, Nat.reduceMul, Nat.reduceSub, Nat.reduceLT, Nat.reduceLeDiff, opTab, storeV, eq_false c1]
            rw [show opOf 1 (constE a) (constE b) = (0, 0) from if_neg fun h => c1 h.1] at hK
            exact hK
          by_cases c2 : (constE b).2 = 1
          rotate_left
          · simp -dsimp -implicitDefEqProofs only [↓STP, STQ, ne_eq, implies_true, forall_const, if_false, if_true, reduceCtorEq, ↓reduceIte, Nat.reduceEqDiff, Nat.reduceAdd, Int.reduceEq, Int.reduceLT, Int.reduceLE, Int.reduceNeg, Int.reduceAdd, Int.reduceSub, Int.reduceMul, Int.reduceToNat, Nat.reduceMul, Nat.reduceSub, Nat.reduceLT, Nat.reduceLeDiff, opTab, storeV, eq_true c1, eq_false c2]
            rw [show opOf 1 (constE a) (constE b) = (0, 0) from if_neg fun h => c2 h.2] at hK
            exact hK
          simp -dsimp -implicitDefEqProofs only [↓STP, STQ, ne_eq, implies_true, forall_const, if_false, if_true, reduceCtorEq, ↓reduceIte, Nat.reduceEqDiff, Nat.reduceAdd, Int.reduceEq, Int.reduceLT, Int.reduceLE, Int.reduceNeg, Int.reduceAdd, Int.reduceSub, Int.reduceMul, Int.reduceToNat, Nat.reduceMul, Nat.reduceSub, Nat.reduceLT, Nat.reduceLeDiff, opTab, storeV, eq_true c1, eq_true c2, opT_callF, withF_func]
          refine do1 (by rcases ca with ca | ca | ca <;> omega) (by rcases cb with cb | cb | cb <;> omega) ?_
          simp -dsimp -implicitDefEqProofs only [↓STP, STQ, ne_eq, implies_true, forall_const, if_false, if_true, reduceCtorEq, ↓reduceIte, Nat.reduceEqDiff, Nat.reduceAdd, Int.reduceEq, Int.reduceLT, Int.reduceLE, Int.reduceNeg, Int.reduceAdd, Int.reduceSub, Int.reduceMul, Int.reduceToNat, Nat.reduceMul, Nat.reduceSub, Nat.reduceLT, Nat.reduceLeDiff, KV_eq, storeV]
          rw [show opOf 1 (constE a) (constE b) = opDo 1 (constE a).1 (constE b).1 from if_pos ⟨c1, c2⟩] at hK
          exact hK
        · simp -dsimp -implicitDefEqProofs only [↓STP, STQ, ne_eq, implies_true, forall_const, if_false, if_true, reduceCtorEq, ↓reduceIte, Nat.reduceEqDiff, Nat.reduceAdd, Int.reduceEq, Int.reduceLT, Int.reduceLE, Int.reduceNeg, Int.reduceAdd, Int.reduceSub, Int.reduceMul, Int.reduceToNat, Nat.reduceMul, Nat.reduceSub, Nat.reduceLT, Nat.reduceLeDiff, List.length_map, Int.lt_irrefl, storeV, KV_eq]
          refine operations31 ?_
          by_cases c1 : (constE a).2 = 1
          rotate_left
          · simp -dsimp -implicitDefEqProofs only [↓STP, STQ, ne_eq, implies_true, forall_const, if_false, if_true, reduceCtorEq, ↓reduceIte, Nat.reduceEqDiff, Nat.reduceAdd, Int.reduceEq, Int.reduceLT, Int.reduceLE, Int.reduceNeg, Int.reduceAdd, Int.reduceSub, Int.reduceMul, Int.reduceToNat, Nat.reduceMul, Nat.reduceSub, Nat.reduceLT, Nat.reduceLeDiff, opTab, storeV, eq_false c1]
            rw [show opOf 2 (constE a) (constE b) = (0, 0) from if_neg fun h => c1 h.1] at hK
            exact hK
          by_cases c2 : (constE b).2 = 1
          rotate_left
          · simp -dsimp -implicitDefEqProofs only [↓STP, STQ, ne_eq, implies_true, forall_const, if_false, if_true, reduceCtorEq, ↓reduceIte, Nat.reduceEqDiff, Nat.reduceAdd, Int.reduceEq, Int.reduceLT, Int.reduceLE, Int.reduceNeg, Int.reduceAdd, Int.reduceSub, Int.reduceMul, Int.reduceToNat, Nat.reduceMul, Nat.reduceSub, Nat.reduceLT, Nat.reduceLeDiff, opTab, storeV, eq_true c1, eq_false c2]
            rw [show opOf 2 (constE a) (constE b) = (0, 0) from if_neg fun h => c2 h.2] at hK
            exact hK
          simp -dsimp -implicitDefEqProofs only [↓STP, STQ, ne_eq, implies_true, forall_const, if_false, if_true, reduceCtorEq, ↓reduceIte, Nat.reduceEqDiff, Nat.reduceAdd, Int.reduceEq, Int.reduceLT, Int.reduceLE, Int.reduceNeg, Int.reduceAdd, Int.reduceSub, Int.reduceMul, Int.reduceToNat, Nat.reduceMul, Nat.reduceSub, Nat.reduceLT, Nat.reduceLeDiff, opTab, storeV, eq_true c1, eq_true c2, opT_callF, withF_func]
          refine do2 (by rcases ca with ca | ca | ca <;> omega) (by rcases cb with cb | cb | cb <;> omega) ?_
          simp -dsimp -implicitDefEqProofs only [↓STP, STQ, ne_eq, implies_true, forall_const, if_false, if_true, reduceCtorEq, ↓reduceIte, Nat.reduceEqDiff, Nat.reduceAdd, Int.reduceEq, Int.reduceLT, Int.reduceLE, Int.reduceNeg, Int.reduceAdd, Int.reduceSub, Int.reduceMul, Int.reduceToNat, Nat.reduceMul, Nat.reduceSub, Nat.reduceLT, Nat.reduceLeDiff, KV_eq, storeV]
          rw [show opOf 2 (constE a) (constE b) = opDo 2 (constE a).1 (constE b).1 from if_pos ⟨c1, c2⟩] at hK
          exact hK
        · simp -dsimp -implicitDefEqProofs only [↓STP, STQ, ne_eq, implies_true, forall_const, if_false, if_true, reduceCtorEq, ↓reduceIte, Nat.reduceEqDiff, Nat.reduceAdd, Int.reduceEq, Int.reduceLT, Int.reduceLE, Int.reduceNeg, Int.reduceAdd, Int.reduceSub, Int.reduceMul, Int.reduceToNat, Nat.reduceMul, Nat.reduceSub, Nat.reduceLT, Nat.reduceLeDiff, List.length_map, Int.lt_irrefl, storeV, KV_eq]
          refine operations31 ?_
          by_cases c1 : (constE a).2 = 1
          rotate_left
          · simp -dsimp -implicitDefEqProofs only [↓STP, STQ, ne_eq, implies_true, forall_const, if_false, if_true, reduceCtorEq, ↓reduceIte, Nat.reduceEqDiff, Nat.reduceAdd, Int.reduceEq, Int.reduceLT, Int.reduceLE, Int.reduceNeg, Int.reduceAdd, Int.reduceSub, Int.reduceMul, Int.reduceToNat, Nat.reduceMul, Nat.reduceSub, Nat.reduceLT, Nat.reduceLeDiff, opTab, storeV, eq_false c1]
            rw [show opOf 3 (constE a) (constE b) = (0, 0) from if_neg fun h => c1 h.1] at hK
            exact hK
          by_cases c2 : (constE b).2 = 1
          rotate_left
          · simp -dsimp -implicitDefEqProofs only [↓STP, STQ, ne_eq, implies_true, forall_const, if_false, if_true, reduceCtorEq, ↓reduceIte, Nat.reduceEqDiff, Nat.reduceAdd, Int.reduceEq, Int.reduceLT, Int.reduceLE, Int.reduceNeg, Int.reduceAdd, Int.reduceSub, Int.reduceMul, Int.reduceToNat, Nat.reduceMul, Nat.reduceSub, Nat.reduceLT, Nat.reduceLeDiff, opTab, storeV, eq_true c1, eq_false c2]
            rw [show opOf 3 (constE a) (constE b) = (0, 0) from if_neg fun h => c2 h.2] at hK
            exact hK
          simp -dsimp -implicitDefEqProofs only [↓STP, STQ, ne_eq, implies_true, forall_const, if_false, if_true, reduceCtorEq, ↓reduceIte, Nat.reduceEqDiff, Nat.reduceAdd, Int.reduceEq, Int.reduceLT, Int.reduceLE, Int.reduceNeg, Int.reduceAdd, Int.reduceSub, Int.reduceMul, Int.reduceToNat, Nat.reduceMul, Nat.reduceSub, Nat.reduceLT, Nat.reduceLeDiff, opTab, storeV, eq_true c1, eq_true c2, opT_callF, withF_func]
          refine do3 (by rcases ca with ca | ca | ca <;> omega) (by rcases cb with cb | cb | cb <;> omega) ?_
          simp -dsimp -implicitDefEqProofs only [↓STP, STQ, ne_eq, implies_true, forall_const, if_false, if_true, reduceCtorEq, ↓reduceIte, Nat.reduceEqDiff, Nat.reduceAdd, Int.reduceEq, Int.reduceLT, Int.reduceLE, Int.reduceNeg, Int.reduceAdd, Int.reduceSub, Int.reduceMul, Int.reduceToNat, Nat.reduceMul, Nat.reduceSub, Nat.reduceLT, Nat.reduceLeDiff, KV_eq, storeV]
          rw [show opOf 3 (constE a) (constE b) = opDo 3 (constE a).1 (constE b).1 from if_pos ⟨c1, c2⟩] at hK
          exact hK
        · simp -dsimp -implicitDefEqProofs only [↓STP, STQ, ne_eq, implies_true, forall_const, if_false, if_true, reduceCtorEq, ↓reduceIte, Nat.reduceEqDiff, Nat.reduceAdd, Int.reduceEq, Int.reduceLT, Int.reduceLE, Int.reduceNeg, Int.reduceAdd, Int.reduceSub, Int.reduceMul, Int.reduceToNat, Nat.reduceMul, Nat.reduceSub, Nat.reduceLT, Nat.reduceLeDiff, List.length_map, Int.lt_irrefl, storeV, KV_eq]
          refine operations31 ?_
          by_cases c1 : (constE a).2 = 1
          rotate_left
          · simp -dsimp -implicitDefEqProofs only [↓STP, STQ, ne_eq, implies_true, forall_const, if_false, if_true, reduceCtorEq, ↓reduceIte, Nat.reduceEqDiff, Nat.reduceAdd, Int.reduceEq, Int.reduceLT, Int.reduceLE, Int.reduceNeg, Int.reduceAdd, Int.reduceSub, Int.reduceMul, Int.reduceToNat, Nat.reduceMul, Nat.reduceSub, Nat.reduceLT, Nat.reduceLeDiff, opTab, storeV, eq_false c1]
            rw [show opOf 4 (constE a) (constE b) = (0, 0) from if_neg fun h => c1 h.1] at hK
            exact hK
          by_cases c2 : (constE b).2 = 1
          rotate_left
          · simp -dsimp -implicitDefEqProofs only [↓STP, STQ, ne_eq, implies_true, forall_const, if_false, if_true, reduceCtorEq, ↓reduceIte, Nat.reduceEqDiff, Nat.reduceAdd, Int.reduceEq, Int.reduceLT, Int.reduceLE, Int.reduceNeg, Int.reduceAdd, Int.reduceSub, Int.reduceMul, Int.reduceToNat, Nat.reduceMul, Nat.reduceSub, Nat.reduceLT, Nat.reduceLeDiff, opTab, storeV, eq_true c1, eq_false c2]
            rw [show opOf 4 (constE a) (constE b) = (0, 0) from if_neg fun h => c2 h.2] at hK
            exact hK
          simp -dsimp -implicitDefEqProofs only [↓STP, STQ, ne_eq, implies_true, forall_const, if_false, if_true, reduceCtorEq, ↓reduceIte, Nat.reduceEqDiff, Nat.reduceAdd, Int.reduceEq, Int.reduceLT, Int.reduceLE, Int.reduceNeg, Int.reduceAdd, Int.reduceSub, Int.reduceMul, Int.reduceToNat, Nat.reduceMul, Nat.reduceSub, Nat.reduceLT, Nat.reduceLeDiff, opTab, storeV, eq_true c1, eq_true c2, opT_callF, withF_func]
          refine do4 ?_
          simp -dsimp -implicitDefEqProofs only [↓STP, STQ, ne_eq, implies_true, forall_const, if_false, if_true, reduceCtorEq, ↓reduceIte, Nat.reduceEqDiff, Nat.reduceAdd, Int.reduceEq, Int.reduceLT, Int.reduceLE, Int.reduceNeg, Int.reduceAdd, Int.reduceSub, Int.reduceMul, Int.reduceToNat, Nat.reduceMul, Nat.reduceSub, Nat.reduceLT, Nat.reduceLeDiff, KV_eq, storeV]
          rw [show opOf 4 (constE a) (constE b) = opDo 4 (constE a).1 (constE b).1 from if_pos ⟨c1, c2⟩] at hK
          exact hK
        · simp -dsimp -implicitDefEqProofs only [↓STP, STQ, ne_eq, implies_true, forall_const, if_false, if_true, reduceCtorEq, ↓reduceIte, Nat.reduceEqDiff, Nat.reduceAdd, Int.reduceEq, Int.reduceLT, Int.reduceLE, Int.reduceNeg, Int.reduceAdd, Int.reduceSub, Int.reduceMul, Int.reduceToNat, Nat.reduceMul, Nat.reduceSub, Nat.reduceLT, Nat.reduceLeDiff, List.length_map, Int.lt_irrefl, storeV, KV_eq]
          refine operations31 ?_
          by_cases c1 : (constE a).2 = 1
          rotate_left
          · simp -dsimp -implicitDefEqProofs only [↓STP, STQ, ne_eq, implies_true, forall_const, if_false, if_true, reduceCtorEq, ↓reduceIte, Nat.reduceEqDiff, Nat.reduceAdd, Int.reduceEq, Int.reduceLT, Int.reduceLE, Int.reduceNeg, Int.reduceAdd, Int.reduceSub, Int.reduceMul, Int.reduceToNat, Nat.reduceMul, Nat.reduceSub, Nat.reduceLT, Nat.reduceLeDiff, opTab, storeV, eq_false c1]
            rw [show opOf 5 (constE a) (constE b) = (0, 0) from if_neg fun h => c1 h.1] at hK
            exact hK
          by_cases c2 : (constE b).2 = 1
          rotate_left
          · simp -dsimp -implicitDefEqProofs only [↓STP, STQ, ne_eq, implies_true, forall_const, if_false, if_true, reduceCtorEq, ↓reduceIte, Nat.reduceEqDiff, Nat.reduceAdd, Int.reduceEq, Int.reduceLT, Int.reduceLE, Int.reduceNeg, Int.reduceAdd, Int.reduceSub, Int.reduceMul, Int.reduceToNat, Nat.reduceMul, Nat.reduceSub, Nat.reduceLT, Nat.reduceLeDiff, opTab, storeV, eq_true c1, eq_false c2]
            rw [show opOf 5 (constE a) (constE b) = (0, 0) from if_neg fun h => c2 h.2] at hK
            exact hK
          simp -dsimp -implicitDefEqProofs only [↓STP, STQ, ne_eq, implies_true, forall_const, if_false, if_true, reduceCtorEq, ↓reduceIte, Nat.reduceEqDiff, Nat.reduceAdd, Int.reduceEq, Int.reduceLT, Int.reduceLE, Int.reduceNeg, Int.reduceAdd, Int.reduceSub, Int.reduceMul, Int.reduceToNat, Nat.reduceMul, Nat.reduceSub, Nat.reduceLT, Nat.reduceLeDiff, opTab, storeV, eq_true c1, eq_true c2, opT_callF, withF_func]
          refine do5 ?_
          simp -dsimp -implicitDefEqProofs only [↓STP, STQ, ne_eq, implies_true, forall_const, if_false, if_true, reduceCtorEq, ↓reduceIte, Nat.reduceEqDiff, Nat.reduceAdd, Int.reduceEq, Int.reduceLT, Int.reduceLE, Int.reduceNeg, Int.reduceAdd, Int.reduceSub, Int.reduceMul, Int.reduceToNat, Nat.reduceMul, Nat.reduceSub, Nat.reduceLT, Nat.reduceLeDiff, KV_eq, storeV]
          rw [show opOf 5 (constE a) (constE b) = opDo 5 (constE a).1 (constE b).1 from if_pos ⟨c1, c2⟩] at hK
          exact hK
        · simp -dsimp -implicitDefEqProofs only [↓STP, STQ, ne_eq, implies_true, forall_const, if_false, if_true, reduceCtorEq, ↓reduceIte, Nat.reduceEqDiff, Nat.reduceAdd, Int.reduceEq, Int.reduceLT, Int.reduceLE, Int.reduceNeg, Int.reduceAdd, Int.reduceSub, Int.reduceMul, Int.reduceToNat, Nat.reduceMul, Nat.reduceSub, Nat.reduceLT, Nat.reduceLeDiff, List.length_map, Int.lt_irrefl, storeV, KV_eq]
          refine operations31 ?_
          by_cases c1 : (constE a).2 = 2
          rotate_left
          · simp -dsimp -implicitDefEqProofs only [↓STP, STQ, ne_eq, implies_true, forall_const, if_false, if_true, reduceCtorEq, ↓reduceIte, Nat.reduceEqDiff, Nat.reduceAdd, Int.reduceEq, Int.reduceLT, Int.reduceLE, Int.reduceNeg, Int.reduceAdd, Int.reduceSub, Int.reduceMul, Int.reduceToNat, Nat.reduceMul, Nat.reduceSub, Nat.reduceLT, Nat.reduceLeDiff, opTab, storeV, eq_false c1]
            rw [show opOf 6 (constE a) (constE b) = (0, 0) from if_neg fun h => c1 h.1] at hK
            exact hK
          by_cases c2 : (constE b).2 = 2
          rotate_left
          · simp -dsimp -implicitDefEqProofs only [↓STP, STQ, ne_eq, implies_true, forall_const, if_false, if_true, reduceCtorEq, ↓reduceIte, Nat.reduceEqDiff, Nat.reduceAdd, Int.reduceEq, Int.reduceLT, Int.reduceLE, Int.reduceNeg, Int.reduceAdd, Int.reduceSub, Int.reduceMul, Int.reduceToNat, Nat.reduceMul, Nat.reduceSub, Nat.reduceLT, Nat.reduceLeDiff, opTab, storeV, eq_true c1, eq_false c2]
            rw [show opOf 6 (constE a) (constE b) = (0, 0) from if_neg fun h => c2 h.2] at hK
            exact hK
          simp -dsimp -implicitDefEqProofs only [↓STP, STQ, ne_eq, implies_true, forall_const, if_false, if_true, reduceCtorEq, ↓reduceIte, Nat.reduceEqDiff, Nat.reduceAdd, Int.reduceEq, Int.reduceLT, Int.reduceLE, Int.reduceNeg, Int.reduceAdd, Int.reduceSub, Int.reduceMul, Int.reduceToNat, Nat.reduceMul, Nat.reduceSub, Nat.reduceLT, Nat.reduceLeDiff, opTab, storeV, eq_true c1, eq_true c2, opT_callF, withF_func]
          refine do6 (by rcases ca with ca | ca | ca <;> omega) (by rcases cb with cb | cb | cb <;> omega) ?_
          simp -dsimp -implicitDefEqProofs only [↓STP, STQ, ne_eq, implies_true, forall_const, if_false, if_true, reduceCtorEq, ↓reduceIte, Nat.reduceEqDiff, Nat.reduceAdd, Int.reduceEq, Int.reduceLT, Int.reduceLE, Int.reduceNeg, Int.reduceAdd, Int.reduceSub, Int.reduceMul, Int.reduceToNat, Nat.reduceMul, Nat.reduceSub, Nat.reduceLT, Nat.reduceLeDiff, KV_eq, storeV]
          rw [show opOf 6 (constE a) (constE b) = opDo 6 (constE a).1 (constE b).1 from if_pos ⟨c1, c2⟩] at hK
          exact hK
        · simp -dsimp -implicitDefEqProofs only [↓STP, STQ, ne_eq, implies_true, forall_const, if_false, if_true, reduceCtorEq, ↓reduceIte, Nat.reduceEqDiff, Nat.reduceAdd, Int.reduceEq, Int.reduceLT, Int.reduceLE, Int.reduceNeg, Int.reduceAdd, Int.reduceSub, Int.reduceMul, Int.reduceToNat, Nat.reduceMul, Nat.reduceSub, Nat.reduceLT, Nat.reduceLeDiff, List.length_map, Int.lt_irrefl, storeV, KV_eq]
          refine operations31 ?_
          by_cases c1 : (constE a).2 = 2
          rotate_left
          · simp -dsimp -implicitDefEqProofs only [↓STP, STQ, ne_eq, implies_true, forall_const, if_false, if_true, reduceCtorEq, ↓reduceIte, Nat.reduceEqDiff, Nat.reduceAdd, Int.reduceEq, Int.reduceLT, Int.reduceLE, Int.reduceNeg, Int.reduceAdd, Int.reduceSub, Int.reduceMul, Int.reduceToNat, Nat.reduceMul, Nat.reduceSub, Nat.reduceLT, Nat.reduceLeDiff, opTab, storeV, eq_false c1]
            rw [show opOf 7 (constE a) (constE b) = (0, 0) from if_neg fun h => c1 h.1] at hK
            exact hK
          by_cases c2 : (constE b).2 = 2
          rotate_left
          · simp -dsimp -implicitDefEqProofs only [↓STP, STQ, ne_eq, implies_true, forall_const, if_false, if_true, reduceCtorEq, ↓reduceIte, Nat.reduceEqDiff, Nat.reduceAdd, Int.reduceEq, Int.reduceLT, Int.reduceLE, Int.reduceNeg, Int.reduceAdd, Int.reduceSub, Int.reduceMul, Int.reduceToNat, Nat.reduceMul, Nat.reduceSub, Nat.reduceLT, Nat.reduceLeDiff, opTab, storeV, eq_true c1, eq_false c2]
            rw [show opOf 7 (constE a) (constE b) = (0, 0) from if_neg fun h => c2 h.2] at hK
            exact hK
          simp -dsimp -implicitDefEqProofs only [↓STP, STQ, ne_eq, implies_true, forall_const, if_false, if_true, reduceCtorEq, ↓reduceIte, Nat.reduceEqDiff, Nat.reduceAdd, Int.reduceEq, Int.reduceLT, Int.reduceLE, Int.reduceNeg, Int.reduceAdd, Int.reduceSub, Int.reduceMul, Int.reduceToNat, Nat.reduceMul, Nat.reduceSub, Nat.reduceLT, Nat.reduceLeDiff, opTab, storeV, eq_true c1, eq_true c2, opT_callF, withF_func]
          refine do7 (by rcases ca with ca | ca | ca <;> omega) (by rcases cb with cb | cb | cb <;> omega) ?_
          simp -dsimp -implicitDefEqProofs only [↓STP, STQ, ne_eq, implies_true, forall_const, if_false, if_true, reduceCtorEq, ↓reduceIte, Nat.reduceEqDiff, Nat.reduceAdd, Int.reduceEq, Int.reduceLT, Int.reduceLE, Int.reduceNeg, Int.reduceAdd, Int.reduceSub, Int.reduceMul, Int.reduceToNat, Nat.reduceMul, Nat.reduceSub, Nat.reduceLT, Nat.reduceLeDiff, KV_eq, storeV]
          rw [show opOf 7 (constE a) (constE b) = opDo 7 (constE a).1 (constE b).1 from if_pos ⟨c1, c2⟩] at hK
          exact hK
      · obtain ⟨a, rfl⟩ := len1 (show ks.length = 1 by have : kidsN 5 = 1 := rfl; omega)
        have hK : K (.ret (KV (if (constE a).2 = 2 then truK (decide ((constE a).1 = 0)) else (0, 0)))) h := hK
        by_cases c : (constE a).2 = 2
        · simp -dsimp -implicitDefEqProofs only [↓STP, STQ, ne_eq, implies_true, forall_const, if_false, if_true, reduceCtorEq, ↓reduceIte, Nat.reduceEqDiff, Nat.reduceAdd, Int.reduceEq, Int.reduceLT, Int.reduceLE, Int.reduceNeg, Int.reduceAdd, Int.reduceSub, Int.reduceMul, Int.reduceToNat, Nat.reduceMul, Nat.reduceSub, Nat.reduceLT, Nat.reduceLeDiff, List.length_map, Int.lt_irrefl, storeV, KV_eq, eq_true c]
          refine truth31 ?_
          rw [if_pos c] at hK
          have e : decide (((constE a).1 : Int) = 0) = decide ((constE a).1 = 0) := decide_eq_decide.2 (by omega)
          simp -dsimp -implicitDefEqProofs only [↓STP, STQ, ne_eq, implies_true, forall_const, if_false, if_true, reduceCtorEq, ↓reduceIte, Nat.reduceEqDiff, Nat.reduceAdd, Int.reduceEq, Int.reduceLT, Int.reduceLE, Int.reduceNeg, Int.reduceAdd, Int.reduceSub, Int.reduceMul, Int.reduceToNat, Nat.reduceMul, Nat.reduceSub, Nat.reduceLT, Nat.reduceLeDiff, KV_eq, storeV, e]
          exact hK
        · simp -dsimp -implicitDefEqProofs only [↓STP, STQ, ne_eq, implies_true, forall_const, if_false, if_true, reduceCtorEq, ↓reduceIte, Nat.reduceEqDiff, Nat.reduceAdd, Int.reduceEq, Int.reduceLT, Int.reduceLE, Int.reduceNeg, Int.reduceAdd, Int.reduceSub, Int.reduceMul, Int.reduceToNat, Nat.reduceMul, Nat.reduceSub, Nat.reduceLT, Nat.reduceLeDiff, List.length_map, Int.lt_irrefl, storeV, KV_eq, eq_false c]
          rw [if_neg c] at hK
          exact hK
      · obtain ⟨a, b, c, rfl⟩ := len3 (show ks.length = 3 by have : kidsN 6 = 3 := rfl; omega)
        have hK : K (.ret (KV (if (constE a).2 = 2 ∧ (constE b).2 = (constE c).2 then (if (constE a).1 = 1 then constE b else constE c) else (0, 0)))) h := hK
        have ca := ck a (by simp)
        by_cases c1 : (constE a).2 = 2
        rotate_left
        · simp -dsimp -implicitDefEqProofs only [↓STP, STQ, ne_eq, implies_true, forall_const, if_false, if_true, reduceCtorEq, ↓reduceIte, Nat.reduceEqDiff, Nat.reduceAdd, Int.reduceEq, Int.reduceLT, Int.reduceLE, Int.reduceNeg, Int.reduceAdd, Int.reduceSub, Int.reduceMul, Int.reduceToNat, Nat.reduceMul, Nat.reduceSub, Nat.reduceLT, Nat.reduceLeDiff, List.length_map, Int.lt_irrefl, storeV, KV_eq, eq_false c1]
          rw [if_neg fun h => c1 h.1] at hK
          exact hK
        by_cases c2 : (constE b).2 = (constE c).2
        rotate_left
        · simp -dsimp -implicitDefEqProofs only [↓STP, STQ, ne_eq, implies_true, forall_const, if_false, if_true, reduceCtorEq, ↓reduceIte, Nat.reduceEqDiff, Nat.reduceAdd, Int.reduceEq, Int.reduceLT, Int.reduceLE, Int.reduceNeg, Int.reduceAdd, Int.reduceSub, Int.reduceMul, Int.reduceToNat, Nat.reduceMul, Nat.reduceSub, Nat.reduceLT, Nat.reduceLeDiff, List.length_map, Int.lt_irrefl, storeV, KV_eq, eq_true c1, eq_false c2]
          rw [if_neg fun h => c2 h.2] at hK
          exact hK
        rw [if_pos ⟨c1, c2⟩] at hK
        have cc : (constE a).1 = 0 ∨ (constE a).1 = 1 := by rcases ca with ca | ca | ca <;> omega
        rcases cc with cc | cc
        · simp -dsimp -implicitDefEqProofs only [↓STP, STQ, ne_eq, implies_true, forall_const, if_false, if_true, reduceCtorEq, ↓reduceIte, Nat.reduceEqDiff, Nat.reduceAdd, Int.reduceEq, Int.reduceLT, Int.reduceLE, Int.reduceNeg, Int.reduceAdd, Int.reduceSub, Int.reduceMul, Int.reduceToNat, Nat.reduceMul, Nat.reduceSub, Nat.reduceLT, Nat.reduceLeDiff, List.length_map, Int.lt_irrefl, storeV, KV_eq, eq_true c1, eq_true c2, cc]
          rw [if_neg (by omega)] at hK
          exact hK
        · simp -dsimp -implicitDefEqProofs only [↓STP, STQ, ne_eq, implies_true, forall_const, if_false, if_true, reduceCtorEq, ↓reduceIte, Nat.reduceEqDiff, Nat.reduceAdd, Int.reduceEq, Int.reduceLT, Int.reduceLE, Int.reduceNeg, Int.reduceAdd, Int.reduceSub, Int.reduceMul, Int.reduceToNat, Nat.reduceMul, Nat.reduceSub, Nat.reduceLT, Nat.reduceLeDiff, List.length_map, Int.lt_irrefl, storeV, KV_eq, eq_true c1, eq_true c2, cc]
          rw [if_pos cc] at hK
          exact hK
end
end Go.Ab.Ytemlhjlceeiflaa
