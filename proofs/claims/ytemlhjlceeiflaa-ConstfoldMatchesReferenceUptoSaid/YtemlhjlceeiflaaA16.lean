/- Folding, as the reference does it: statements. -/
import Derived.Test.YtemlhjlceeiflaaA15
set_option linter.unusedVariables false
set_option linter.unusedSimpArgs false
namespace Go.Ab.Ytemlhjlceeiflaa
section
variable {h : H} {K : Out → H → Prop}

def SsR (l : List Stm) : Prop := ∀ (lv : Nat) (h : H) (K : Out → H → Prop), VSs l lv → (∀ x ∈ l, SOk x) → V.bulks (l.map Stm.v) ≤ 20000000 → K (.ret (.vec ((foldSs l).map Stm.v) .any)) h → R 23 [.vec (l.map Stm.v) .any] h K

theorem stmtsR_of (l : List Stm) (ih : ∀ x ∈ l, SsR x.thn ∧ SsR x.els) : SsR l := by
  intro lv h K hv ok hb hK
  have hlen := stms_len (l := l)
  refine run23 (Nat.le_of_ble_eq_true rfl) ?_
  simp -dsimp -implicitDefEqProofs only [↓STP, STQ, ne_eq, implies_true, forall_const, if_false, if_true, reduceCtorEq, ↓reduceIte, Nat.reduceEqDiff, Nat.reduceAdd, Int.reduceEq, Int.reduceLT, Int.reduceLE, Int.reduceNeg, Int.reduceAdd, Int.reduceSub, Int.reduceMul, Int.reduceToNat, Nat.reduceMul, Nat.reduceSub, Nat.reduceLT, Nat.reduceLeDiff, ir23, List.length_map]
  refine codeT_for (N := l.length) (fun i => ⟨upd (upd (upd ρ0 0 (.vec (l.map Stm.v) .any)) 3 (.vec ((foldSs (l.take i)).map Stm.v) (.own 0))) 4 (I i), m0, 1, [], h⟩) (fun _ => True) (by simp -dsimp -implicitDefEqProofs only [↓STP, STQ, ne_eq, implies_true, forall_const, if_false, if_true, reduceCtorEq, ↓reduceIte, Nat.reduceEqDiff, Nat.reduceAdd, Int.reduceEq, Int.reduceLT, Int.reduceLE, Int.reduceNeg, Int.reduceAdd, Int.reduceSub, Int.reduceMul, Int.reduceToNat, Nat.reduceMul, Nat.reduceSub, Nat.reduceLT, Nat.reduceLeDiff] <;> rfl) trivial (fun i hi _ => ?_) (fun _ => ?_) mono
  rotate_left
  · rw [List.take_length]
    simp -dsimp -implicitDefEqProofs only [↓STP, STQ, ne_eq, implies_true, forall_const, if_false, if_true, reduceCtorEq, ↓reduceIte, Nat.reduceEqDiff, Nat.reduceAdd, Int.reduceEq, Int.reduceLT, Int.reduceLE, Int.reduceNeg, Int.reduceAdd, Int.reduceSub, Int.reduceMul, Int.reduceToNat, Nat.reduceMul, Nat.reduceSub, Nat.reduceLT, Nat.reduceLeDiff, List.length_map, Int.lt_irrefl]
    exact hK
  have hget := get_map (f := Stm.v) hi
  have ihx := ih _ (List.getElem_mem hi)
  have hvx := VSs_all.1 hv _ (List.getElem_mem hi)
  have okx := ok _ (List.getElem_mem hi)
  have hbx := bulks_memS (List.getElem_mem hi)
  have w1 := wiM (show i < 9223372036854775807 by omega)
  have hsum := fold_len hi hb
  rw [foldSs_take hi]
  generalize l[i] = x at *
  obtain ⟨k, s, e, a, b⟩ := x
  obtain ⟨v1, v2, v3, v4, v5, v6, v7, v8, v9, v10, v11⟩ := VS_mk.1 hvx
  obtain ⟨hk, hs, hle, hla, hlb, oke, oka, okb⟩ := SOk_mk okx
  rw [stm_bulk] at hbx
  have he : e.length ≤ 4 := by split at v4 <;> omega
  have iha : SsR a := ihx.1
  have ihb : SsR b := ihx.2
  have ve : ∀ x ∈ e.map foldE, VE x (lv + 1) := fun x hx => by
    obtain ⟨y, hy, rfl⟩ := List.mem_map.1 hx
    exact VE_fold y _ (v9 y hy)
  have oe : ∀ x ∈ e.map foldE, EOk x := fun x hx => by
    obtain ⟨y, hy, rfl⟩ := List.mem_map.1 hx
    exact EOk_fold y _ (v9 y hy) (oke y hy)
  have kinds : ∀ x ∈ e.map foldE, (constE x).2 = 0 ∨ (constE x).2 = 1 ∨ (constE x).2 = 2 := fun x hx => by
    rcases ck_const _ _ (ve x hx) with c | c | c <;> omega
  rw [foldS_mk] at *
  simp -dsimp -implicitDefEqProofs only [↓STP, STQ, ne_eq, implies_true, forall_const, if_false, if_true, reduceCtorEq, ↓reduceIte, Nat.reduceEqDiff, Nat.reduceAdd, Int.reduceEq, Int.reduceLT, Int.reduceLE, Int.reduceNeg, Int.reduceAdd, Int.reduceSub, Int.reduceMul, Int.reduceToNat, Nat.reduceMul, Nat.reduceSub, Nat.reduceLT, Nat.reduceLeDiff, List.length_map, Int.ofNat_lt, hi, hget, Stm.v_mk, storeV]
  refine exprsR_of he (fun x _ => exprR x) v9 oke ?_
  simp -dsimp -implicitDefEqProofs only [↓STP, STQ, ne_eq, implies_true, forall_const, if_false, if_true, reduceCtorEq, ↓reduceIte, Nat.reduceEqDiff, Nat.reduceAdd, Int.reduceEq, Int.reduceLT, Int.reduceLE, Int.reduceNeg, Int.reduceAdd, Int.reduceSub, Int.reduceMul, Int.reduceToNat, Nat.reduceMul, Nat.reduceSub, Nat.reduceLT, Nat.reduceLeDiff, storeV]
  refine iha (lv + 1) _ _ v10 oka (by omega) ?_
  simp -dsimp -implicitDefEqProofs only [↓STP, STQ, ne_eq, implies_true, forall_const, if_false, if_true, reduceCtorEq, ↓reduceIte, Nat.reduceEqDiff, Nat.reduceAdd, Int.reduceEq, Int.reduceLT, Int.reduceLE, Int.reduceNeg, Int.reduceAdd, Int.reduceSub, Int.reduceMul, Int.reduceToNat, Nat.reduceMul, Nat.reduceSub, Nat.reduceLT, Nat.reduceLeDiff, storeV]
  refine ihb (lv + 1) _ _ v11 okb (by omega) ?_
  by_cases c3 : k = 3
  · subst c3
    obtain ⟨x, rfl⟩ := len1 (show e.length = 1 by simpa using v4)
    have dx : foldE x ∈ [x].map foldE := by simp
    simp -dsimp -implicitDefEqProofs only [↓STP, STQ, ne_eq, implies_true, forall_const, if_false, if_true, reduceCtorEq, ↓reduceIte, Nat.reduceEqDiff, Nat.reduceAdd, Int.reduceEq, Int.reduceLT, Int.reduceLE, Int.reduceNeg, Int.reduceAdd, Int.reduceSub, Int.reduceMul, Int.reduceToNat, Nat.reduceMul, Nat.reduceSub, Nat.reduceLT, Nat.reduceLeDiff, storeV, Exp.v_outs, Exp.v_clen, Exp.v_tk, Exp.v_ag, Exp.v_out]
    refine evalR _ (lv + 1) _ _ (ve _ dx) (oe _ dx) ?_
    have cx := ck_const _ _ (ve _ dx)
    have hz : ∀ (c : Nat × Int), constE (foldE x) = c → foldStm 3 s [foldE x] (foldSs a) (foldSs b) = if c.2 = 2 then (if c.1 = 1 then foldSs a else foldSs b) else [.mk 3 s [foldE x] (foldSs a) (foldSs b)] := fun c hc => by
      subst hc
      unfold foldStm
      show (if (3 : Int) = 3 ∧ (constE (foldE x)).2 = 2 then _ else _) = _
      by_cases c2 : (constE (foldE x)).2 = 2
      · rw [if_pos ⟨rfl, c2⟩, if_pos c2]; rfl
      · rw [if_neg fun h => c2 h.2, if_neg c2, if_neg fun h => by have := h.1; omega]
    have hz := hz _ rfl
    rcases kinds _ dx with c2 | c2 | c2
    · rw [if_neg (by omega)] at hz
      simp -dsimp -implicitDefEqProofs only [↓STP, STQ, ne_eq, implies_true, forall_const, if_false, if_true, reduceCtorEq, ↓reduceIte, Nat.reduceEqDiff, Nat.reduceAdd, Int.reduceEq, Int.reduceLT, Int.reduceLE, Int.reduceNeg, Int.reduceAdd, Int.reduceSub, Int.reduceMul, Int.reduceToNat, Nat.reduceMul, Nat.reduceSub, Nat.reduceLT, Nat.reduceLeDiff, T3_eq, c2]
      rw [app1_own (sz := 5) (by simp) mapS_cells rfl (by decide) (by decide) (by rw [List.length_map]; omega)]
      simp -dsimp -implicitDefEqProofs only [↓STP, STQ, ne_eq, implies_true, forall_const, if_false, if_true, reduceCtorEq, ↓reduceIte, Nat.reduceEqDiff, Nat.reduceAdd, Int.reduceEq, Int.reduceLT, Int.reduceLE, Int.reduceNeg, Int.reduceAdd, Int.reduceSub, Int.reduceMul, Int.reduceToNat, Nat.reduceMul, Nat.reduceSub, Nat.reduceLT, Nat.reduceLeDiff, w1, hz, List.map_append, Stm.v_mk, eq_self]
    · rw [if_neg (by omega)] at hz
      simp -dsimp -implicitDefEqProofs only [↓STP, STQ, ne_eq, implies_true, forall_const, if_false, if_true, reduceCtorEq, ↓reduceIte, Nat.reduceEqDiff, Nat.reduceAdd, Int.reduceEq, Int.reduceLT, Int.reduceLE, Int.reduceNeg, Int.reduceAdd, Int.reduceSub, Int.reduceMul, Int.reduceToNat, Nat.reduceMul, Nat.reduceSub, Nat.reduceLT, Nat.reduceLeDiff, T3_eq, c2]
      rw [app1_own (sz := 5) (by simp) mapS_cells rfl (by decide) (by decide) (by rw [List.length_map]; omega)]
      simp -dsimp -implicitDefEqProofs only [↓STP, STQ, ne_eq, implies_true, forall_const, if_false, if_true, reduceCtorEq, ↓reduceIte, Nat.reduceEqDiff, Nat.reduceAdd, Int.reduceEq, Int.reduceLT, Int.reduceLE, Int.reduceNeg, Int.reduceAdd, Int.reduceSub, Int.reduceMul, Int.reduceToNat, Nat.reduceMul, Nat.reduceSub, Nat.reduceLT, Nat.reduceLeDiff, w1, hz, List.map_append, Stm.v_mk, eq_self]
    · rw [if_pos c2] at hz
      by_cases c1 : (constE (foldE x)).1 = 1
      · rw [if_pos c1] at hz
        rw [show foldStm 3 s ([x].map foldE) (foldSs a) (foldSs b) = _ from hz] at hsum
        simp -dsimp -implicitDefEqProofs only [↓STP, STQ, ne_eq, implies_true, forall_const, if_false, if_true, reduceCtorEq, ↓reduceIte, Nat.reduceEqDiff, Nat.reduceAdd, Int.reduceEq, Int.reduceLT, Int.reduceLE, Int.reduceNeg, Int.reduceAdd, Int.reduceSub, Int.reduceMul, Int.reduceToNat, Nat.reduceMul, Nat.reduceSub, Nat.reduceLT, Nat.reduceLeDiff, T3_eq, c2, c1]
        rw [app_own (sz := 5) (by simp) mapS_cells mapS_elems (by decide) (by decide) (by rw [List.length_map, List.length_map]; omega)]
        by_cases c : ((foldSs a).map Stm.v).length = 0
        · rw [if_pos c]
          have hz := hz.trans (show foldSs a = [] by simpa using c)
          simp -dsimp -implicitDefEqProofs only [↓STP, STQ, ne_eq, implies_true, forall_const, if_false, if_true, reduceCtorEq, ↓reduceIte, Nat.reduceEqDiff, Nat.reduceAdd, Int.reduceEq, Int.reduceLT, Int.reduceLE, Int.reduceNeg, Int.reduceAdd, Int.reduceSub, Int.reduceMul, Int.reduceToNat, Nat.reduceMul, Nat.reduceSub, Nat.reduceLT, Nat.reduceLeDiff, w1, hz, List.append_nil, eq_self]
        · rw [if_neg c]
          simp -dsimp -implicitDefEqProofs only [↓STP, STQ, ne_eq, implies_true, forall_const, if_false, if_true, reduceCtorEq, ↓reduceIte, Nat.reduceEqDiff, Nat.reduceAdd, Int.reduceEq, Int.reduceLT, Int.reduceLE, Int.reduceNeg, Int.reduceAdd, Int.reduceSub, Int.reduceMul, Int.reduceToNat, Nat.reduceMul, Nat.reduceSub, Nat.reduceLT, Nat.reduceLeDiff, w1, hz, List.map_append, eq_self]
      · rw [if_neg c1] at hz
        rw [show foldStm 3 s ([x].map foldE) (foldSs a) (foldSs b) = _ from hz] at hsum
        have c0 : (constE (foldE x)).1 = 0 := by rcases cx with c | c | c <;> omega
        simp -dsimp -implicitDefEqProofs only [↓STP, STQ, ne_eq, implies_true, forall_const, if_false, if_true, reduceCtorEq, ↓reduceIte, Nat.reduceEqDiff, Nat.reduceAdd, Int.reduceEq, Int.reduceLT, Int.reduceLE, Int.reduceNeg, Int.reduceAdd, Int.reduceSub, Int.reduceMul, Int.reduceToNat, Nat.reduceMul, Nat.reduceSub, Nat.reduceLT, Nat.reduceLeDiff, T3_eq, c2, c0]
        rw [app_own (sz := 5) (by simp) mapS_cells mapS_elems (by decide) (by decide) (by rw [List.length_map, List.length_map]; omega)]
        by_cases c : ((foldSs b).map Stm.v).length = 0
        · rw [if_pos c]
          have hz := hz.trans (show foldSs b = [] by simpa using c)
          simp -dsimp -implicitDefEqProofs only [↓STP, STQ, ne_eq, implies_true, forall_const, if_false, if_true, reduceCtorEq, ↓reduceIte, Nat.reduceEqDiff, Nat.reduceAdd, Int.reduceEq, Int.reduceLT, Int.reduceLE, Int.reduceNeg, Int.reduceAdd, Int.reduceSub, Int.reduceMul, Int.reduceToNat, Nat.reduceMul, Nat.reduceSub, Nat.reduceLT, Nat.reduceLeDiff, w1, hz, List.append_nil, eq_self]
        · rw [if_neg c]
          simp -dsimp -implicitDefEqProofs only [↓STP, STQ, ne_eq, implies_true, forall_const, if_false, if_true, reduceCtorEq, ↓reduceIte, Nat.reduceEqDiff, Nat.reduceAdd, Int.reduceEq, Int.reduceLT, Int.reduceLE, Int.reduceNeg, Int.reduceAdd, Int.reduceSub, Int.reduceMul, Int.reduceToNat, Nat.reduceMul, Nat.reduceSub, Nat.reduceLT, Nat.reduceLeDiff, w1, hz, List.map_append, eq_self]
  by_cases c4 : k = 4
  · subst c4
    obtain ⟨x, y, rfl⟩ := len2 (show e.length = 2 by simpa using v4)
    have dx : foldE x ∈ [x, y].map foldE := by simp
    have dy : foldE y ∈ [x, y].map foldE := by simp
    simp -dsimp -implicitDefEqProofs only [↓STP, STQ, ne_eq, implies_true, forall_const, if_false, if_true, reduceCtorEq, ↓reduceIte, Nat.reduceEqDiff, Nat.reduceAdd, Int.reduceEq, Int.reduceLT, Int.reduceLE, Int.reduceNeg, Int.reduceAdd, Int.reduceSub, Int.reduceMul, Int.reduceToNat, Nat.reduceMul, Nat.reduceSub, Nat.reduceLT, Nat.reduceLeDiff, storeV, Exp.v_outs, Exp.v_clen, Exp.v_tk, Exp.v_ag, Exp.v_out]
    refine evalR _ (lv + 1) _ _ (ve _ dx) (oe _ dx) ?_
    simp -dsimp -implicitDefEqProofs only [↓STP, STQ, ne_eq, implies_true, forall_const, if_false, if_true, reduceCtorEq, ↓reduceIte, Nat.reduceEqDiff, Nat.reduceAdd, Int.reduceEq, Int.reduceLT, Int.reduceLE, Int.reduceNeg, Int.reduceAdd, Int.reduceSub, Int.reduceMul, Int.reduceToNat, Nat.reduceMul, Nat.reduceSub, Nat.reduceLT, Nat.reduceLeDiff, T3_eq, Exp.v_outs, Exp.v_clen, Exp.v_tk, Exp.v_ag, Exp.v_out]
    refine evalR _ (lv + 1) _ _ (ve _ dy) (oe _ dy) ?_
    have hz : foldStm 4 s [foldE x, foldE y] (foldSs a) (foldSs b) = if (constE (foldE x)).2 = 1 ∧ (constE (foldE y)).2 = 1 ∧ (constE (foldE y)).1 < (constE (foldE x)).1 then [] else [.mk 4 s [foldE x, foldE y] (foldSs a) (foldSs b)] := by
      unfold foldStm
      rw [if_neg (fun h => by have := h.1; omega)]
      show (if (4 : Int) = 4 ∧ ((constE (foldE x)).2 = 1 ∧ (constE (foldE y)).2 = 1 ∧ (constE (foldE y)).1 < (constE (foldE x)).1) then _ else _) = _
      by_cases c : (constE (foldE x)).2 = 1 ∧ (constE (foldE y)).2 = 1 ∧ (constE (foldE y)).1 < (constE (foldE x)).1
      · rw [if_pos ⟨rfl, c⟩, if_pos c]
      · rw [if_neg fun h => c h.2, if_neg c]
    by_cases c : (constE (foldE x)).2 = 1 ∧ (constE (foldE y)).2 = 1
    · obtain ⟨c1, c2⟩ := c
      by_cases c0 : (constE (foldE y)).1 < (constE (foldE x)).1
      · rw [if_pos ⟨c1, c2, c0⟩] at hz
        simp -dsimp -implicitDefEqProofs only [↓STP, STQ, ne_eq, implies_true, forall_const, if_false, if_true, reduceCtorEq, ↓reduceIte, Nat.reduceEqDiff, Nat.reduceAdd, Int.reduceEq, Int.reduceLT, Int.reduceLE, Int.reduceNeg, Int.reduceAdd, Int.reduceSub, Int.reduceMul, Int.reduceToNat, Nat.reduceMul, Nat.reduceSub, Nat.reduceLT, Nat.reduceLeDiff, T3_eq, c1, c2, Int.ofNat_lt, eq_true c0, w1, hz, List.append_nil, eq_self]
      · rw [if_neg fun h => c0 h.2.2] at hz
        simp -dsimp -implicitDefEqProofs only [↓STP, STQ, ne_eq, implies_true, forall_const, if_false, if_true, reduceCtorEq, ↓reduceIte, Nat.reduceEqDiff, Nat.reduceAdd, Int.reduceEq, Int.reduceLT, Int.reduceLE, Int.reduceNeg, Int.reduceAdd, Int.reduceSub, Int.reduceMul, Int.reduceToNat, Nat.reduceMul, Nat.reduceSub, Nat.reduceLT, Nat.reduceLeDiff, T3_eq, c1, c2, Int.ofNat_lt, eq_false c0]
        rw [app1_own (sz := 5) (by simp) mapS_cells rfl (by decide) (by decide) (by rw [List.length_map]; omega)]
        simp -dsimp -implicitDefEqProofs only [↓STP, STQ, ne_eq, implies_true, forall_const, if_false, if_true, reduceCtorEq, ↓reduceIte, Nat.reduceEqDiff, Nat.reduceAdd, Int.reduceEq, Int.reduceLT, Int.reduceLE, Int.reduceNeg, Int.reduceAdd, Int.reduceSub, Int.reduceMul, Int.reduceToNat, Nat.reduceMul, Nat.reduceSub, Nat.reduceLT, Nat.reduceLeDiff, w1, hz, List.map_append, Stm.v_mk, eq_self]
    · rw [if_neg fun h => c ⟨h.1, h.2.1⟩] at hz
      have nine : ∀ {P : Prop}, ((constE (foldE x)).2 = 0 → (constE (foldE y)).2 = 0 → P) → ((constE (foldE x)).2 = 0 → (constE (foldE y)).2 = 1 → P) → ((constE (foldE x)).2 = 0 → (constE (foldE y)).2 = 2 → P) →
          ((constE (foldE x)).2 = 1 → (constE (foldE y)).2 = 0 → P) → ((constE (foldE x)).2 = 1 → (constE (foldE y)).2 = 2 → P) →
          ((constE (foldE x)).2 = 2 → (constE (foldE y)).2 = 0 → P) → ((constE (foldE x)).2 = 2 → (constE (foldE y)).2 = 1 → P) → ((constE (foldE x)).2 = 2 → (constE (foldE y)).2 = 2 → P) → P := fun p1 p2 p3 p4 p5 p6 p7 p8 => by
        rcases kinds _ dx with c1 | c1 | c1
        · rcases kinds _ dy with c2 | c2 | c2
          · exact p1 c1 c2
          · exact p2 c1 c2
          · exact p3 c1 c2
        · rcases kinds _ dy with c2 | c2 | c2
          · exact p4 c1 c2
          · exact absurd ⟨c1, c2⟩ c
          · exact p5 c1 c2
        · rcases kinds _ dy with c2 | c2 | c2
          · exact p6 c1 c2
          · exact p7 c1 c2
          · exact p8 c1 c2
      apply nine
      all_goals
        intro c1 c2
        simp -dsimp -implicitDefEqProofs only [↓STP, STQ, ne_eq, implies_true, forall_const, if_false, if_true, reduceCtorEq, ↓reduceIte, Nat.reduceEqDiff, Nat.reduceAdd, Int.reduceEq, Int.reduceLT, Int.reduceLE, Int.reduceNeg, Int.reduceAdd, Int.reduceSub, Int.reduceMul, Int.reduceToNat, Nat.reduceMul, Nat.reduceSub, Nat.reduceLT, Nat.reduceLeDiff, T3_eq, c1, c2]
        rw [app1_own (sz := 5) (by simp) mapS_cells rfl (by decide) (by decide) (by rw [List.length_map]; omega)]
        simp -dsimp -implicitDefEqProofs only [↓STP, STQ, ne_eq, implies_true, forall_const, if_false, if_true, reduceCtorEq, ↓reduceIte, Nat.reduceEqDiff, Nat.reduceAdd, Int.reduceEq, Int.reduceLT, Int.reduceLE, Int.reduceNeg, Int.reduceAdd, Int.reduceSub, Int.reduceMul, Int.reduceToNat, Nat.reduceMul, Nat.reduceSub, Nat.reduceLT, Nat.reduceLeDiff, w1, hz, List.map_append, Stm.v_mk, eq_self]
  have hz : foldStm k s (e.map foldE) (foldSs a) (foldSs b) = [.mk k s (e.map foldE) (foldSs a) (foldSs b)] := by
    unfold foldStm
    rw [if_neg fun h => c3 h.1, if_neg fun h => c4 h.1]
  simp -dsimp -implicitDefEqProofs only [↓STP, STQ, ne_eq, implies_true, forall_const, if_false, if_true, reduceCtorEq, ↓reduceIte, Nat.reduceEqDiff, Nat.reduceAdd, Int.reduceEq, Int.reduceLT, Int.reduceLE, Int.reduceNeg, Int.reduceAdd, Int.reduceSub, Int.reduceMul, Int.reduceToNat, Nat.reduceMul, Nat.reduceSub, Nat.reduceLT, Nat.reduceLeDiff, storeV, eq_false c3, eq_false c4]
  rw [app1_own (sz := 5) (by simp) mapS_cells rfl (by decide) (by decide) (by rw [List.length_map]; omega)]
  simp -dsimp -implicitDefEqProofs only [↓STP, STQ, ne_eq, implies_true, forall_const, if_false, if_true, reduceCtorEq, ↓reduceIte, Nat.reduceEqDiff, Nat.reduceAdd, Int.reduceEq, Int.reduceLT, Int.reduceLE, Int.reduceNeg, Int.reduceAdd, Int.reduceSub, Int.reduceMul, Int.reduceToNat, Nat.reduceMul, Nat.reduceSub, Nat.reduceLT, Nat.reduceLeDiff, w1, hz, List.map_append, Stm.v_mk, eq_self]

theorem ssR (x : Stm) : SsR x.thn ∧ SsR x.els := by
  induction x using Stm.ind with
  | h k s e a b iha ihb => exact ⟨stmtsR_of a iha, stmtsR_of b ihb⟩
theorem stmtsR (l : List Stm) : SsR l := stmtsR_of l fun x _ => ssR x

theorem foldR {p : Prg} (ok : POk p) (hv : VSs p.body 1) (hb : p.v.bulk ≤ 20000000) (hK : K (.ret p.fold.v) h) : R 12 [p.v] h K := by
  rw [prg_bulk] at hb
  refine run12 (Nat.le_of_ble_eq_true rfl) ?_
  simp -dsimp -implicitDefEqProofs only [↓STP, STQ, ne_eq, implies_true, forall_const, if_false, if_true, reduceCtorEq, ↓reduceIte, Nat.reduceEqDiff, Nat.reduceAdd, Int.reduceEq, Int.reduceLT, Int.reduceLE, Int.reduceNeg, Int.reduceAdd, Int.reduceSub, Int.reduceMul, Int.reduceToNat, Nat.reduceMul, Nat.reduceSub, Nat.reduceLT, Nat.reduceLeDiff, Prg.v, Prg.cells, ir12]
  refine stmtsR p.body 1 _ _ hv ok.body (by omega) ?_
  simp -dsimp -implicitDefEqProofs only [↓STP, STQ, ne_eq, implies_true, forall_const, if_false, if_true, reduceCtorEq, ↓reduceIte, Nat.reduceEqDiff, Nat.reduceAdd, Int.reduceEq, Int.reduceLT, Int.reduceLE, Int.reduceNeg, Int.reduceAdd, Int.reduceSub, Int.reduceMul, Int.reduceToNat, Nat.reduceMul, Nat.reduceSub, Nat.reduceLT, Nat.reduceLeDiff, storeV, eq_self]
  exact hK

end
end Go.Ab.Ytemlhjlceeiflaa
