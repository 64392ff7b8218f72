/- The law's search for what can be folded, in a folded program. -/
import Derived.Test.YtemlhjlceeiflaaA10
import Derived.Test.YtemlhjlceeiflaaA18
set_option linter.unusedVariables false
set_option linter.unusedSimpArgs false
namespace Go.Ab.Ytemlhjlceeiflaa
section
variable {h : H} {K : Out → H → Prop}

def KnL (l : List Exp) : Prop := ∀ (lv : Nat) (h : H) (K : Out → H → Prop), l.length ≤ maxLen → (∀ x ∈ l, NK x) → (∀ x ∈ l, VE x lv) → (∀ x ∈ l, EOk x) → K (.ret (.bool false)) h → R 26 [.vec (l.map Exp.v) .any] h K

theorem knL_of (l : List Exp) (ih : ∀ x ∈ l, KnL x.kids) : KnL l := by
  intro lv h K hl hn hv ok hK
  have hm := maxLen_eq
  refine run26 (Nat.le_of_ble_eq_true rfl) ?_
  simp -dsimp -implicitDefEqProofs only [↓STP, STQ, ne_eq, implies_true, forall_const, if_false, if_true, reduceCtorEq, ↓reduceIte, Nat.reduceEqDiff, Nat.reduceAdd, Int.reduceEq, Int.reduceLT, Int.reduceLE, Int.reduceNeg, Int.reduceAdd, Int.reduceSub, Int.reduceMul, Int.reduceToNat, Nat.reduceMul, Nat.reduceSub, Nat.reduceLT, Nat.reduceLeDiff, ir26]
  refine codeT_for (N := l.length) (fun i => ⟨upd (upd ρ0 0 (.vec (l.map Exp.v) .any)) 3 (I i), m0, 0, [], h⟩) (fun _ => True) (by simp -dsimp -implicitDefEqProofs only [↓STP, STQ, ne_eq, implies_true, forall_const, if_false, if_true, reduceCtorEq, ↓reduceIte, Nat.reduceEqDiff, Nat.reduceAdd, Int.reduceEq, Int.reduceLT, Int.reduceLE, Int.reduceNeg, Int.reduceAdd, Int.reduceSub, Int.reduceMul, Int.reduceToNat, Nat.reduceMul, Nat.reduceSub, Nat.reduceLT, Nat.reduceLeDiff] <;> rfl) trivial (fun i hi _ => ?_) (fun _ => ?_) mono
  rotate_left
  · simp -dsimp -implicitDefEqProofs only [↓STP, STQ, ne_eq, implies_true, forall_const, if_false, if_true, reduceCtorEq, ↓reduceIte, Nat.reduceEqDiff, Nat.reduceAdd, Int.reduceEq, Int.reduceLT, Int.reduceLE, Int.reduceNeg, Int.reduceAdd, Int.reduceSub, Int.reduceMul, Int.reduceToNat, Nat.reduceMul, Nat.reduceSub, Nat.reduceLT, Nat.reduceLeDiff, List.length_map, Int.lt_irrefl]
    exact hK
  have hget := get_map (f := Exp.v) hi
  have ihx := ih _ (List.getElem_mem hi)
  have hnx := hn _ (List.getElem_mem hi)
  have hvx := hv _ (List.getElem_mem hi)
  have okx := ok _ (List.getElem_mem hi)
  have w1 := wiM (show i < 9223372036854775807 by omega)
  generalize l[i] = x at *
  obtain ⟨k, o, n, s, ks⟩ := x
  obtain ⟨v1, v2, v3, v4, v5, v6, v7, v8, v9⟩ := VE_mk.1 hvx
  obtain ⟨hk, ho, _, hs, hlk, hks⟩ := EOk_mk okx
  obtain ⟨n1, n2, n3⟩ := NK_mk hnx
  have hget' := hget
  rw [Exp.v_mk] at hget'
  simp -dsimp -implicitDefEqProofs only [↓STP, STQ, ne_eq, implies_true, forall_const, if_false, if_true, reduceCtorEq, ↓reduceIte, Nat.reduceEqDiff, Nat.reduceAdd, Int.reduceEq, Int.reduceLT, Int.reduceLE, Int.reduceNeg, Int.reduceAdd, Int.reduceSub, Int.reduceMul, Int.reduceToNat, Nat.reduceMul, Nat.reduceSub, Nat.reduceLT, Nat.reduceLeDiff, List.length_map, Int.ofNat_lt, hi, hget']
  rw [← Exp.v_mk]
  refine evalR _ lv _ _ hvx okx ?_
  have cx := ck_const _ _ hvx
  have ihk : KnL ks := ihx
  have k3 : (constE (.mk k o n s ks)).2 = 0 ∨ (constE (.mk k o n s ks)).2 = 1 ∨ (constE (.mk k o n s ks)).2 = 2 := by rcases cx with c | c | c <;> omega
  rcases k3 with c | c | c
  · simp -dsimp -implicitDefEqProofs only [↓STP, STQ, ne_eq, implies_true, forall_const, if_false, if_true, reduceCtorEq, ↓reduceIte, Nat.reduceEqDiff, Nat.reduceAdd, Int.reduceEq, Int.reduceLT, Int.reduceLE, Int.reduceNeg, Int.reduceAdd, Int.reduceSub, Int.reduceMul, Int.reduceToNat, Nat.reduceMul, Nat.reduceSub, Nat.reduceLT, Nat.reduceLeDiff, T3_eq, c, Int.ofNat_lt, hi, hget']
    refine ihk (lv + 1) _ _ hlk n3 v9 hks ?_
    by_cases c6 : k = 6
    · subst c6
      obtain ⟨a, b, d, rfl⟩ := len3 (show ks.length = 3 by have : kidsN 6 = 3 := rfl; omega)
      have na : ¬ (constE a).2 = 2 := n2 rfl
      have ca := ck_const a _ (v9 a (by simp))
      have ka : (constE a).2 = 0 ∨ (constE a).2 = 1 := by rcases ca with c | c | c <;> omega
      simp -dsimp -implicitDefEqProofs only [↓STP, STQ, ne_eq, implies_true, forall_const, if_false, if_true, reduceCtorEq, ↓reduceIte, Nat.reduceEqDiff, Nat.reduceAdd, Int.reduceEq, Int.reduceLT, Int.reduceLE, Int.reduceNeg, Int.reduceAdd, Int.reduceSub, Int.reduceMul, Int.reduceToNat, Nat.reduceMul, Nat.reduceSub, Nat.reduceLT, Nat.reduceLeDiff, hget', Exp.v_outs, Exp.v_clen, Exp.v_tk, Exp.v_ag, Exp.v_out]
      refine evalR a (lv + 1) _ _ (v9 a (by simp)) (hks a (by simp)) ?_
      rcases ka with ka | ka
      · simp -dsimp -implicitDefEqProofs only [↓STP, STQ, ne_eq, implies_true, forall_const, if_false, if_true, reduceCtorEq, ↓reduceIte, Nat.reduceEqDiff, Nat.reduceAdd, Int.reduceEq, Int.reduceLT, Int.reduceLE, Int.reduceNeg, Int.reduceAdd, Int.reduceSub, Int.reduceMul, Int.reduceToNat, Nat.reduceMul, Nat.reduceSub, Nat.reduceLT, Nat.reduceLeDiff, T3_eq, ka, w1, eq_self]
      · simp -dsimp -implicitDefEqProofs only [↓STP, STQ, ne_eq, implies_true, forall_const, if_false, if_true, reduceCtorEq, ↓reduceIte, Nat.reduceEqDiff, Nat.reduceAdd, Int.reduceEq, Int.reduceLT, Int.reduceLE, Int.reduceNeg, Int.reduceAdd, Int.reduceSub, Int.reduceMul, Int.reduceToNat, Nat.reduceMul, Nat.reduceSub, Nat.reduceLT, Nat.reduceLeDiff, T3_eq, ka, w1, eq_self]
    · simp -dsimp -implicitDefEqProofs only [↓STP, STQ, ne_eq, implies_true, forall_const, if_false, if_true, reduceCtorEq, ↓reduceIte, Nat.reduceEqDiff, Nat.reduceAdd, Int.reduceEq, Int.reduceLT, Int.reduceLE, Int.reduceNeg, Int.reduceAdd, Int.reduceSub, Int.reduceMul, Int.reduceToNat, Nat.reduceMul, Nat.reduceSub, Nat.reduceLT, Nat.reduceLeDiff, hget', eq_false c6, w1, eq_self]
  · have c1 := n1 c
    subst c1
    simp -dsimp -implicitDefEqProofs only [↓STP, STQ, ne_eq, implies_true, forall_const, if_false, if_true, reduceCtorEq, ↓reduceIte, Nat.reduceEqDiff, Nat.reduceAdd, Int.reduceEq, Int.reduceLT, Int.reduceLE, Int.reduceNeg, Int.reduceAdd, Int.reduceSub, Int.reduceMul, Int.reduceToNat, Nat.reduceMul, Nat.reduceSub, Nat.reduceLT, Nat.reduceLeDiff, T3_eq, c, Int.ofNat_lt, hi, hget']
    refine ihk (lv + 1) _ _ hlk n3 v9 hks ?_
    simp -dsimp -implicitDefEqProofs only [↓STP, STQ, ne_eq, implies_true, forall_const, if_false, if_true, reduceCtorEq, ↓reduceIte, Nat.reduceEqDiff, Nat.reduceAdd, Int.reduceEq, Int.reduceLT, Int.reduceLE, Int.reduceNeg, Int.reduceAdd, Int.reduceSub, Int.reduceMul, Int.reduceToNat, Nat.reduceMul, Nat.reduceSub, Nat.reduceLT, Nat.reduceLeDiff, w1, hget', eq_self]
  · simp -dsimp -implicitDefEqProofs only [↓STP, STQ, ne_eq, implies_true, forall_const, if_false, if_true, reduceCtorEq, ↓reduceIte, Nat.reduceEqDiff, Nat.reduceAdd, Int.reduceEq, Int.reduceLT, Int.reduceLE, Int.reduceNeg, Int.reduceAdd, Int.reduceSub, Int.reduceMul, Int.reduceToNat, Nat.reduceMul, Nat.reduceSub, Nat.reduceLT, Nat.reduceLeDiff, T3_eq, c, Int.ofNat_lt, hi, hget']
    refine ihk (lv + 1) _ _ hlk n3 v9 hks ?_
    by_cases c6 : k = 6
    · subst c6
      obtain ⟨a, b, d, rfl⟩ := len3 (show ks.length = 3 by have : kidsN 6 = 3 := rfl; omega)
      have na : ¬ (constE a).2 = 2 := n2 rfl
      have ca := ck_const a _ (v9 a (by simp))
      have ka : (constE a).2 = 0 ∨ (constE a).2 = 1 := by rcases ca with c | c | c <;> omega
      simp -dsimp -implicitDefEqProofs only [↓STP, STQ, ne_eq, implies_true, forall_const, if_false, if_true, reduceCtorEq, ↓reduceIte, Nat.reduceEqDiff, Nat.reduceAdd, Int.reduceEq, Int.reduceLT, Int.reduceLE, Int.reduceNeg, Int.reduceAdd, Int.reduceSub, Int.reduceMul, Int.reduceToNat, Nat.reduceMul, Nat.reduceSub, Nat.reduceLT, Nat.reduceLeDiff, hget', Exp.v_outs, Exp.v_clen, Exp.v_tk, Exp.v_ag, Exp.v_out]
      refine evalR a (lv + 1) _ _ (v9 a (by simp)) (hks a (by simp)) ?_
      rcases ka with ka | ka
      · simp -dsimp -implicitDefEqProofs only [↓STP, STQ, ne_eq, implies_true, forall_const, if_false, if_true, reduceCtorEq, ↓reduceIte, Nat.reduceEqDiff, Nat.reduceAdd, Int.reduceEq, Int.reduceLT, Int.reduceLE, Int.reduceNeg, Int.reduceAdd, Int.reduceSub, Int.reduceMul, Int.reduceToNat, Nat.reduceMul, Nat.reduceSub, Nat.reduceLT, Nat.reduceLeDiff, T3_eq, ka, w1, eq_self]
      · simp -dsimp -implicitDefEqProofs only [↓STP, STQ, ne_eq, implies_true, forall_const, if_false, if_true, reduceCtorEq, ↓reduceIte, Nat.reduceEqDiff, Nat.reduceAdd, Int.reduceEq, Int.reduceLT, Int.reduceLE, Int.reduceNeg, Int.reduceAdd, Int.reduceSub, Int.reduceMul, Int.reduceToNat, Nat.reduceMul, Nat.reduceSub, Nat.reduceLT, Nat.reduceLeDiff, T3_eq, ka, w1, eq_self]
    · simp -dsimp -implicitDefEqProofs only [↓STP, STQ, ne_eq, implies_true, forall_const, if_false, if_true, reduceCtorEq, ↓reduceIte, Nat.reduceEqDiff, Nat.reduceAdd, Int.reduceEq, Int.reduceLT, Int.reduceLE, Int.reduceNeg, Int.reduceAdd, Int.reduceSub, Int.reduceMul, Int.reduceToNat, Nat.reduceMul, Nat.reduceSub, Nat.reduceLT, Nat.reduceLeDiff, hget', eq_false c6, w1, eq_self]

theorem knL_kids (e : Exp) : KnL e.kids := by
  induction e using Exp.ind with
  | h k o n s ks ih => exact knL_of ks ih
theorem knL (l : List Exp) : KnL l := knL_of l fun x _ => knL_kids x

def LfL (l : List Stm) : Prop := ∀ (lv : Nat) (h : H) (K : Out → H → Prop), l.length ≤ maxLen → (∀ x ∈ l, NL x) → VSs l lv → (∀ x ∈ l, SOk x) → K (.ret (.bool false)) h → R 15 [.vec (l.map Stm.v) .any] h K

theorem lfL_of (l : List Stm) (ih : ∀ x ∈ l, LfL x.thn ∧ LfL x.els) : LfL l := by
  intro lv h K hl hn hv ok hK
  have hm := maxLen_eq
  refine run15 (Nat.le_of_ble_eq_true rfl) ?_
  simp -dsimp -implicitDefEqProofs only [↓STP, STQ, ne_eq, implies_true, forall_const, if_false, if_true, reduceCtorEq, ↓reduceIte, Nat.reduceEqDiff, Nat.reduceAdd, Int.reduceEq, Int.reduceLT, Int.reduceLE, Int.reduceNeg, Int.reduceAdd, Int.reduceSub, Int.reduceMul, Int.reduceToNat, Nat.reduceMul, Nat.reduceSub, Nat.reduceLT, Nat.reduceLeDiff, ir15]
  refine codeT_for (N := l.length) (fun i => ⟨upd (upd ρ0 0 (.vec (l.map Stm.v) .any)) 3 (I i), m0, 0, [], h⟩) (fun _ => True) (by simp -dsimp -implicitDefEqProofs only [↓STP, STQ, ne_eq, implies_true, forall_const, if_false, if_true, reduceCtorEq, ↓reduceIte, Nat.reduceEqDiff, Nat.reduceAdd, Int.reduceEq, Int.reduceLT, Int.reduceLE, Int.reduceNeg, Int.reduceAdd, Int.reduceSub, Int.reduceMul, Int.reduceToNat, Nat.reduceMul, Nat.reduceSub, Nat.reduceLT, Nat.reduceLeDiff] <;> rfl) trivial (fun i hi _ => ?_) (fun _ => ?_) mono
  rotate_left
  · simp -dsimp -implicitDefEqProofs only [↓STP, STQ, ne_eq, implies_true, forall_const, if_false, if_true, reduceCtorEq, ↓reduceIte, Nat.reduceEqDiff, Nat.reduceAdd, Int.reduceEq, Int.reduceLT, Int.reduceLE, Int.reduceNeg, Int.reduceAdd, Int.reduceSub, Int.reduceMul, Int.reduceToNat, Nat.reduceMul, Nat.reduceSub, Nat.reduceLT, Nat.reduceLeDiff, List.length_map, Int.lt_irrefl]
    exact hK
  have hget := get_map (f := Stm.v) hi
  have ihx := ih _ (List.getElem_mem hi)
  have hnx := hn _ (List.getElem_mem hi)
  have hvx := VSs_all.1 hv _ (List.getElem_mem hi)
  have okx := ok _ (List.getElem_mem hi)
  have w1 := wiM (show i < 9223372036854775807 by omega)
  generalize l[i] = x at *
  obtain ⟨k, s, e, a, b⟩ := x
  obtain ⟨v1, v2, v3, v4, v5, v6, v7, v8, v9, v10, v11⟩ := VS_mk.1 hvx
  obtain ⟨hk, hs, hle, hla, hlb, oke, oka, okb⟩ := SOk_mk okx
  obtain ⟨ne, na, nb, n3, n4⟩ := NL_mk hnx
  have hget' := hget
  rw [Stm.v_mk] at hget'
  have hA : LfL a := ihx.1
  have hB : LfL b := ihx.2
  simp -dsimp -implicitDefEqProofs only [↓STP, STQ, ne_eq, implies_true, forall_const, if_false, if_true, reduceCtorEq, ↓reduceIte, Nat.reduceEqDiff, Nat.reduceAdd, Int.reduceEq, Int.reduceLT, Int.reduceLE, Int.reduceNeg, Int.reduceAdd, Int.reduceSub, Int.reduceMul, Int.reduceToNat, Nat.reduceMul, Nat.reduceSub, Nat.reduceLT, Nat.reduceLeDiff, List.length_map, Int.ofNat_lt, hi, hget']
  refine knL e (lv + 1) _ _ hle ne v9 oke ?_
  simp -dsimp -implicitDefEqProofs only [↓STP, STQ, ne_eq, implies_true, forall_const, if_false, if_true, reduceCtorEq, ↓reduceIte, Nat.reduceEqDiff, Nat.reduceAdd, Int.reduceEq, Int.reduceLT, Int.reduceLE, Int.reduceNeg, Int.reduceAdd, Int.reduceSub, Int.reduceMul, Int.reduceToNat, Nat.reduceMul, Nat.reduceSub, Nat.reduceLT, Nat.reduceLeDiff, hget']
  refine hA (lv + 1) _ _ hla na v10 oka ?_
  simp -dsimp -implicitDefEqProofs only [↓STP, STQ, ne_eq, implies_true, forall_const, if_false, if_true, reduceCtorEq, ↓reduceIte, Nat.reduceEqDiff, Nat.reduceAdd, Int.reduceEq, Int.reduceLT, Int.reduceLE, Int.reduceNeg, Int.reduceAdd, Int.reduceSub, Int.reduceMul, Int.reduceToNat, Nat.reduceMul, Nat.reduceSub, Nat.reduceLT, Nat.reduceLeDiff, hget']
  refine hB (lv + 1) _ _ hlb nb v11 okb ?_
  by_cases c3 : k = 3
  · subst c3
    obtain ⟨x, rfl⟩ := len1 (show e.length = 1 by simpa using v4)
    have nx : ¬ (constE x).2 = 2 := n3 rfl
    have cx := ck_const x _ (v9 x (by simp))
    have kx : (constE x).2 = 0 ∨ (constE x).2 = 1 := by rcases cx with c | c | c <;> omega
    simp -dsimp -implicitDefEqProofs only [↓STP, STQ, ne_eq, implies_true, forall_const, if_false, if_true, reduceCtorEq, ↓reduceIte, Nat.reduceEqDiff, Nat.reduceAdd, Int.reduceEq, Int.reduceLT, Int.reduceLE, Int.reduceNeg, Int.reduceAdd, Int.reduceSub, Int.reduceMul, Int.reduceToNat, Nat.reduceMul, Nat.reduceSub, Nat.reduceLT, Nat.reduceLeDiff, hget', Exp.v_outs, Exp.v_clen, Exp.v_tk, Exp.v_ag, Exp.v_out]
    refine evalR x (lv + 1) _ _ (v9 x (by simp)) (oke x (by simp)) ?_
    rcases kx with kx | kx
    · simp -dsimp -implicitDefEqProofs only [↓STP, STQ, ne_eq, implies_true, forall_const, if_false, if_true, reduceCtorEq, ↓reduceIte, Nat.reduceEqDiff, Nat.reduceAdd, Int.reduceEq, Int.reduceLT, Int.reduceLE, Int.reduceNeg, Int.reduceAdd, Int.reduceSub, Int.reduceMul, Int.reduceToNat, Nat.reduceMul, Nat.reduceSub, Nat.reduceLT, Nat.reduceLeDiff, T3_eq, kx, w1, eq_self]
    · simp -dsimp -implicitDefEqProofs only [↓STP, STQ, ne_eq, implies_true, forall_const, if_false, if_true, reduceCtorEq, ↓reduceIte, Nat.reduceEqDiff, Nat.reduceAdd, Int.reduceEq, Int.reduceLT, Int.reduceLE, Int.reduceNeg, Int.reduceAdd, Int.reduceSub, Int.reduceMul, Int.reduceToNat, Nat.reduceMul, Nat.reduceSub, Nat.reduceLT, Nat.reduceLeDiff, T3_eq, kx, w1, eq_self]
  · simp -dsimp -implicitDefEqProofs only [↓STP, STQ, ne_eq, implies_true, forall_const, if_false, if_true, reduceCtorEq, ↓reduceIte, Nat.reduceEqDiff, Nat.reduceAdd, Int.reduceEq, Int.reduceLT, Int.reduceLE, Int.reduceNeg, Int.reduceAdd, Int.reduceSub, Int.reduceMul, Int.reduceToNat, Nat.reduceMul, Nat.reduceSub, Nat.reduceLT, Nat.reduceLeDiff, hget', eq_false c3, w1, eq_self]
theorem lfP (x : Stm) : LfL x.thn ∧ LfL x.els := by
  induction x using Stm.ind with
  | h k s e a b iha ihb => exact ⟨lfL_of a iha, lfL_of b ihb⟩
theorem lfL (l : List Stm) : LfL l := lfL_of l fun x _ => lfP x

end
end Go.Ab.Ytemlhjlceeiflaa
