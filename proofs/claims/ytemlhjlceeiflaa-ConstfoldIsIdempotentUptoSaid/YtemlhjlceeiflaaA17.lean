/- The reference's comparisons, of a program with itself. -/
import Derived.Test.YtemlhjlceeiflaaA7
set_option linter.unusedVariables false
set_option linter.unusedSimpArgs false
namespace Go.Ab.Ytemlhjlceeiflaa
section
variable {h : H} {K : Out → H → Prop}

theorem sameE (e : Exp) : ∀ (h : H) (K : Out → H → Prop), EOk e → K (.ret (.bool true)) h → R 36 [e.v, e.v] h K := by
  induction e using Exp.ind with
  | h k o n s ks ih =>
    intro h K ok hK
    obtain ⟨hk, ho, hn, hs, hl, hks⟩ := EOk_mk ok
    have hm := maxLen_eq
    refine run36 (Nat.le_of_ble_eq_true rfl) ?_
    simp -dsimp -implicitDefEqProofs only [↓STP, STQ, ne_eq, implies_true, forall_const, if_false, if_true, reduceCtorEq, ↓reduceIte, Nat.reduceEqDiff, Nat.reduceAdd, Int.reduceEq, Int.reduceLT, Int.reduceLE, Int.reduceNeg, Int.reduceAdd, Int.reduceSub, Int.reduceMul, Int.reduceToNat, Nat.reduceMul, Nat.reduceSub, Nat.reduceLT, Nat.reduceLeDiff, Exp.v_mk, ir36, List.length_map, binS, bneS, beqS, eq_self]
    refine codeT_for (N := ks.length) (fun i => ⟨upd (upd (upd ρ0 2 (.lptr 0 5 0)) 3 (.lptr 1 5 0)) 5 (I i), upd (upd m0 0 (some [I k, I o, W n, .str s, .vec (ks.map Exp.v) .any])) 1 (some [I k, I o, W n, .str s, .vec (ks.map Exp.v) .any]), 2, [], h⟩) (fun _ => True) (by simp -dsimp -implicitDefEqProofs only [↓STP, STQ, ne_eq, implies_true, forall_const, if_false, if_true, reduceCtorEq, ↓reduceIte, Nat.reduceEqDiff, Nat.reduceAdd, Int.reduceEq, Int.reduceLT, Int.reduceLE, Int.reduceNeg, Int.reduceAdd, Int.reduceSub, Int.reduceMul, Int.reduceToNat, Nat.reduceMul, Nat.reduceSub, Nat.reduceLT, Nat.reduceLeDiff] <;> rfl) trivial (fun i hi _ => ?_) (fun _ => ?_) mono
    · have hget := get_map (f := Exp.v) hi
      have hx := ih _ (List.getElem_mem hi)
      have okx := hks _ (List.getElem_mem hi)
      have w1 := wiM (show i < 9223372036854775807 by omega)
      generalize ks[i] = x at *
      simp -dsimp -implicitDefEqProofs only [↓STP, STQ, ne_eq, implies_true, forall_const, if_false, if_true, reduceCtorEq, ↓reduceIte, Nat.reduceEqDiff, Nat.reduceAdd, Int.reduceEq, Int.reduceLT, Int.reduceLE, Int.reduceNeg, Int.reduceAdd, Int.reduceSub, Int.reduceMul, Int.reduceToNat, Nat.reduceMul, Nat.reduceSub, Nat.reduceLT, Nat.reduceLeDiff, List.length_map, Int.ofNat_lt, hi, hget, Exp.v_outs, Exp.v_clen, Exp.v_tk, Exp.v_ag, Exp.v_out, eq_self]
      refine hx _ _ okx ?_
      simp -dsimp -implicitDefEqProofs only [↓STP, STQ, ne_eq, implies_true, forall_const, if_false, if_true, reduceCtorEq, ↓reduceIte, Nat.reduceEqDiff, Nat.reduceAdd, Int.reduceEq, Int.reduceLT, Int.reduceLE, Int.reduceNeg, Int.reduceAdd, Int.reduceSub, Int.reduceMul, Int.reduceToNat, Nat.reduceMul, Nat.reduceSub, Nat.reduceLT, Nat.reduceLeDiff, w1, eq_self]
    · simp -dsimp -implicitDefEqProofs only [↓STP, STQ, ne_eq, implies_true, forall_const, if_false, if_true, reduceCtorEq, ↓reduceIte, Nat.reduceEqDiff, Nat.reduceAdd, Int.reduceEq, Int.reduceLT, Int.reduceLE, Int.reduceNeg, Int.reduceAdd, Int.reduceSub, Int.reduceMul, Int.reduceToNat, Nat.reduceMul, Nat.reduceSub, Nat.reduceLT, Nat.reduceLeDiff, List.length_map, Int.lt_irrefl]
      exact hK

def SameL (l : List Stm) : Prop := ∀ (h : H) (K : Out → H → Prop), l.length ≤ maxLen → (∀ x ∈ l, SOk x) → K (.ret (.bool true)) h → R 21 [.vec (l.map Stm.v) .any, .vec (l.map Stm.v) .any] h K

theorem sameL_of (l : List Stm) (ih : ∀ x ∈ l, SameL x.thn ∧ SameL x.els) : SameL l := by
  intro h K hl ok hK
  have hm := maxLen_eq
  refine run21 (Nat.le_of_ble_eq_true rfl) ?_
  simp -dsimp -implicitDefEqProofs only [↓STP, STQ, ne_eq, implies_true, forall_const, if_false, if_true, reduceCtorEq, ↓reduceIte, Nat.reduceEqDiff, Nat.reduceAdd, Int.reduceEq, Int.reduceLT, Int.reduceLE, Int.reduceNeg, Int.reduceAdd, Int.reduceSub, Int.reduceMul, Int.reduceToNat, Nat.reduceMul, Nat.reduceSub, Nat.reduceLT, Nat.reduceLeDiff, ir21, List.length_map, eq_self]
  refine codeT_for (N := l.length) (fun i => ⟨upd (upd (upd ρ0 0 (.vec (l.map Stm.v) .any)) 1 (.vec (l.map Stm.v) .any)) 5 (I i), m0, 0, [], h⟩) (fun _ => True) (by simp -dsimp -implicitDefEqProofs only [↓STP, STQ, ne_eq, implies_true, forall_const, if_false, if_true, reduceCtorEq, ↓reduceIte, Nat.reduceEqDiff, Nat.reduceAdd, Int.reduceEq, Int.reduceLT, Int.reduceLE, Int.reduceNeg, Int.reduceAdd, Int.reduceSub, Int.reduceMul, Int.reduceToNat, Nat.reduceMul, Nat.reduceSub, Nat.reduceLT, Nat.reduceLeDiff] <;> rfl) trivial (fun i hi _ => ?_) (fun _ => ?_) mono
  rotate_left
  · simp -dsimp -implicitDefEqProofs only [↓STP, STQ, ne_eq, implies_true, forall_const, if_false, if_true, reduceCtorEq, ↓reduceIte, Nat.reduceEqDiff, Nat.reduceAdd, Int.reduceEq, Int.reduceLT, Int.reduceLE, Int.reduceNeg, Int.reduceAdd, Int.reduceSub, Int.reduceMul, Int.reduceToNat, Nat.reduceMul, Nat.reduceSub, Nat.reduceLT, Nat.reduceLeDiff, List.length_map, Int.lt_irrefl]
    exact hK
  have hget := get_map (f := Stm.v) hi
  have ihx := ih _ (List.getElem_mem hi)
  have okx := ok _ (List.getElem_mem hi)
  have w1 := wiM (show i < 9223372036854775807 by omega)
  generalize l[i] = x at *
  obtain ⟨k, s, e, a, b⟩ := x
  obtain ⟨hk, hs, hle, hla, hlb, oke, oka, okb⟩ := SOk_mk okx
  have hA : SameL a := ihx.1
  have hB : SameL b := ihx.2
  simp -dsimp -implicitDefEqProofs only [↓STP, STQ, ne_eq, implies_true, forall_const, if_false, if_true, reduceCtorEq, ↓reduceIte, Nat.reduceEqDiff, Nat.reduceAdd, Int.reduceEq, Int.reduceLT, Int.reduceLE, Int.reduceNeg, Int.reduceAdd, Int.reduceSub, Int.reduceMul, Int.reduceToNat, Nat.reduceMul, Nat.reduceSub, Nat.reduceLT, Nat.reduceLeDiff, List.length_map, Int.ofNat_lt, hi, hget, Stm.v_mk, storeV, binS, bneS, beqS, eq_self]
  refine codeT_for (N := e.length) (fun j => ⟨upd (upd (upd (upd (upd (upd ρ0 0 (.vec (l.map Stm.v) .any)) 1 (.vec (l.map Stm.v) .any)) 5 (I i)) 6 (.lptr 0 5 0)) 7 (.lptr 1 5 0)) 8 (I j),
    upd (upd m0 0 (some [I k, .str s, .vec (e.map Exp.v) .any, .vec (a.map Stm.v) .any, .vec (b.map Stm.v) .any])) 1 (some [I k, .str s, .vec (e.map Exp.v) .any, .vec (a.map Stm.v) .any, .vec (b.map Stm.v) .any]), 2, [], h⟩) (fun _ => True) (by simp -dsimp -implicitDefEqProofs only [↓STP, STQ, ne_eq, implies_true, forall_const, if_false, if_true, reduceCtorEq, ↓reduceIte, Nat.reduceEqDiff, Nat.reduceAdd, Int.reduceEq, Int.reduceLT, Int.reduceLE, Int.reduceNeg, Int.reduceAdd, Int.reduceSub, Int.reduceMul, Int.reduceToNat, Nat.reduceMul, Nat.reduceSub, Nat.reduceLT, Nat.reduceLeDiff] <;> rfl) trivial (fun j hj _ => ?_) (fun _ => ?_) mono
  · have hget := get_map (f := Exp.v) hj
    have okx := oke _ (List.getElem_mem hj)
    have w1 := wiM (show j < 9223372036854775807 by omega)
    generalize e[j] = x at *
    simp -dsimp -implicitDefEqProofs only [↓STP, STQ, ne_eq, implies_true, forall_const, if_false, if_true, reduceCtorEq, ↓reduceIte, Nat.reduceEqDiff, Nat.reduceAdd, Int.reduceEq, Int.reduceLT, Int.reduceLE, Int.reduceNeg, Int.reduceAdd, Int.reduceSub, Int.reduceMul, Int.reduceToNat, Nat.reduceMul, Nat.reduceSub, Nat.reduceLT, Nat.reduceLeDiff, List.length_map, Int.ofNat_lt, hj, hget, Exp.v_outs, Exp.v_clen, Exp.v_tk, Exp.v_ag, Exp.v_out, eq_self]
    refine sameE x _ _ okx ?_
    simp -dsimp -implicitDefEqProofs only [↓STP, STQ, ne_eq, implies_true, forall_const, if_false, if_true, reduceCtorEq, ↓reduceIte, Nat.reduceEqDiff, Nat.reduceAdd, Int.reduceEq, Int.reduceLT, Int.reduceLE, Int.reduceNeg, Int.reduceAdd, Int.reduceSub, Int.reduceMul, Int.reduceToNat, Nat.reduceMul, Nat.reduceSub, Nat.reduceLT, Nat.reduceLeDiff, w1, eq_self]
  · simp -dsimp -implicitDefEqProofs only [↓STP, STQ, ne_eq, implies_true, forall_const, if_false, if_true, reduceCtorEq, ↓reduceIte, Nat.reduceEqDiff, Nat.reduceAdd, Int.reduceEq, Int.reduceLT, Int.reduceLE, Int.reduceNeg, Int.reduceAdd, Int.reduceSub, Int.reduceMul, Int.reduceToNat, Nat.reduceMul, Nat.reduceSub, Nat.reduceLT, Nat.reduceLeDiff, List.length_map, Int.lt_irrefl]
    refine hA _ _ hla oka ?_
    simp -dsimp -implicitDefEqProofs only [↓STP, STQ, ne_eq, implies_true, forall_const, if_false, if_true, reduceCtorEq, ↓reduceIte, Nat.reduceEqDiff, Nat.reduceAdd, Int.reduceEq, Int.reduceLT, Int.reduceLE, Int.reduceNeg, Int.reduceAdd, Int.reduceSub, Int.reduceMul, Int.reduceToNat, Nat.reduceMul, Nat.reduceSub, Nat.reduceLT, Nat.reduceLeDiff]
    refine hB _ _ hlb okb ?_
    simp -dsimp -implicitDefEqProofs only [↓STP, STQ, ne_eq, implies_true, forall_const, if_false, if_true, reduceCtorEq, ↓reduceIte, Nat.reduceEqDiff, Nat.reduceAdd, Int.reduceEq, Int.reduceLT, Int.reduceLE, Int.reduceNeg, Int.reduceAdd, Int.reduceSub, Int.reduceMul, Int.reduceToNat, Nat.reduceMul, Nat.reduceSub, Nat.reduceLT, Nat.reduceLeDiff, w1, eq_self]

theorem sameP (x : Stm) : SameL x.thn ∧ SameL x.els := by
  induction x using Stm.ind with
  | h k s e a b iha ihb => exact ⟨sameL_of a iha, sameL_of b ihb⟩
theorem sameL (l : List Stm) : SameL l := sameL_of l fun x _ => sameP x

theorem equal27 {p : Prg} (ok : POk p) (hK : K (.ret (.bool true)) h) : R 10 [p.v, p.v] h K := by
  have hm := maxLen_eq
  have hli := ok.li
  have hla := ok.la
  refine run10 (Nat.le_of_ble_eq_true rfl) ?_
  simp -dsimp -implicitDefEqProofs only [↓STP, STQ, ne_eq, implies_true, forall_const, if_false, if_true, reduceCtorEq, ↓reduceIte, Nat.reduceEqDiff, Nat.reduceAdd, Int.reduceEq, Int.reduceLT, Int.reduceLE, Int.reduceNeg, Int.reduceAdd, Int.reduceSub, Int.reduceMul, Int.reduceToNat, Nat.reduceMul, Nat.reduceSub, Nat.reduceLT, Nat.reduceLeDiff, Prg.v, Prg.cells, ir10, List.length_map, eq_self]
  refine codeT_for (N := p.ins.length) (fun i => ⟨upd (upd (upd ρ0 2 (.lptr 0 3 0)) 3 (.lptr 1 3 0)) 5 (I i), upd (upd m0 0 (some (prgCells p))) 1 (some (prgCells p)), 2, [], h⟩) (fun _ => True) (by simp -dsimp -implicitDefEqProofs only [↓STP, STQ, ne_eq, implies_true, forall_const, if_false, if_true, reduceCtorEq, ↓reduceIte, Nat.reduceEqDiff, Nat.reduceAdd, Int.reduceEq, Int.reduceLT, Int.reduceLE, Int.reduceNeg, Int.reduceAdd, Int.reduceSub, Int.reduceMul, Int.reduceToNat, Nat.reduceMul, Nat.reduceSub, Nat.reduceLT, Nat.reduceLeDiff, prgCells] <;> rfl) trivial (fun i hlt _ => ?_) (fun _ => ?_) mono
  · have hget := get_map (f := InD.v) hlt
    have w1 := wiM (show i < 9223372036854775807 by omega)
    generalize p.ins[i] = x at *
    obtain ⟨s, f, w, z⟩ := x
    simp -dsimp -implicitDefEqProofs only [↓STP, STQ, ne_eq, implies_true, forall_const, if_false, if_true, reduceCtorEq, ↓reduceIte, Nat.reduceEqDiff, Nat.reduceAdd, Int.reduceEq, Int.reduceLT, Int.reduceLE, Int.reduceNeg, Int.reduceAdd, Int.reduceSub, Int.reduceMul, Int.reduceToNat, Nat.reduceMul, Nat.reduceSub, Nat.reduceLT, Nat.reduceLeDiff, prgCells, List.length_map, Int.ofNat_lt, hlt, hget, InD.v, InD.cells, binS, bneS, beqS, w1, prgCells, eq_self]
  simp -dsimp -implicitDefEqProofs only [↓STP, STQ, ne_eq, implies_true, forall_const, if_false, if_true, reduceCtorEq, ↓reduceIte, Nat.reduceEqDiff, Nat.reduceAdd, Int.reduceEq, Int.reduceLT, Int.reduceLE, Int.reduceNeg, Int.reduceAdd, Int.reduceSub, Int.reduceMul, Int.reduceToNat, Nat.reduceMul, Nat.reduceSub, Nat.reduceLT, Nat.reduceLeDiff, prgCells, List.length_map, Int.lt_irrefl]
  refine codeT_for (N := p.arrays.length) (fun i => ⟨upd (upd (upd ρ0 2 (.lptr 0 3 0)) 3 (.lptr 1 3 0)) 6 (I i), upd (upd m0 0 (some (prgCells p))) 1 (some (prgCells p)), 2, [], h⟩) (fun _ => True) (by simp -dsimp -implicitDefEqProofs only [↓STP, STQ, ne_eq, implies_true, forall_const, if_false, if_true, reduceCtorEq, ↓reduceIte, Nat.reduceEqDiff, Nat.reduceAdd, Int.reduceEq, Int.reduceLT, Int.reduceLE, Int.reduceNeg, Int.reduceAdd, Int.reduceSub, Int.reduceMul, Int.reduceToNat, Nat.reduceMul, Nat.reduceSub, Nat.reduceLT, Nat.reduceLeDiff, prgCells] <;> rfl) trivial (fun i hlt _ => ?_) (fun _ => ?_) mono
  · have hget := get_map (f := ArD.v) hlt
    have w1 := wiM (show i < 9223372036854775807 by omega)
    generalize p.arrays[i] = x at *
    obtain ⟨s, z⟩ := x
    simp -dsimp -implicitDefEqProofs only [↓STP, STQ, ne_eq, implies_true, forall_const, if_false, if_true, reduceCtorEq, ↓reduceIte, Nat.reduceEqDiff, Nat.reduceAdd, Int.reduceEq, Int.reduceLT, Int.reduceLE, Int.reduceNeg, Int.reduceAdd, Int.reduceSub, Int.reduceMul, Int.reduceToNat, Nat.reduceMul, Nat.reduceSub, Nat.reduceLT, Nat.reduceLeDiff, prgCells, List.length_map, Int.ofNat_lt, hlt, hget, ArD.v, ArD.cells, binS, bneS, beqS, w1, prgCells, eq_self]
  simp -dsimp -implicitDefEqProofs only [↓STP, STQ, ne_eq, implies_true, forall_const, if_false, if_true, reduceCtorEq, ↓reduceIte, Nat.reduceEqDiff, Nat.reduceAdd, Int.reduceEq, Int.reduceLT, Int.reduceLE, Int.reduceNeg, Int.reduceAdd, Int.reduceSub, Int.reduceMul, Int.reduceToNat, Nat.reduceMul, Nat.reduceSub, Nat.reduceLT, Nat.reduceLeDiff, prgCells, List.length_map, Int.lt_irrefl]
  refine sameL p.body _ _ ok.lb ok.body ?_
  simp -dsimp -implicitDefEqProofs only [↓STP, STQ, ne_eq, implies_true, forall_const, if_false, if_true, reduceCtorEq, ↓reduceIte, Nat.reduceEqDiff, Nat.reduceAdd, Int.reduceEq, Int.reduceLT, Int.reduceLE, Int.reduceNeg, Int.reduceAdd, Int.reduceSub, Int.reduceMul, Int.reduceToNat, Nat.reduceMul, Nat.reduceSub, Nat.reduceLT, Nat.reduceLeDiff]
  exact hK

end
end Go.Ab.Ytemlhjlceeiflaa
