/- ConstfoldIsIdempotent, as a run of the layer Ab. -/
import Derived.Test.YtemlhjlceeiflaaA11
import Derived.Test.YtemlhjlceeiflaaA17
import Derived.Test.YtemlhjlceeiflaaA18
import Derived.Test.YtemlhjlceeiflaaA20
import Derived.Test.YtemlhjlceeiflaaA21
set_option linter.unusedVariables false
set_option linter.unusedSimpArgs false
namespace Go.Ab.Ytemlhjlceeiflaa
theorem insL {l : List InD} : l.length ≤ V.bulks (l.map InD.v) := by
  induction l with
  | nil => exact Nat.le_refl _
  | cons x l ih => rw [List.map_cons, V.bulks, List.length_cons, InD.v, V.bulk]; omega
theorem arsL {l : List ArD} : l.length ≤ V.bulks (l.map ArD.v) := by
  induction l with
  | nil => exact Nat.le_refl _
  | cons x l ih => rw [List.map_cons, V.bulks, List.length_cons, ArD.v, V.bulk]; omega
theorem law31_5 {p : Prg} (ok : POk p) (hb : p.v.bulk ≤ 1048576) : R 7 [p.v] h0 (fun o _ => o = .ret (.bool true)) := by
  refine run7 (Nat.le_of_ble_eq_true rfl) ?_
  have hv0 : p.v = V.agg [.vec (p.ins.map InD.v) .any, .vec (p.arrays.map ArD.v) .any, .vec (p.body.map Stm.v) .any] := rfl
  simp -dsimp -implicitDefEqProofs only [↓STP, STQ, ne_eq, implies_true, forall_const, if_false, if_true, reduceCtorEq, ↓reduceIte, Nat.reduceEqDiff, Nat.reduceAdd, Int.reduceEq, Int.reduceLT, Int.reduceLE, Int.reduceNeg, Int.reduceAdd, Int.reduceSub, Int.reduceMul, Int.reduceToNat, Nat.reduceMul, Nat.reduceSub, Nat.reduceLT, Nat.reduceLeDiff, ir7, hv0]
  refine awake31 fun h => ?_
  simp -dsimp -implicitDefEqProofs only [↓STP, STQ, ne_eq, implies_true, forall_const, if_false, if_true, reduceCtorEq, ↓reduceIte, Nat.reduceEqDiff, Nat.reduceAdd, Int.reduceEq, Int.reduceLT, Int.reduceLE, Int.reduceNeg, Int.reduceAdd, Int.reduceSub, Int.reduceMul, Int.reduceToNat, Nat.reduceMul, Nat.reduceSub, Nat.reduceLT, Nat.reduceLeDiff]
  rw [← hv0]
  refine few_spec ok (by omega) fun b hb2 => ?_
  cases b with
  | false => simp -dsimp -implicitDefEqProofs only [↓STP, STQ, ne_eq, implies_true, forall_const, if_false, if_true, reduceCtorEq, ↓reduceIte, Nat.reduceEqDiff, Nat.reduceAdd, Int.reduceEq, Int.reduceLT, Int.reduceLE, Int.reduceNeg, Int.reduceAdd, Int.reduceSub, Int.reduceMul, Int.reduceToNat, Nat.reduceMul, Nat.reduceSub, Nat.reduceLT, Nat.reduceLeDiff]
  | true =>
    have hp := hb2 rfl
    have hv := hp.body
    have okf := POk_fold ok hv (by omega)
    have bf := bulk_fold (p := p)
    have hvf := VSs_fold hv
    have hpf := VP_fold hp
    have e2 := fold_idem hv
    simp -dsimp -implicitDefEqProofs only [↓STP, STQ, ne_eq, implies_true, forall_const, if_false, if_true, reduceCtorEq, ↓reduceIte, Nat.reduceEqDiff, Nat.reduceAdd, Int.reduceEq, Int.reduceLT, Int.reduceLE, Int.reduceNeg, Int.reduceAdd, Int.reduceSub, Int.reduceMul, Int.reduceToNat, Nat.reduceMul, Nat.reduceSub, Nat.reduceLT, Nat.reduceLeDiff, hv0, eq_self]
    rw [← hv0]
    refine foldG ok hv (by omega) ?_
    have hv1 : p.fold.v = V.agg [.vec (p.ins.map InD.v) .any, .vec (p.arrays.map ArD.v) .any, .vec ((foldSs p.body).map Stm.v) .any] := rfl
    simp -dsimp -implicitDefEqProofs only [↓STP, STQ, ne_eq, implies_true, forall_const, if_false, if_true, reduceCtorEq, ↓reduceIte, Nat.reduceEqDiff, Nat.reduceAdd, Int.reduceEq, Int.reduceLT, Int.reduceLE, Int.reduceNeg, Int.reduceAdd, Int.reduceSub, Int.reduceMul, Int.reduceToNat, Nat.reduceMul, Nat.reduceSub, Nat.reduceLT, Nat.reduceLeDiff, hv0, hv1, storeV, eq_self]
    rw [← hv1]
    refine valid27 okf (fun _ _ hv => by have := flen_bulk okf hv; omega) fun b hbv => ?_
    have hbt : b = true := hbv.2 hpf
    subst hbt
    simp -dsimp -implicitDefEqProofs only [↓STP, STQ, ne_eq, implies_true, forall_const, if_false, if_true, reduceCtorEq, ↓reduceIte, Nat.reduceEqDiff, Nat.reduceAdd, Int.reduceEq, Int.reduceLT, Int.reduceLE, Int.reduceNeg, Int.reduceAdd, Int.reduceSub, Int.reduceMul, Int.reduceToNat, Nat.reduceMul, Nat.reduceSub, Nat.reduceLT, Nat.reduceLeDiff, hv0, hv1, eq_self]
    rw [← hv1]
    refine foldG okf hvf (by omega) ?_
    rw [e2]
    simp -dsimp -implicitDefEqProofs only [↓STP, STQ, ne_eq, implies_true, forall_const, if_false, if_true, reduceCtorEq, ↓reduceIte, Nat.reduceEqDiff, Nat.reduceAdd, Int.reduceEq, Int.reduceLT, Int.reduceLE, Int.reduceNeg, Int.reduceAdd, Int.reduceSub, Int.reduceMul, Int.reduceToNat, Nat.reduceMul, Nat.reduceSub, Nat.reduceLT, Nat.reduceLeDiff, hv0, hv1, eq_self]
    rw [← hv1]
    refine equal27 okf ?_
    simp -dsimp -implicitDefEqProofs only [↓STP, STQ, ne_eq, implies_true, forall_const, if_false, if_true, reduceCtorEq, ↓reduceIte, Nat.reduceEqDiff, Nat.reduceAdd, Int.reduceEq, Int.reduceLT, Int.reduceLE, Int.reduceNeg, Int.reduceAdd, Int.reduceSub, Int.reduceMul, Int.reduceToNat, Nat.reduceMul, Nat.reduceSub, Nat.reduceLT, Nat.reduceLeDiff, hv0, hv1, eq_self]
    rw [← hv1]
    have l1 := insL (l := p.ins)
    have l2 := arsL (l := p.arrays)
    have l3 := nodesSs_bulk p.body
    have l4 := nodes_foldSs (l := p.body)
    rw [prg_bulk] at hb
    refine size27 (p := p.fold) (by show p.ins.length ≤ _; omega) (by show p.arrays.length ≤ _; omega) (by show nodesSs (foldSs p.body) ≤ _; omega) ?_
    simp -dsimp -implicitDefEqProofs only [↓STP, STQ, ne_eq, implies_true, forall_const, if_false, if_true, reduceCtorEq, ↓reduceIte, Nat.reduceEqDiff, Nat.reduceAdd, Int.reduceEq, Int.reduceLT, Int.reduceLE, Int.reduceNeg, Int.reduceAdd, Int.reduceSub, Int.reduceMul, Int.reduceToNat, Nat.reduceMul, Nat.reduceSub, Nat.reduceLT, Nat.reduceLeDiff, hv0, hv1, eq_self]
    rw [← hv0]
    refine size27 (by omega) (by omega) (by omega) ?_
    have hle : ((nodesP p.fold : Nat) : Int) ≤ ((nodesP p : Nat) : Int) := by
      show ((p.ins.length + p.arrays.length + nodesSs (foldSs p.body) : Nat) : Int) ≤ ((p.ins.length + p.arrays.length + nodesSs p.body : Nat) : Int)
      omega
    simp -dsimp -implicitDefEqProofs only [↓STP, STQ, ne_eq, implies_true, forall_const, if_false, if_true, reduceCtorEq, ↓reduceIte, Nat.reduceEqDiff, Nat.reduceAdd, Int.reduceEq, Int.reduceLT, Int.reduceLE, Int.reduceNeg, Int.reduceAdd, Int.reduceSub, Int.reduceMul, Int.reduceToNat, Nat.reduceMul, Nat.reduceSub, Nat.reduceLT, Nat.reduceLeDiff, hv0, hv1, eq_true hle, eq_self]
end Go.Ab.Ytemlhjlceeiflaa
