/- The reference's list of exponents. -/
import Derived.Test.YtgfnhkedfmnijaaEnv
import Derived.Test.YtgfnhkedfmnijaaAb34
set_option linter.unusedVariables false
set_option linter.unusedSimpArgs false
namespace Go.Ab.Ytgfnhkedfmnijaa

theorem exps_spec {h : H} {K : Out → H → Prop} (hK : K (.ret (.vec [I 5, I 7, I 13, I 17, I 19, I 31, I 61] .any)) h) : R 69 [] h K := by
  refine run69 (Nat.le_of_ble_eq_true rfl) ?_
  simp -dsimp -implicitDefEqProofs only [↓STP, STQ, ne_eq, implies_true, forall_const, if_false, if_true, reduceCtorEq, ↓reduceIte, Nat.reduceEqDiff, Nat.reduceAdd, Int.reduceEq, Int.reduceLT, Int.reduceLE, Int.reduceNeg, Int.reduceAdd, Int.reduceSub, Int.reduceMul, Int.reduceToNat, Nat.reduceMul, Nat.reduceSub, Nat.reduceLT, Nat.reduceLeDiff, ir69]
  exact hK

end Go.Ab.Ytgfnhkedfmnijaa
