/- The reference's 'Same' (layer 5). -/
import Derived.Test.YtgfnhkedfmnijaaEnv
import Derived.Test.YtgfnhkedfmnijaaG2
set_option linter.unusedVariables false
set_option linter.unusedSimpArgs false
namespace Go.Ab.Ytgfnhkedfmnijaa

section
variable {h : H} {K : Out → H → Prop}

theorem same05 {a b : List Nat} {bv : V} (hb : WordsAt h bv b) (hl : a.length ≤ 1000) (hK : ∀ r, r = decide (a = b) → K (.ret (.bool r)) h) : R 48 [.vec (Ws a) .any, bv] h K := by
  obtain ⟨o1, o2, o3, o4⟩ := hb.out
  refine run48 (Nat.le_of_ble_eq_true rfl) ?_
  by_cases hlen : (a.length : Int) = b.length
  · simp -dsimp -implicitDefEqProofs only [↓STP, STQ, ne_eq, implies_true, forall_const, if_false, if_true, reduceCtorEq, ↓reduceIte, Nat.reduceEqDiff, Nat.reduceAdd, Int.reduceEq, Int.reduceLT, Int.reduceLE, Int.reduceNeg, Int.reduceAdd, Int.reduceSub, Int.reduceMul, Int.reduceToNat, Nat.reduceMul, Nat.reduceSub, Nat.reduceLT, Nat.reduceLeDiff, ir48, Ws_length, o4, hlen]
    have hlen' : a.length = b.length := by omega
    refine codeT_for (N := a.length) (fun i => ⟨upd (upd (upd ρ0 0 (.vec (Ws a) .any)) 1 bv) 5 (I i), m0, 0, [], h⟩) (fun i => a.take i = b.take i) (by simp -dsimp -implicitDefEqProofs only [↓STP, STQ, ne_eq, implies_true, forall_const, if_false, if_true, reduceCtorEq, ↓reduceIte, Nat.reduceEqDiff, Nat.reduceAdd, Int.reduceEq, Int.reduceLT, Int.reduceLE, Int.reduceNeg, Int.reduceAdd, Int.reduceSub, Int.reduceMul, Int.reduceToNat, Nat.reduceMul, Nat.reduceSub, Nat.reduceLT, Nat.reduceLeDiff, o3] <;> rfl) rfl (fun i hlt htk => ?_) (fun htk => ?_) mono
    · have hx : (Ws a)[i]? = some (W a[i]) := by rw [Ws_get, List.getElem?_eq_getElem hlt]; rfl
      obtain ⟨ptr, q1, q2⟩ := hb.idx (i := i) (by omega)
      by_cases he : (a[i] : Int) = ((b[i]'(by omega) : Nat) : Int)
      · simp -dsimp -implicitDefEqProofs only [↓STP, STQ, ne_eq, implies_true, forall_const, if_false, if_true, reduceCtorEq, ↓reduceIte, Nat.reduceEqDiff, Nat.reduceAdd, Int.reduceEq, Int.reduceLT, Int.reduceLE, Int.reduceNeg, Int.reduceAdd, Int.reduceSub, Int.reduceMul, Int.reduceToNat, Nat.reduceMul, Nat.reduceSub, Nat.reduceLT, Nat.reduceLeDiff, Ws_length, Int.ofNat_lt, hlt, hx, q1, q2, he, wi (show i < 9000000000000000000 by omega), o3]
        rw [List.take_add_one, List.take_add_one, htk, List.getElem?_eq_getElem hlt, List.getElem?_eq_getElem (by omega)]
        have : a[i] = b[i]'(by omega) := by omega
        rw [this]
      · simp -dsimp -implicitDefEqProofs only [↓STP, STQ, ne_eq, implies_true, forall_const, if_false, if_true, reduceCtorEq, ↓reduceIte, Nat.reduceEqDiff, Nat.reduceAdd, Int.reduceEq, Int.reduceLT, Int.reduceLE, Int.reduceNeg, Int.reduceAdd, Int.reduceSub, Int.reduceMul, Int.reduceToNat, Nat.reduceMul, Nat.reduceSub, Nat.reduceLT, Nat.reduceLeDiff, Ws_length, Int.ofNat_lt, hlt, hx, q1, q2, he]
        have : a ≠ b := fun h => he (by subst h; rfl)
        exact hK _ (by simp [this])
    · simp -dsimp -implicitDefEqProofs only [↓STP, STQ, ne_eq, implies_true, forall_const, if_false, if_true, reduceCtorEq, ↓reduceIte, Nat.reduceEqDiff, Nat.reduceAdd, Int.reduceEq, Int.reduceLT, Int.reduceLE, Int.reduceNeg, Int.reduceAdd, Int.reduceSub, Int.reduceMul, Int.reduceToNat, Nat.reduceMul, Nat.reduceSub, Nat.reduceLT, Nat.reduceLeDiff, Ws_length, Int.lt_irrefl]
      have : a = b := by
        have e1 : a.take a.length = a := List.take_of_length_le (by omega)
        have e2 : b.take a.length = b := List.take_of_length_le (by omega)
        rw [← e1, ← e2, htk]
      exact hK _ (by simp [this])
  · simp -dsimp -implicitDefEqProofs only [↓STP, STQ, ne_eq, implies_true, forall_const, if_false, if_true, reduceCtorEq, ↓reduceIte, Nat.reduceEqDiff, Nat.reduceAdd, Int.reduceEq, Int.reduceLT, Int.reduceLE, Int.reduceNeg, Int.reduceAdd, Int.reduceSub, Int.reduceMul, Int.reduceToNat, Nat.reduceMul, Nat.reduceSub, Nat.reduceLT, Nat.reduceLeDiff, ir48, Ws_length, o4, hlen]
    have : a ≠ b := fun h => hlen (by subst h; rfl)
    exact hK _ (by simp [this])

end
end Go.Ab.Ytgfnhkedfmnijaa
