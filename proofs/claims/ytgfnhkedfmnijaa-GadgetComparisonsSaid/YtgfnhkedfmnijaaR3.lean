/- The reference's 'Same' (layer 5). -/
import Derived.Test.YtgfnhkedfmnijaaEnv
import Derived.Test.YtgfnhkedfmnijaaAb34
set_option linter.unusedVariables false
set_option linter.unusedSimpArgs false
namespace Go.Ab.Ytgfnhkedfmnijaa

section
variable {h : H} {K : Out → H → Prop}

def InvSame05 (a b : List Nat) (c1 c2 : Cap) (h : H) (k : Nat) (st : S) : Prop :=
  ∃ i : Nat, k = a.length - i ∧ i ≤ a.length ∧ a.take i = b.take i ∧ st = ⟨upd (upd (upd ρ0 0 (.vec (Ws a) c1)) 1 (.vec (Ws b) c2)) 5 (I i), m0, 0, [], h⟩

theorem same05 {a b : List Nat} {c1 c2 : Cap} (h1 : c1.shared = true) (h2 : c2.shared = true) (hl : a.length ≤ 1000) (hK : ∀ r, r = decide (a = b) → K (.ret (.bool r)) h) : R 48 [.vec (Ws a) c1, .vec (Ws b) c2] h K := by
  refine run48 (Nat.le_of_ble_eq_true rfl) ?_
  by_cases hlen : (a.length : Int) = b.length
  · simp -dsimp -implicitDefEqProofs only [↓STP, STQ, ne_eq, implies_true, forall_const, if_false, if_true, reduceCtorEq, ↓reduceIte, Nat.reduceEqDiff, Nat.reduceAdd, Int.reduceEq, Int.reduceLT, Int.reduceLE, Int.reduceNeg, Int.reduceAdd, Int.reduceSub, Int.reduceMul, Int.reduceToNat, Nat.reduceMul, Nat.reduceSub, Nat.reduceLT, Nat.reduceLeDiff, ir48, Ws_length, hlen]
    have hlen' : a.length = b.length := by omega
    refine codeT_loop (InvSame05 a b c1 c2 h) (i := a.length) ⟨0, by omega, by omega, by simp, by simp -dsimp -implicitDefEqProofs only [↓STP, STQ, ne_eq, implies_true, forall_const, if_false, if_true, reduceCtorEq, ↓reduceIte, Nat.reduceEqDiff, Nat.reduceAdd, Int.reduceEq, Int.reduceLT, Int.reduceLE, Int.reduceNeg, Int.reduceAdd, Int.reduceSub, Int.reduceMul, Int.reduceToNat, Nat.reduceMul, Nat.reduceSub, Nat.reduceLT, Nat.reduceLeDiff, h1, h2] <;> rfl⟩ ?_ mono
    rintro k st ⟨i, rfl, hi, htk, rfl⟩
    by_cases hlt : i < a.length
    · have hx : (Ws a)[i]? = some (W a[i]) := by rw [Ws_get, List.getElem?_eq_getElem hlt]; rfl
      have hy : (Ws b)[i]? = some (W (b[i]'(by omega))) := by rw [Ws_get, List.getElem?_eq_getElem (by omega)]; rfl
      by_cases he : (a[i] : Int) = b[i]'(by omega)
      · simp -dsimp -implicitDefEqProofs only [↓STP, STQ, ne_eq, implies_true, forall_const, if_false, if_true, reduceCtorEq, ↓reduceIte, Nat.reduceEqDiff, Nat.reduceAdd, Int.reduceEq, Int.reduceLT, Int.reduceLE, Int.reduceNeg, Int.reduceAdd, Int.reduceSub, Int.reduceMul, Int.reduceToNat, Nat.reduceMul, Nat.reduceSub, Nat.reduceLT, Nat.reduceLeDiff, Ws_length, Int.ofNat_lt, hlt, hx, hy, he, h1, h2]
        refine ⟨_, ?_, i + 1, rfl, by omega, ?_, ?_⟩
        · omega
        · rw [List.take_add_one, List.take_add_one, htk, List.getElem?_eq_getElem hlt, List.getElem?_eq_getElem (by omega)]
          have : a[i] = b[i]'(by omega) := by omega
          rw [this]
        · rw [wrap_i64 (by omega) (by omega)]; rfl
      · simp -dsimp -implicitDefEqProofs only [↓STP, STQ, ne_eq, implies_true, forall_const, if_false, if_true, reduceCtorEq, ↓reduceIte, Nat.reduceEqDiff, Nat.reduceAdd, Int.reduceEq, Int.reduceLT, Int.reduceLE, Int.reduceNeg, Int.reduceAdd, Int.reduceSub, Int.reduceMul, Int.reduceToNat, Nat.reduceMul, Nat.reduceSub, Nat.reduceLT, Nat.reduceLeDiff, Ws_length, Int.ofNat_lt, hlt, hx, hy, he]
        have : a ≠ b := fun h => he (by subst h; rfl)
        exact hK _ (by simp [this])
    · simp -dsimp -implicitDefEqProofs only [↓STP, STQ, ne_eq, implies_true, forall_const, if_false, if_true, reduceCtorEq, ↓reduceIte, Nat.reduceEqDiff, Nat.reduceAdd, Int.reduceEq, Int.reduceLT, Int.reduceLE, Int.reduceNeg, Int.reduceAdd, Int.reduceSub, Int.reduceMul, Int.reduceToNat, Nat.reduceMul, Nat.reduceSub, Nat.reduceLT, Nat.reduceLeDiff, Ws_length, Int.ofNat_lt, hlt]
      have : a = b := by
        have e1 : a.take i = a := List.take_of_length_le (by omega)
        have e2 : b.take i = b := List.take_of_length_le (by omega)
        rw [← e1, ← e2, htk]
      exact hK _ (by simp [this])
  · simp -dsimp -implicitDefEqProofs only [↓STP, STQ, ne_eq, implies_true, forall_const, if_false, if_true, reduceCtorEq, ↓reduceIte, Nat.reduceEqDiff, Nat.reduceAdd, Int.reduceEq, Int.reduceLT, Int.reduceLE, Int.reduceNeg, Int.reduceAdd, Int.reduceSub, Int.reduceMul, Int.reduceToNat, Nat.reduceMul, Nat.reduceSub, Nat.reduceLT, Nat.reduceLeDiff, ir48, Ws_length, hlen]
    have : a ≠ b := fun h => hlen (by rw [h])
    exact hK _ (by simp [this])

end
end Go.Ab.Ytgfnhkedfmnijaa
