/- The reference's field: sums, differences, products. -/
import Derived.Test.YtgfnhkedfmnijaaEnv
import Derived.Test.YtgfnhkedfmnijaaAb34
set_option linter.unusedVariables false
set_option linter.unusedSimpArgs false
namespace Go.Ab.Ytgfnhkedfmnijaa

section
variable {h : H} {K : Out → H → Prop} {p a b : Nat}

theorem radd_spec (hp : 0 < p) (hab : a + b < 18446744073709551616) (hK : K (.ret (W ((a + b) % p))) h) : R 51 [W p, W a, W b] h K := by
  refine run51 (Nat.le_of_ble_eq_true rfl) ?_
  have h0 : ¬ ((p : Int) = 0) := by omega
  have w : IntKind.u64.wrap ((a : Int) + b) = ((a + b : Nat) : Int) := by rw [wrap_u64]; omega
  have m : Int.tmod ((a + b : Nat) : Int) (p : Int) = (((a + b) % p : Nat) : Int) := rfl
  simp -dsimp -implicitDefEqProofs only [↓STP, STQ, ne_eq, implies_true, forall_const, if_false, if_true, reduceCtorEq, ↓reduceIte, Nat.reduceEqDiff, Nat.reduceAdd, Int.reduceEq, Int.reduceLT, Int.reduceLE, Int.reduceNeg, Int.reduceAdd, Int.reduceSub, Int.reduceMul, Int.reduceToNat, Nat.reduceMul, Nat.reduceSub, Nat.reduceLT, Nat.reduceLeDiff, ir51, w, h0, m]
  exact hK

theorem rsub_spec (hp : 0 < p) (hab : a + p < 18446744073709551616) (hb : b ≤ a + p) (hK : K (.ret (W ((a + p - b) % p))) h) : R 52 [W p, W a, W b] h K := by
  refine run52 (Nat.le_of_ble_eq_true rfl) ?_
  have h0 : ¬ ((p : Int) = 0) := by omega
  have w : IntKind.u64.wrap ((a : Int) + p) = ((a + p : Nat) : Int) := by rw [wrap_u64]; omega
  have w2 : IntKind.u64.wrap (((a + p : Nat) : Int) - b) = ((a + p - b : Nat) : Int) := by rw [wrap_u64]; omega
  have m : Int.tmod ((a + p - b : Nat) : Int) (p : Int) = (((a + p - b) % p : Nat) : Int) := rfl
  simp -dsimp -implicitDefEqProofs only [↓STP, STQ, ne_eq, implies_true, forall_const, if_false, if_true, reduceCtorEq, ↓reduceIte, Nat.reduceEqDiff, Nat.reduceAdd, Int.reduceEq, Int.reduceLT, Int.reduceLE, Int.reduceNeg, Int.reduceAdd, Int.reduceSub, Int.reduceMul, Int.reduceToNat, Nat.reduceMul, Nat.reduceSub, Nat.reduceLT, Nat.reduceLeDiff, ir52, w, w2, h0, m]
  exact hK

def InvMul (p t : Nat) (h : H) (k : Nat) (st : S) : Prop :=
  ∃ x y out : Nat, k = y ∧ x < p ∧ out < p ∧ (out + x * y) % p = t % p ∧ y < 18446744073709551616 ∧ st = ⟨upd (upd (upd (upd ρ0 0 (W p)) 1 (W x)) 2 (W y)) 7 (W out), m0, 0, [], h⟩

theorem rmul_spec (hp : p < 4611686018427387904) (ha : a < p) (hb : b < 18446744073709551616) (hK : K (.ret (W (a * b % p))) h) : R 21 [W p, W a, W b] h K := by
  refine run21 (Nat.le_of_ble_eq_true rfl) ?_
  have h0 : ¬ ((p : Int) = 0) := by omega
  simp -dsimp -implicitDefEqProofs only [↓STP, STQ, ne_eq, implies_true, forall_const, if_false, if_true, reduceCtorEq, ↓reduceIte, Nat.reduceEqDiff, Nat.reduceAdd, Int.reduceEq, Int.reduceLT, Int.reduceLE, Int.reduceNeg, Int.reduceAdd, Int.reduceSub, Int.reduceMul, Int.reduceToNat, Nat.reduceMul, Nat.reduceSub, Nat.reduceLT, Nat.reduceLeDiff, ir21]
  refine codeT_loop (InvMul p (a * b) h) (i := b) ⟨a, b, 0, rfl, ha, by omega, by simp, hb, by simp -dsimp -implicitDefEqProofs only [↓STP, STQ, ne_eq, implies_true, forall_const, if_false, if_true, reduceCtorEq, ↓reduceIte, Nat.reduceEqDiff, Nat.reduceAdd, Int.reduceEq, Int.reduceLT, Int.reduceLE, Int.reduceNeg, Int.reduceAdd, Int.reduceSub, Int.reduceMul, Int.reduceToNat, Nat.reduceMul, Nat.reduceSub, Nat.reduceLT, Nat.reduceLeDiff] <;> rfl⟩ ?_ mono
  rintro y st ⟨x, _, out, rfl, hx, ho, hinv, hy, rfl⟩
  by_cases hy0 : (0 : Int) < y
  · have w2 : IntKind.u64.wrap ((x : Int) + x) = ((x + x : Nat) : Int) := by rw [wrap_u64]; omega
    have m2 : Int.tmod ((x + x : Nat) : Int) (p : Int) = (((x + x) % p : Nat) : Int) := rfl
    have d2 : IntKind.u64.wrap (Int.tdiv (y : Int) 2) = ((y / 2 : Nat) : Int) := by
      rw [show Int.tdiv (y : Int) 2 = ((y / 2 : Nat) : Int) from rfl, wrap_u64]; omega
    have e2 : Int.tmod (y : Int) 2 = ((y % 2 : Nat) : Int) := rfl
    have hlt : y / 2 < y := by omega
    have hxp : (x + x) % p < p := Nat.mod_lt _ (by omega)
    have hy2 : y / 2 < 18446744073709551616 := by omega
    by_cases hodd : ((y % 2 : Nat) : Int) = 1
    · have w1 : IntKind.u64.wrap ((out : Int) + x) = ((out + x : Nat) : Int) := by rw [wrap_u64]; omega
      have m1 : Int.tmod ((out + x : Nat) : Int) (p : Int) = (((out + x) % p : Nat) : Int) := rfl
      simp -dsimp -implicitDefEqProofs only [↓STP, STQ, ne_eq, implies_true, forall_const, if_false, if_true, reduceCtorEq, ↓reduceIte, Nat.reduceEqDiff, Nat.reduceAdd, Int.reduceEq, Int.reduceLT, Int.reduceLE, Int.reduceNeg, Int.reduceAdd, Int.reduceSub, Int.reduceMul, Int.reduceToNat, Nat.reduceMul, Nat.reduceSub, Nat.reduceLT, Nat.reduceLeDiff, eq_true hy0, e2, eq_true hodd, w1, m1, w2, m2, d2, h0]
      refine ⟨_, hlt, (x + x) % p, y / 2, (out + x) % p, rfl, hxp, Nat.mod_lt _ (by omega), ?_, hy2, rfl⟩
      rw [← hinv, Nat.add_mod, Nat.mod_mod, Nat.mul_mod, Nat.mod_mod, ← Nat.mul_mod, ← Nat.add_mod]
      have : out + x * y = out + x + (x + x) * (y / 2) := by
        have : y = 2 * (y / 2) + 1 := by omega
        generalize y / 2 = z at this
        subst this
        rw [Nat.mul_add, Nat.mul_one, ← Nat.two_mul, ← Nat.mul_assoc, Nat.mul_comm x 2]; omega
      rw [this]
    · simp -dsimp -implicitDefEqProofs only [↓STP, STQ, ne_eq, implies_true, forall_const, if_false, if_true, reduceCtorEq, ↓reduceIte, Nat.reduceEqDiff, Nat.reduceAdd, Int.reduceEq, Int.reduceLT, Int.reduceLE, Int.reduceNeg, Int.reduceAdd, Int.reduceSub, Int.reduceMul, Int.reduceToNat, Nat.reduceMul, Nat.reduceSub, Nat.reduceLT, Nat.reduceLeDiff, eq_true hy0, e2, eq_false hodd, w2, m2, d2, h0]
      refine ⟨_, hlt, (x + x) % p, y / 2, out, rfl, hxp, ho, ?_, hy2, rfl⟩
      rw [← hinv, Nat.add_mod, Nat.mul_mod, Nat.mod_mod, ← Nat.mul_mod, ← Nat.add_mod]
      have : out + x * y = out + (x + x) * (y / 2) := by
        have : y = 2 * (y / 2) := by omega
        generalize y / 2 = z at this
        subst this
        rw [← Nat.two_mul, ← Nat.mul_assoc, Nat.mul_comm x 2]
      rw [this]
  · simp -dsimp -implicitDefEqProofs only [↓STP, STQ, ne_eq, implies_true, forall_const, if_false, if_true, reduceCtorEq, ↓reduceIte, Nat.reduceEqDiff, Nat.reduceAdd, Int.reduceEq, Int.reduceLT, Int.reduceLE, Int.reduceNeg, Int.reduceAdd, Int.reduceSub, Int.reduceMul, Int.reduceToNat, Nat.reduceMul, Nat.reduceSub, Nat.reduceLT, Nat.reduceLeDiff, eq_false hy0]
    have : y = 0 := by omega
    subst this
    have : out = a * b % p := by rw [← hinv]; simp [Nat.mod_eq_of_lt ho]
    rw [← this] at hK
    exact hK

end
end Go.Ab.Ytgfnhkedfmnijaa
