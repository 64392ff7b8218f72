/- Chapter 34: gates of bits. -/
import Derived.Test.YtgfnhkedfmnijaaT34a
import Derived.Test.YtgfnhkedfmnijaaB5
set_option linter.unusedVariables false
set_option linter.unusedSimpArgs false
namespace Go.Ab.Ytgfnhkedfmnijaa

section
variable {h : H} {K : Out → H → Prop} {p q : Nat} {x y c : Nat}

theorem op3 (hx : x ≤ 1) (hK : K (.ret (W (1 - x))) h) : R 20 [W p, I 3, W x, W y, W c] h K := by
  refine run20 (Nat.le_of_ble_eq_true rfl) ?_
  have w : IntKind.u64.wrap (1 - (x : Int)) = ((1 - x : Nat) : Int) := by rw [wrap_u64]; omega
  simp -dsimp -implicitDefEqProofs only [↓STP, STQ, ne_eq, implies_true, forall_const, if_false, if_true, reduceCtorEq, ↓reduceIte, Nat.reduceEqDiff, Nat.reduceAdd, Int.reduceEq, Int.reduceLT, Int.reduceLE, Int.reduceNeg, Int.reduceAdd, Int.reduceSub, Int.reduceMul, Int.reduceToNat, Nat.reduceMul, Nat.reduceSub, Nat.reduceLT, Nat.reduceLeDiff, ir20, w]
  exact hK
theorem op4 (hx : x ≤ 1) (hy : y ≤ 1) (hK : K (.ret (W (x * y))) h) : R 20 [W p, I 4, W x, W y, W c] h K := by
  refine run20 (Nat.le_of_ble_eq_true rfl) ?_
  have hm : x * y ≤ 1 := Nat.mul_le_mul hx hy
  have w : IntKind.u64.wrap ((x : Int) * y) = ((x * y : Nat) : Int) := by rw [wrap_u64, ← Int.natCast_mul]; omega
  simp -dsimp -implicitDefEqProofs only [↓STP, STQ, ne_eq, implies_true, forall_const, if_false, if_true, reduceCtorEq, ↓reduceIte, Nat.reduceEqDiff, Nat.reduceAdd, Int.reduceEq, Int.reduceLT, Int.reduceLE, Int.reduceNeg, Int.reduceAdd, Int.reduceSub, Int.reduceMul, Int.reduceToNat, Nat.reduceMul, Nat.reduceSub, Nat.reduceLT, Nat.reduceLeDiff, ir20, w]
  exact hK
theorem op5 (hx : x ≤ 1) (hy : y ≤ 1) (hK : K (.ret (W (x + y - x * y))) h) : R 20 [W p, I 5, W x, W y, W c] h K := by
  refine run20 (Nat.le_of_ble_eq_true rfl) ?_
  have hm : x * y ≤ 1 := Nat.mul_le_mul hx hy
  have hm2 : x * y ≤ x := by rcases Nat.le_one_iff_eq_zero_or_eq_one.1 hy with rfl | rfl <;> simp
  have w : IntKind.u64.wrap ((x : Int) * y) = ((x * y : Nat) : Int) := by rw [wrap_u64, ← Int.natCast_mul]; omega
  have w2 : IntKind.u64.wrap ((x : Int) + y) = ((x + y : Nat) : Int) := by rw [wrap_u64]; omega
  have w3 : IntKind.u64.wrap (((x + y : Nat) : Int) - ((x * y : Nat) : Int)) = ((x + y - x * y : Nat) : Int) := by rw [wrap_u64]; omega
  simp -dsimp -implicitDefEqProofs only [↓STP, STQ, ne_eq, implies_true, forall_const, if_false, if_true, reduceCtorEq, ↓reduceIte, Nat.reduceEqDiff, Nat.reduceAdd, Int.reduceEq, Int.reduceLT, Int.reduceLE, Int.reduceNeg, Int.reduceAdd, Int.reduceSub, Int.reduceMul, Int.reduceToNat, Nat.reduceMul, Nat.reduceSub, Nat.reduceLT, Nat.reduceLeDiff, ir20, w, w2, w3]
  exact hK
theorem op6 (hx : x ≤ 1) (hy : y ≤ 1) (hK : K (.ret (W (x + y - 2 * x * y))) h) : R 20 [W p, I 6, W x, W y, W c] h K := by
  refine run20 (Nat.le_of_ble_eq_true rfl) ?_
  have w : IntKind.u64.wrap (2 * (x : Int)) = ((2 * x : Nat) : Int) := by rw [wrap_u64]; omega
  have hm : 2 * x * y ≤ 2 := by rcases Nat.le_one_iff_eq_zero_or_eq_one.1 hy with rfl | rfl <;> omega
  have w1 : IntKind.u64.wrap (((2 * x : Nat) : Int) * y) = ((2 * x * y : Nat) : Int) := by rw [wrap_u64, ← Int.natCast_mul]; omega
  have hm2 : 2 * x * y ≤ x + y := by rcases Nat.le_one_iff_eq_zero_or_eq_one.1 hy with rfl | rfl <;> omega
  have w2 : IntKind.u64.wrap ((x : Int) + y) = ((x + y : Nat) : Int) := by rw [wrap_u64]; omega
  have w3 : IntKind.u64.wrap (((x + y : Nat) : Int) - ((2 * x * y : Nat) : Int)) = ((x + y - 2 * x * y : Nat) : Int) := by rw [wrap_u64]; omega
  simp -dsimp -implicitDefEqProofs only [↓STP, STQ, ne_eq, implies_true, forall_const, if_false, if_true, reduceCtorEq, ↓reduceIte, Nat.reduceEqDiff, Nat.reduceAdd, Int.reduceEq, Int.reduceLT, Int.reduceLE, Int.reduceNeg, Int.reduceAdd, Int.reduceSub, Int.reduceMul, Int.reduceToNat, Nat.reduceMul, Nat.reduceSub, Nat.reduceLT, Nat.reduceLeDiff, ir20, w, w1, w2, w3]
  exact hK
theorem op7 (hK : K (.ret (W (if c = 1 then x else y))) h) : R 20 [W p, I 7, W x, W y, W c] h K := by
  refine run20 (Nat.le_of_ble_eq_true rfl) ?_
  by_cases hc : c = 1
  · rw [if_pos hc] at hK
    have : (c : Int) = 1 := by omega
    simp -dsimp -implicitDefEqProofs only [↓STP, STQ, ne_eq, implies_true, forall_const, if_false, if_true, reduceCtorEq, ↓reduceIte, Nat.reduceEqDiff, Nat.reduceAdd, Int.reduceEq, Int.reduceLT, Int.reduceLE, Int.reduceNeg, Int.reduceAdd, Int.reduceSub, Int.reduceMul, Int.reduceToNat, Nat.reduceMul, Nat.reduceSub, Nat.reduceLT, Nat.reduceLeDiff, ir20, eq_true this]
    exact hK
  · rw [if_neg hc] at hK
    have : ¬ (c : Int) = 1 := by omega
    simp -dsimp -implicitDefEqProofs only [↓STP, STQ, ne_eq, implies_true, forall_const, if_false, if_true, reduceCtorEq, ↓reduceIte, Nat.reduceEqDiff, Nat.reduceAdd, Int.reduceEq, Int.reduceLT, Int.reduceLE, Int.reduceNeg, Int.reduceAdd, Int.reduceSub, Int.reduceMul, Int.reduceToNat, Nat.reduceMul, Nat.reduceSub, Nat.reduceLT, Nat.reduceLeDiff, ir20, eq_false this]
    exact hK

theorem not_val {b : Bool} (hp : 2 < p) : (1 + p - b.toNat) % p = 1 - b.toNat := by
  cases b with
  | true => simp
  | false => show (1 + p) % p = 1; rw [Nat.add_mod_right, Nat.mod_eq_of_lt (by omega)]
theorem and_val {a b : Bool} (hp : 2 < p) : a.toNat * b.toNat % p = a.toNat * b.toNat := by
  apply Nat.mod_eq_of_lt
  cases a <;> cases b <;> simp <;> omega
theorem or_val {a b : Bool} (hp : 2 < p) : ((a.toNat + b.toNat) % p + p - a.toNat * b.toNat % p) % p = a.toNat + b.toNat - a.toNat * b.toNat := by
  rw [and_val hp]
  cases a <;> cases b
  · simp
  · show (1 % p + p - 0) % p = 1; rw [Nat.mod_eq_of_lt (show 1 < p by omega), Nat.sub_zero, Nat.add_mod_right, Nat.mod_eq_of_lt (by omega)]
  · show (1 % p + p - 0) % p = 1; rw [Nat.mod_eq_of_lt (show 1 < p by omega), Nat.sub_zero, Nat.add_mod_right, Nat.mod_eq_of_lt (by omega)]
  · show (2 % p + p - 1) % p = 1; rw [Nat.mod_eq_of_lt hp, show 2 + p - 1 = 1 + p by omega, Nat.add_mod_right, Nat.mod_eq_of_lt (by omega)]
theorem xor_val {a b : Bool} (hp : 2 < p) : ((a.toNat + b.toNat) % p + p - 2 % p * (a.toNat * b.toNat % p) % p) % p = a.toNat + b.toNat - 2 * a.toNat * b.toNat := by
  rw [and_val hp, Nat.mod_eq_of_lt hp]
  cases a <;> cases b
  · simp
  · show (1 % p + p - 0 % p) % p = 1; rw [Nat.mod_eq_of_lt (show 1 < p by omega), Nat.zero_mod, Nat.sub_zero, Nat.add_mod_right, Nat.mod_eq_of_lt (by omega)]
  · show (1 % p + p - 0 % p) % p = 1; rw [Nat.mod_eq_of_lt (show 1 < p by omega), Nat.zero_mod, Nat.sub_zero, Nat.add_mod_right, Nat.mod_eq_of_lt (by omega)]
  · show (2 % p + p - 2 % p) % p = 0; rw [Nat.mod_eq_of_lt hp, Nat.add_sub_cancel_left, Nat.mod_self]
theorem sel_val {c : Bool} {x y : Nat} (hp : 2 < p) (hx : x < p) (hy : y < p) : (y + c.toNat * ((x + p - y) % p) % p) % p = if c.toNat = 1 then x else y := by
  cases c with
  | false => show (y + 0 * _ % p) % p = y; rw [Nat.zero_mul, Nat.zero_mod, Nat.add_zero, Nat.mod_eq_of_lt hy]
  | true =>
    show (y + 1 * ((x + p - y) % p) % p) % p = x
    rw [Nat.one_mul, Nat.mod_mod, Nat.add_mod, Nat.mod_mod, ← Nat.add_mod, show y + (x + p - y) = x + p by omega, Nat.add_mod_right, Nat.mod_eq_of_lt hx]

end
end Go.Ab.Ytgfnhkedfmnijaa
