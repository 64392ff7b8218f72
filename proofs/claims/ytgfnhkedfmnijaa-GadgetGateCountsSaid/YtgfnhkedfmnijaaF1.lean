/- The field's reduction: 'width' and 'fold'. -/
import Derived.Test.YtgfnhkedfmnijaaEnv
import Derived.Test.YtgfnhkedfmnijaaAb34
set_option linter.unusedVariables false
set_option linter.unusedSimpArgs false
namespace Go.Ab.Ytgfnhkedfmnijaa

section
variable {h : H} {K : Out → H → Prop} {p q : Nat}

theorem len64_spec (hs : Supp p q) (hK : K (.ret (I q)) h) : R 79 [W p] h K := by
  refine run79 (Nat.le_of_ble_eq_true rfl) ?_
  have e1 : bytes0.data.toList[31]? = some 5 := rfl
  have e2 : bytes0.data.toList[127]? = some 7 := rfl
  have e3 : bytes0.data.toList[1]? = some 1 := rfl
  have e4 : bytes0.data.toList[7]? = some 3 := rfl
  have f1 : Int.fdiv 8191 (2 ^ (min 8 64)) = 31 := rfl
  have f2 : Int.fdiv 131071 (2 ^ (min 16 64)) = 1 := rfl
  have f3 : Int.fdiv 524287 (2 ^ (min 16 64)) = 7 := rfl
  have f4 : Int.fdiv 2147483647 (2 ^ (min 16 64)) = 32767 := rfl
  have f5 : Int.fdiv 32767 (2 ^ (min 8 64)) = 127 := rfl
  have f6 : Int.fdiv 2305843009213693951 (2 ^ (min 32 64)) = 536870911 := rfl
  have f7 : Int.fdiv 536870911 (2 ^ (min 16 64)) = 8191 := rfl
  have g1 : ((UInt8.toNat 5 : Nat) : Int) = 5 := rfl
  have g2 : ((UInt8.toNat 7 : Nat) : Int) = 7 := rfl
  have g3 : ((UInt8.toNat 1 : Nat) : Int) = 1 := rfl
  have g4 : ((UInt8.toNat 3 : Nat) : Int) = 3 := rfl
  have wi : ∀ n : Int, 0 ≤ n → n ≤ 100 → IntKind.i64.wrap n = n := fun n h0 h1 => wrap_i64 (by omega) (by omega)
  rcases hs with ⟨rfl, rfl⟩ | ⟨rfl, rfl⟩ | ⟨rfl, rfl⟩ | ⟨rfl, rfl⟩ | ⟨rfl, rfl⟩ | ⟨rfl, rfl⟩ | ⟨rfl, rfl⟩
  all_goals
    simp -dsimp -implicitDefEqProofs only [↓STP, STQ, ne_eq, implies_true, forall_const, if_false, if_true, reduceCtorEq, ↓reduceIte, Nat.reduceEqDiff, Nat.reduceAdd, Int.reduceEq, Int.reduceLT, Int.reduceLE, Int.reduceNeg, Int.reduceAdd, Int.reduceSub, Int.reduceMul, Int.reduceToNat, Nat.reduceMul, Nat.reduceSub, Nat.reduceLT, Nat.reduceLeDiff, ir79, wrap_u8, wi, Int.reduceMod, IntKind.bits, e1, e2, e3, e4, f1, f2, f3, f4, f5, f6, f7, g1, g2, g3, g4]
    exact hK

theorem width_spec (hs : Supp p q) (hK : K (.ret (W q)) h) : R 76 [W p] h K := by
  refine run76 (Nat.le_of_ble_eq_true rfl) ?_
  have hq : q ≤ 61 := by rcases hs with ⟨rfl, rfl⟩ | ⟨rfl, rfl⟩ | ⟨rfl, rfl⟩ | ⟨rfl, rfl⟩ | ⟨rfl, rfl⟩ | ⟨rfl, rfl⟩ | ⟨rfl, rfl⟩ <;> decide
  simp -dsimp -implicitDefEqProofs only [↓STP, STQ, ne_eq, implies_true, forall_const, if_false, if_true, reduceCtorEq, ↓reduceIte, Nat.reduceEqDiff, Nat.reduceAdd, Int.reduceEq, Int.reduceLT, Int.reduceLE, Int.reduceNeg, Int.reduceAdd, Int.reduceSub, Int.reduceMul, Int.reduceToNat, Nat.reduceMul, Nat.reduceSub, Nat.reduceLT, Nat.reduceLeDiff, ir76]
  refine len64_spec hs ?_
  simp -dsimp -implicitDefEqProofs only [↓STP, STQ, ne_eq, implies_true, forall_const, if_false, if_true, reduceCtorEq, ↓reduceIte, Nat.reduceEqDiff, Nat.reduceAdd, Int.reduceEq, Int.reduceLT, Int.reduceLE, Int.reduceNeg, Int.reduceAdd, Int.reduceSub, Int.reduceMul, Int.reduceToNat, Nat.reduceMul, Nat.reduceSub, Nat.reduceLT, Nat.reduceLeDiff, wrap_u64_self (n := (q : Int)) (by omega) (by omega)]
  exact hK

def InvFold (p q N : Nat) (h : H) (k : Nat) (st : S) : Prop :=
  ∃ hi lo : Nat, hi < 18446744073709551616 ∧ lo < 18446744073709551616 ∧ k = hi * 18446744073709551616 + lo ∧ k % p = N % p ∧
    st = ⟨upd (upd (upd (upd ρ0 0 (W p)) 1 (W hi)) 2 (W lo)) 7 (W q), m0, 0, [], h⟩

theorem fold_spec {hi lo : Nat} (hs : Supp p q) (hh : hi < 18446744073709551616) (hl : lo < 18446744073709551616) (hK : K (.ret (W ((hi * 18446744073709551616 + lo) % p))) h) : R 73 [W p, W hi, W lo] h K := by
  refine run73 (Nat.le_of_ble_eq_true rfl) ?_
  obtain ⟨hp, hq5, hq61, hp64⟩ := hs.eq
  simp -dsimp -implicitDefEqProofs only [↓STP, STQ, ne_eq, implies_true, forall_const, if_false, if_true, reduceCtorEq, ↓reduceIte, Nat.reduceEqDiff, Nat.reduceAdd, Int.reduceEq, Int.reduceLT, Int.reduceLE, Int.reduceNeg, Int.reduceAdd, Int.reduceSub, Int.reduceMul, Int.reduceToNat, Nat.reduceMul, Nat.reduceSub, Nat.reduceLT, Nat.reduceLeDiff, ir73]
  refine width_spec hs ?_
  simp -dsimp -implicitDefEqProofs only [↓STP, STQ, ne_eq, implies_true, forall_const, if_false, if_true, reduceCtorEq, ↓reduceIte, Nat.reduceEqDiff, Nat.reduceAdd, Int.reduceEq, Int.reduceLT, Int.reduceLE, Int.reduceNeg, Int.reduceAdd, Int.reduceSub, Int.reduceMul, Int.reduceToNat, Nat.reduceMul, Nat.reduceSub, Nat.reduceLT, Nat.reduceLeDiff]
  refine codeT_loop (InvFold p q (hi * 18446744073709551616 + lo) h) (i := hi * 18446744073709551616 + lo) ⟨hi, lo, hh, hl, rfl, rfl, by simp -dsimp -implicitDefEqProofs only [↓STP, STQ, ne_eq, implies_true, forall_const, if_false, if_true, reduceCtorEq, ↓reduceIte, Nat.reduceEqDiff, Nat.reduceAdd, Int.reduceEq, Int.reduceLT, Int.reduceLE, Int.reduceNeg, Int.reduceAdd, Int.reduceSub, Int.reduceMul, Int.reduceToNat, Nat.reduceMul, Nat.reduceSub, Nat.reduceLT, Nat.reduceLeDiff] <;> rfl⟩ ?_ mono
  rintro k st ⟨hi', lo', hh', hl', rfl, hk, rfl⟩
  by_cases hc : hi' ≠ 0 ∨ p < lo'
  · obtain ⟨a, b, c, d, ha, hb, hcc, hd, hb64, hlo, hd64, hlt, hmod⟩ := fold_round hs hh' hl' hc
    have s1 : Int.fdiv (lo' : Int) (2 ^ (min q IntKind.u64.bits)) = ((lo' / 2 ^ q : Nat) : Int) := by
      rw [show min q IntKind.u64.bits = q from Nat.min_eq_left (Nat.le_trans hq61 (by decide)), fdiv_pow]
    have s2 : Int.fdiv (hi' : Int) (2 ^ (min q IntKind.u64.bits)) = ((hi' / 2 ^ q : Nat) : Int) := by
      rw [show min q IntKind.u64.bits = q from Nat.min_eq_left (Nat.le_trans hq61 (by decide)), fdiv_pow]
    have s3 : IntKind.u64.wrap (64 - (q : Int)) = ((64 - q : Nat) : Int) := by rw [wrap_u64]; omega
    have s4 : IntKind.u64.wrap ((hi' : Int) * 2 ^ (min (64 - q) IntKind.u64.bits)) = ((hi' * 2 ^ (64 - q) % 18446744073709551616 : Nat) : Int) := by
      rw [show min (64 - q) IntKind.u64.bits = 64 - q from Nat.min_eq_left (show 64 - q ≤ 64 by omega), wrap_u64]
      simp
    have q0 : ¬ ((q : Int) < 0) := by omega
    have q1 : ¬ (((64 - q : Nat) : Int) < 0) := by omega
    have hl2 : lo' / 2 ^ q < 18446744073709551616 := Nat.lt_of_le_of_lt (Nat.div_le_self _ _) hl'
    have hor : lo' / 2 ^ q ||| hi' * 2 ^ (64 - q) % 18446744073709551616 = b := by
      rw [hb]
      have e : hi' * 2 ^ (64 - q) % 18446744073709551616 = 2 ^ (64 - q) * (hi' % 2 ^ q) := by
        have : (18446744073709551616 : Nat) = 2 ^ (64 - q) * 2 ^ q := by rw [← Nat.pow_add, show 64 - q + q = 64 by omega]
        rw [this, Nat.mul_comm hi', Nat.mul_mod_mul_left]
      rw [e, or_add hlo]
    have hand : lo' &&& p = a := by rw [hp, and_pred, ha]
    have z : ∀ x : Nat, (0 : Int) ≤ (x : Int) := fun x => Int.natCast_nonneg x
    have ha64 : a < 18446744073709551616 := by rw [← hand]; exact Nat.lt_of_le_of_lt Nat.and_le_left hl'
    have hsum : ((b : Int) + (a : Int) + 0) % 18446744073709551616 = (c : Int) := by rw [hcc]; omega
    have hcar : ((b : Int) + (a : Int) + 0) / 18446744073709551616 = (((b + a) / 18446744073709551616 : Nat) : Int) := by omega
    have hd' : IntKind.u64.wrap (((hi' / 2 ^ q : Nat) : Int) + (((b + a) / 18446744073709551616 : Nat) : Int)) = (d : Int) := by rw [hd, wrap_u64]; omega
    rcases Classical.em ((hi' : Int) = 0) with c1 | c1
    · have c2 : (p : Int) < lo' := by omega
      simp -dsimp -implicitDefEqProofs only [↓STP, STQ, ne_eq, implies_true, forall_const, if_false, if_true, reduceCtorEq, ↓reduceIte, Nat.reduceEqDiff, Nat.reduceAdd, Int.reduceEq, Int.reduceLT, Int.reduceLE, Int.reduceNeg, Int.reduceAdd, Int.reduceSub, Int.reduceMul, Int.reduceToNat, Nat.reduceMul, Nat.reduceSub, Nat.reduceLT, Nat.reduceLeDiff, eq_true c1, eq_true c2, bits_and hl' hp64, hand, s1, s2, s3, s4, q0, q1, bits_or hl2 (Nat.mod_lt _ (by decide)), hor, add64V.eq_def, z, hsum, hcar, hd']
      exact ⟨_, hlt, d, c, hd64, (by rw [hcc]; exact Nat.mod_lt _ (by decide)), rfl, by rw [hmod, hk], rfl⟩
    · simp -dsimp -implicitDefEqProofs only [↓STP, STQ, ne_eq, implies_true, forall_const, if_false, if_true, reduceCtorEq, ↓reduceIte, Nat.reduceEqDiff, Nat.reduceAdd, Int.reduceEq, Int.reduceLT, Int.reduceLE, Int.reduceNeg, Int.reduceAdd, Int.reduceSub, Int.reduceMul, Int.reduceToNat, Nat.reduceMul, Nat.reduceSub, Nat.reduceLT, Nat.reduceLeDiff, eq_false c1, bits_and hl' hp64, hand, s1, s2, s3, s4, q0, q1, bits_or hl2 (Nat.mod_lt _ (by decide)), hor, add64V.eq_def, z, hsum, hcar, hd']
      exact ⟨_, hlt, d, c, hd64, (by rw [hcc]; exact Nat.mod_lt _ (by decide)), rfl, by rw [hmod, hk], rfl⟩
  · have c1 : (hi' : Int) = 0 := by omega
    have c2 : ¬ (p : Int) < lo' := by omega
    by_cases c3 : (lo' : Int) = p
    · simp -dsimp -implicitDefEqProofs only [↓STP, STQ, ne_eq, implies_true, forall_const, if_false, if_true, reduceCtorEq, ↓reduceIte, Nat.reduceEqDiff, Nat.reduceAdd, Int.reduceEq, Int.reduceLT, Int.reduceLE, Int.reduceNeg, Int.reduceAdd, Int.reduceSub, Int.reduceMul, Int.reduceToNat, Nat.reduceMul, Nat.reduceSub, Nat.reduceLT, Nat.reduceLeDiff, eq_true c1, eq_false c2, eq_true c3]
      have : (hi * 18446744073709551616 + lo) % p = 0 := by
        rw [← hk, show hi' * 18446744073709551616 + lo' = p by omega, Nat.mod_self]
      rw [this] at hK
      exact hK
    · simp -dsimp -implicitDefEqProofs only [↓STP, STQ, ne_eq, implies_true, forall_const, if_false, if_true, reduceCtorEq, ↓reduceIte, Nat.reduceEqDiff, Nat.reduceAdd, Int.reduceEq, Int.reduceLT, Int.reduceLE, Int.reduceNeg, Int.reduceAdd, Int.reduceSub, Int.reduceMul, Int.reduceToNat, Nat.reduceMul, Nat.reduceSub, Nat.reduceLT, Nat.reduceLeDiff, eq_true c1, eq_false c2, eq_false c3]
      have : (hi * 18446744073709551616 + lo) % p = lo' := by
        rw [← hk, show hi' * 18446744073709551616 + lo' = lo' by omega, Nat.mod_eq_of_lt (by omega)]
      rw [this] at hK
      exact hK

end
end Go.Ab.Ytgfnhkedfmnijaa
