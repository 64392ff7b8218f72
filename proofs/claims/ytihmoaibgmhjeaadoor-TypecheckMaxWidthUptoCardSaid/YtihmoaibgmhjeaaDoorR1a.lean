import Derived.Test.YtihmoaibgmhjeaaDoorR0
set_option linter.unusedVariables false
set_option linter.unusedSimpArgs false
namespace Go.Ab.YtihmoaibgmhjeaaDoor
section
variable {h : H} {K : Out → H → Prop} {p : Nat}
def primes : List Nat := [31, 127, 8191, 131071, 524287, 2147483647, 2305843009213693951]
def InvExp (p : Nat) (h : H) (k : Nat) (st : S) : Prop :=
 ∃ i : Nat, k = 7 - i ∧ i ≤ 7 ∧ (∀ j, j < i → primes[j]? ≠ some p) ∧ st = ⟨upd (upd (upd ρ0 0 (W p)) 3 (.vec [I 5, I 7, I 13, I 17, I 19, I 31, I 61] .any)) 4 (I i), m0, 0, [], h⟩
theorem exponent_spec (hp : p < 18446744073709551616) (hK : ∀ e : Int, ((∃ q, Supp p q ∧ e = q) ∨ ((∀ q, ¬ Supp p q) ∧ e = 0)) → K (.ret (I e)) h) : R 18 [W p] h K := by
 refine run18 (Nat.le_of_ble_eq_true rfl) ?_
 simp -dsimp -implicitDefEqProofs only [↓STP, STQ, seval, ir18]
 refine exps_spec ?_
 simp -dsimp -implicitDefEqProofs only [↓STP, STQ, seval]
 refine codeT_loop (InvExp p h) (i := 7) ⟨0, by omega, by omega, by omega, by simp -dsimp -implicitDefEqProofs only [↓STP, STQ, seval] <;> rfl⟩ ?_ mono
 rintro k st ⟨i, rfl, hi, hne, rfl⟩
 have z2 : ∀ {x : Int}, 0 ≤ x → x < 100 → IntKind.u64.wrap x = x := fun h0 h1 => wrap_u64_self (by omega) (by omega)
 have z1 : ∀ {x : Int}, 0 ≤ x → x < 100 → IntKind.i64.wrap x = x := fun h0 h1 => wrap_i64 (by omega) (by omega)
 have p5 : IntKind.u64.wrap (1 * 2 ^ (min 5 IntKind.u64.bits)) = 32 := by decide
 have p7 : IntKind.u64.wrap (1 * 2 ^ (min 7 IntKind.u64.bits)) = 128 := by decide
 have p13 : IntKind.u64.wrap (1 * 2 ^ (min 13 IntKind.u64.bits)) = 8192 := by decide
 have p17 : IntKind.u64.wrap (1 * 2 ^ (min 17 IntKind.u64.bits)) = 131072 := by decide
 have p19 : IntKind.u64.wrap (1 * 2 ^ (min 19 IntKind.u64.bits)) = 524288 := by decide
 have p31 : IntKind.u64.wrap (1 * 2 ^ (min 31 IntKind.u64.bits)) = 2147483648 := by decide
 have p61 : IntKind.u64.wrap (1 * 2 ^ (min 61 IntKind.u64.bits)) = 2305843009213693952 := by decide
 have m31 : IntKind.u64.wrap 2147483647 = 2147483647 := by decide
 have m61 : IntKind.u64.wrap 2305843009213693951 = 2305843009213693951 := by decide
 have m13 : IntKind.u64.wrap 8191 = 8191 := by decide
 have m17 : IntKind.u64.wrap 131071 = 131071 := by decide
 have m19 : IntKind.u64.wrap 524287 = 524287 := by decide
 have m7 : IntKind.u64.wrap 127 = 127 := by decide
 have ext : ∀ {i n : Nat}, primes[i]? = some n → p ≠ n → (∀ j, j < i → primes[j]? ≠ some p) → ∀ j, j < i + 1 → primes[j]? ≠ some p := by
  intro i n h1 h2 h3 j hj
  rcases Nat.lt_or_ge j i with h4 | h4
  ·exact h3 j h4
  ·rw [show j = i by omega, h1]; simpa using h2.symm
 have hcase : i = 0 ∨ i = 1 ∨ i = 2 ∨ i = 3 ∨ i = 4 ∨ i = 5 ∨ i = 6 ∨ i = 7 := by omega
 rcases hcase with rfl | rfl | rfl | rfl | rfl | rfl | rfl | rfl
 ·by_cases c : (p : Int) = 31
  ·simp -dsimp -implicitDefEqProofs only [↓STP, STQ, seval, z2, p5, eq_true c]
   exact hK 5 (.inl ⟨5, .inl ⟨by omega, rfl⟩, rfl⟩)
  ·simp -dsimp -implicitDefEqProofs only [↓STP, STQ, seval, z2, z1, p5, eq_false c]
   exact ⟨_, by decide, 1, rfl, by decide, ext (i := 0) (n := 31) rfl (by omega) hne, rfl⟩
 ·by_cases c : (p : Int) = 127
  ·simp -dsimp -implicitDefEqProofs only [↓STP, STQ, seval, z2, p7, m7, eq_true c]
   exact hK 7 (.inl ⟨7, .inr (.inl ⟨by omega, rfl⟩), rfl⟩)
  ·simp -dsimp -implicitDefEqProofs only [↓STP, STQ, seval, z2, z1, p7, m7, eq_false c]
   exact ⟨_, by decide, 2, rfl, by decide, ext (i := 1) (n := 127) rfl (by omega) hne, rfl⟩
 ·by_cases c : (p : Int) = 8191
  ·simp -dsimp -implicitDefEqProofs only [↓STP, STQ, seval, z2, p13, m13, eq_true c]
   exact hK 13 (.inl ⟨13, .inr (.inr (.inl ⟨by omega, rfl⟩)), rfl⟩)
  ·simp -dsimp -implicitDefEqProofs only [↓STP, STQ, seval, z2, z1, p13, m13, eq_false c]
   exact ⟨_, by decide, 3, rfl, by decide, ext (i := 2) (n := 8191) rfl (by omega) hne, rfl⟩
 ·by_cases c : (p : Int) = 131071
  ·simp -dsimp -implicitDefEqProofs only [↓STP, STQ, seval, z2, p17, m17, eq_true c]
   exact hK 17 (.inl ⟨17, .inr (.inr (.inr (.inl ⟨by omega, rfl⟩))), rfl⟩)
  ·simp -dsimp -implicitDefEqProofs only [↓STP, STQ, seval, z2, z1, p17, m17, eq_false c]
   exact ⟨_, by decide, 4, rfl, by decide, ext (i := 3) (n := 131071) rfl (by omega) hne, rfl⟩
 ·by_cases c : (p : Int) = 524287
  ·simp -dsimp -implicitDefEqProofs only [↓STP, STQ, seval, z2, p19, m19, eq_true c]
   exact hK 19 (.inl ⟨19, .inr (.inr (.inr (.inr (.inl ⟨by omega, rfl⟩)))), rfl⟩)
  ·simp -dsimp -implicitDefEqProofs only [↓STP, STQ, seval, z2, z1, p19, m19, eq_false c]
   exact ⟨_, by decide, 5, rfl, by decide, ext (i := 4) (n := 524287) rfl (by omega) hne, rfl⟩
 ·by_cases c : (p : Int) = 2147483647
  ·simp -dsimp -implicitDefEqProofs only [↓STP, STQ, seval, z2, p31, m31, eq_true c]
   exact hK 31 (.inl ⟨31, .inr (.inr (.inr (.inr (.inr (.inl ⟨by omega, rfl⟩))))), rfl⟩)
  ·simp -dsimp -implicitDefEqProofs only [↓STP, STQ, seval, z2, z1, p31, m31, eq_false c]
   exact ⟨_, by decide, 6, rfl, by decide, ext (i := 5) (n := 2147483647) rfl (by omega) hne, rfl⟩
 ·by_cases c : (p : Int) = 2305843009213693951
  ·simp -dsimp -implicitDefEqProofs only [↓STP, STQ, seval, z2, p61, m61, eq_true c]
   exact hK 61 (.inl ⟨61, .inr (.inr (.inr (.inr (.inr (.inr ⟨by omega, rfl⟩))))), rfl⟩)
  ·simp -dsimp -implicitDefEqProofs only [↓STP, STQ, seval, z2, z1, p61, m61, eq_false c]
   exact ⟨_, by decide, 7, rfl, by decide, ext (i := 6) (n := 2305843009213693951) rfl (by omega) hne, rfl⟩
 ·simp -dsimp -implicitDefEqProofs only [↓STP, STQ, seval]
  refine hK 0 (.inr ⟨fun q hq => ?_, rfl⟩)
  rcases hq with ⟨rfl, _⟩ | ⟨rfl, _⟩ | ⟨rfl, _⟩ | ⟨rfl, _⟩ | ⟨rfl, _⟩ | ⟨rfl, _⟩ | ⟨rfl, _⟩
  ·exact hne 0 (by decide) rfl
  ·exact hne 1 (by decide) rfl
  ·exact hne 2 (by decide) rfl
  ·exact hne 3 (by decide) rfl
  ·exact hne 4 (by decide) rfl
  ·exact hne 5 (by decide) rfl
  ·exact hne 6 (by decide) rfl
end
end Go.Ab.YtihmoaibgmhjeaaDoor
