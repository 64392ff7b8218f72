import Derived.Test.YtihmoaibgmhjeaaDoorR0
set_option linter.unusedVariables false
set_option linter.unusedSimpArgs false
namespace Go.Ab.YtihmoaibgmhjeaaDoor
theorem fit_spec {h : H} {K : Out → H → Prop} {k : Nat} (hk : k < 18446744073709551616) (hK : ∀ p q, Supp p q → K (.ret (W p)) h) : R 15 [W k] h K := by
 refine run15 (Nat.le_of_ble_eq_true rfl) ?_
 simp -dsimp -implicitDefEqProofs only [↓STP, STQ, seval, ir15]
 refine exps_spec ?_
 have w7 : IntKind.u64.wrap 7 = 7 := by rw [wrap_u64]; rfl
 have z : ∀ {x : Int}, 0 ≤ x → x < 100 → IntKind.i64.wrap x = x := fun h0 h1 => wrap_i64 (by omega) (by omega)
 have z2 : ∀ {x : Int}, 0 ≤ x → x < 100 → IntKind.u64.wrap x = x := fun h0 h1 => wrap_u64_self (by omega) (by omega)
 have p5 : IntKind.u64.wrap (1 * 2 ^ (min 5 IntKind.u64.bits)) = 32 := by decide
 have p7 : IntKind.u64.wrap (1 * 2 ^ (min 7 IntKind.u64.bits)) = 128 := by decide
 have p13 : IntKind.u64.wrap (1 * 2 ^ (min 13 IntKind.u64.bits)) = 8192 := by decide
 have p17 : IntKind.u64.wrap (1 * 2 ^ (min 17 IntKind.u64.bits)) = 131072 := by decide
 have p19 : IntKind.u64.wrap (1 * 2 ^ (min 19 IntKind.u64.bits)) = 524288 := by decide
 have p31 : IntKind.u64.wrap (1 * 2 ^ (min 31 IntKind.u64.bits)) = 2147483648 := by decide
 have p61 : IntKind.u64.wrap (1 * 2 ^ (min 61 IntKind.u64.bits)) = 2305843009213693952 := by decide
 have m31 : IntKind.u64.wrap 2147483647 = 2147483647 := by decide
 have m61 : IntKind.u64.wrap 2305843009213693951 = 2305843009213693951 := by decide
 have m13 : IntKind.u64.wrap 8191 = 8191 := by decide
 have m17 : IntKind.u64.wrap 131071 = 131071 := by decide
 have m19 : IntKind.u64.wrap 524287 = 524287 := by decide
 have m7 : IntKind.u64.wrap 127 = 127 := by decide
 have hr : ∃ r : Nat, Int.tmod (k : Int) 7 = r ∧ r < 7 := ⟨k % 7, rfl, Nat.mod_lt _ (by decide)⟩
 obtain ⟨r, hr, hr7⟩ := hr
 have hcase : r = 0 ∨ r = 1 ∨ r = 2 ∨ r = 3 ∨ r = 4 ∨ r = 5 ∨ r = 6 := by omega
 rcases hcase with rfl | rfl | rfl | rfl | rfl | rfl | rfl
 ·simp -dsimp -implicitDefEqProofs only [↓STP, STQ, seval, w7, hr, z, z2, p5]; exact hK 31 5 (.inl ⟨rfl, rfl⟩)
 ·simp -dsimp -implicitDefEqProofs only [↓STP, STQ, seval, w7, hr, z, z2, p7, m7]; exact hK 127 7 (.inr (.inl ⟨rfl, rfl⟩))
 ·simp -dsimp -implicitDefEqProofs only [↓STP, STQ, seval, w7, hr, z, z2, p13, m13]; exact hK 8191 13 (.inr (.inr (.inl ⟨rfl, rfl⟩)))
 ·simp -dsimp -implicitDefEqProofs only [↓STP, STQ, seval, w7, hr, z, z2, p17, m17]; exact hK 131071 17 (.inr (.inr (.inr (.inl ⟨rfl, rfl⟩))))
 ·simp -dsimp -implicitDefEqProofs only [↓STP, STQ, seval, w7, hr, z, z2, p19, m19]; exact hK 524287 19 (.inr (.inr (.inr (.inr (.inl ⟨rfl, rfl⟩)))))
 ·simp -dsimp -implicitDefEqProofs only [↓STP, STQ, seval, w7, hr, z, z2, p31, m31]; exact hK 2147483647 31 (.inr (.inr (.inr (.inr (.inr (.inl ⟨rfl, rfl⟩))))))
 ·simp -dsimp -implicitDefEqProofs only [↓STP, STQ, seval, w7, hr, z, z2, p61, m61]; exact hK 2305843009213693951 61 (.inr (.inr (.inr (.inr (.inr (.inr ⟨rfl, rfl⟩))))))
end Go.Ab.YtihmoaibgmhjeaaDoor
