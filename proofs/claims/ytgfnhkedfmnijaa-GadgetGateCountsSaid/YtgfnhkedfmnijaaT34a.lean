/- Chapter 34: the example of the document; field gates. -/
import Derived.Test.YtgfnhkedfmnijaaB4
import Derived.Test.YtgfnhkedfmnijaaAb32
set_option linter.unusedVariables false
set_option linter.unusedSimpArgs false
namespace Go.Ab.Ytgfnhkedfmnijaa

section
variable {h : H} {K : Out → H → Prop}

theorem lists2 {h : H} {a b : List Nat} : ListsAt h (.vec [.vec (Ws a) .any, .vec (Ws b) .any] .any) [a, b] := by
  refine ⟨[.vec (Ws a) .any, .vec (Ws b) .any], rfl, fun i x ws hx hw => ?_, .inl rfl⟩
  match i, hx, hw with
  | 0, hx, hw => cases hx; cases hw; exact .inl rfl
  | 1, hx, hw => cases hx; cases hw; exact .inl rfl
  | (n + 2), hx, hw => simp at hx

theorem cnt_two {gs : List Gt} {a b : List Nat} (h1 : cnt gs 1 = a.length) (h2 : cnt gs 2 = b.length) (h3 : ∀ f, f ≠ 1 → f ≠ 2 → cnt gs f = 0) : ∀ f, 1 ≤ f → cnt gs f = (([a, b] : List (List Nat)).getD (f - 1) []).length := by
  intro f hf
  by_cases e1 : f = 1
  · subst e1; exact h1
  · by_cases e2 : f = 2
    · subst e2; exact h2
    · rw [h3 f e1 e2, List.getD_eq_getElem?_getD, List.getElem?_eq_none (by simp; omega)]; rfl

theorem awake10 (hK : ∀ h', h.next ≤ h'.next → (∀ j, j < h.next → h'.objs j = h.objs j) → K (.ret (.bool true)) h') : R 10 [] h K := by
  refine run10 (Nat.le_of_ble_eq_true rfl) ?_
  simp -dsimp -implicitDefEqProofs only [↓STP, STQ, ne_eq, implies_true, forall_const, if_false, if_true, reduceCtorEq, ↓reduceIte, Nat.reduceEqDiff, Nat.reduceAdd, Int.reduceEq, Int.reduceLT, Int.reduceLE, Int.reduceNeg, Int.reduceAdd, Int.reduceSub, Int.reduceMul, Int.reduceToNat, Nat.reduceMul, Nat.reduceSub, Nat.reduceLT, Nat.reduceLeDiff, ir10]
  refine new12 (p := 31) fun h0 F0 b0 o0 n0 => ?_
  simp -dsimp -implicitDefEqProofs only [↓STP, STQ, ne_eq, implies_true, forall_const, if_false, if_true, reduceCtorEq, ↓reduceIte, Nat.reduceEqDiff, Nat.reduceAdd, Int.reduceEq, Int.reduceLT, Int.reduceLE, Int.reduceNeg, Int.reduceAdd, Int.reduceSub, Int.reduceMul, Int.reduceToNat, Nat.reduceMul, Nat.reduceSub, Nat.reduceLT, Nat.reduceLeDiff]
  have g0 : Rgt 31 5 [[1, 5], [1]] [] [] := good_nil (.inl ⟨rfl, rfl⟩)
  refine input_g (bit := true) (f := 1) (x := 1) ⟨b0, g0, by simp⟩ (by decide) (by decide) (by simp [cnt]) (by decide) (fun _ => by decide) fun h1 F1 g1 v1 b1 e1 w1 => ?_
  simp -dsimp -implicitDefEqProofs only [↓STP, STQ, ne_eq, implies_true, forall_const, if_false, if_true, reduceCtorEq, ↓reduceIte, Nat.reduceEqDiff, Nat.reduceAdd, Int.reduceEq, Int.reduceLT, Int.reduceLE, Int.reduceNeg, Int.reduceAdd, Int.reduceSub, Int.reduceMul, Int.reduceToNat, Nat.reduceMul, Nat.reduceSub, Nat.reduceLT, Nat.reduceLeDiff]
  have l1 := w1.len
  simp only [List.length_nil, Nat.zero_add] at l1
  have c1 := w1.inp
  refine input_g (bit := true) (f := 2) (x := 1) ⟨b1, w1.good, by omega⟩ (by decide) (by decide) (by rw [c1 2]; simp [cnt]) (by decide) (fun _ => by decide) fun h2 F2 g2 v2 b2 e2 w2 => ?_
  simp -dsimp -implicitDefEqProofs only [↓STP, STQ, ne_eq, implies_true, forall_const, if_false, if_true, reduceCtorEq, ↓reduceIte, Nat.reduceEqDiff, Nat.reduceAdd, Int.reduceEq, Int.reduceLT, Int.reduceLE, Int.reduceNeg, Int.reduceAdd, Int.reduceSub, Int.reduceMul, Int.reduceToNat, Nat.reduceMul, Nat.reduceSub, Nat.reduceLT, Nat.reduceLeDiff]
  have l2 := w2.len
  have c2 := w2.inp
  refine input_g (bit := false) (f := 1) (x := 5) ⟨b2, w2.good, by omega⟩ (by decide) (by decide) (by rw [c2 1, c1 1]; simp [cnt]) (by decide) (by simp) fun h3 F3 g3 v3 b3 e3 w3 => ?_
  have l3 := w3.len
  have c3 := w3.inp
  rw [l1] at l2 ⊢
  rw [l2] at l3 ⊢
  have vx : v3.getD 0 0 = 1 := by rw [w3.pre 0 (by omega), w2.pre 0 (by omega)]; exact w1.val
  have vy : v3.getD 1 0 = 1 := by rw [w3.pre 1 (by omega)]; have := w2.val; rw [l1] at this; exact this
  have vz : v3.getD 2 0 = 5 := by have := w3.val; rw [l2] at this; exact this
  simp -dsimp -implicitDefEqProofs only [↓STP, STQ, ne_eq, implies_true, forall_const, if_false, if_true, reduceCtorEq, ↓reduceIte, Nat.reduceEqDiff, Nat.reduceAdd, Int.reduceEq, Int.reduceLT, Int.reduceLE, Int.reduceNeg, Int.reduceAdd, Int.reduceSub, Int.reduceMul, Int.reduceToNat, Nat.reduceMul, Nat.reduceSub, Nat.reduceLT, Nat.reduceLeDiff]
  refine or_g (x := 0) (y := 1) ⟨b3, w3.good, by omega⟩ (by omega) (by omega) (by omega) fun h4 F4 g4 v4 i4 b4 e4 w4 k4 x4 => ?_
  simp -dsimp -implicitDefEqProofs only [↓STP, STQ, ne_eq, implies_true, forall_const, if_false, if_true, reduceCtorEq, ↓reduceIte, Nat.reduceEqDiff, Nat.reduceAdd, Int.reduceEq, Int.reduceLT, Int.reduceLE, Int.reduceNeg, Int.reduceAdd, Int.reduceSub, Int.reduceMul, Int.reduceToNat, Nat.reduceMul, Nat.reduceSub, Nat.reduceLT, Nat.reduceLeDiff]
  have l4 := w4.len
  rw [vx, vy] at x4
  have x4 : v4.getD i4 0 = 1 := x4
  have vx4 : v4.getD 0 0 = 1 := by rw [w4.pre 0 (by omega), vx]
  have vy4 : v4.getD 1 0 = 1 := by rw [w4.pre 1 (by omega), vy]
  have vz4 : v4.getD 2 0 = 5 := by rw [w4.pre 2 (by omega), vz]
  refine output14 b4 (by simp) fun h5 F5 b5 e5 => ?_
  simp -dsimp -implicitDefEqProofs only [↓STP, STQ, ne_eq, implies_true, forall_const, if_false, if_true, reduceCtorEq, ↓reduceIte, Nat.reduceEqDiff, Nat.reduceAdd, Int.reduceEq, Int.reduceLT, Int.reduceLE, Int.reduceNeg, Int.reduceAdd, Int.reduceSub, Int.reduceMul, Int.reduceToNat, Nat.reduceMul, Nat.reduceSub, Nat.reduceLT, Nat.reduceLeDiff]
  have o5 := Bo.nil.snoc k4 x4
  refine xor_g (x := 0) (y := 1) ⟨b5, w4.good, by omega⟩ (by omega) (by omega) (by omega) fun h6 F6 g6 v6 i6 b6 e6 w6 k6 x6 => ?_
  simp -dsimp -implicitDefEqProofs only [↓STP, STQ, ne_eq, implies_true, forall_const, if_false, if_true, reduceCtorEq, ↓reduceIte, Nat.reduceEqDiff, Nat.reduceAdd, Int.reduceEq, Int.reduceLT, Int.reduceLE, Int.reduceNeg, Int.reduceAdd, Int.reduceSub, Int.reduceMul, Int.reduceToNat, Nat.reduceMul, Nat.reduceSub, Nat.reduceLT, Nat.reduceLeDiff]
  have l6 := w6.len
  rw [vx4, vy4] at x6
  have x6 : v6.getD i6 0 = 0 := x6
  have vx6 : v6.getD 0 0 = 1 := by rw [w6.pre 0 (by omega), vx4]
  have vy6 : v6.getD 1 0 = 1 := by rw [w6.pre 1 (by omega), vy4]
  have vz6 : v6.getD 2 0 = 5 := by rw [w6.pre 2 (by omega), vz4]
  refine output14 b6 (by simp) fun h7 F7 b7 e7 => ?_
  simp -dsimp -implicitDefEqProofs only [↓STP, STQ, ne_eq, implies_true, forall_const, if_false, if_true, reduceCtorEq, ↓reduceIte, Nat.reduceEqDiff, Nat.reduceAdd, Int.reduceEq, Int.reduceLT, Int.reduceLE, Int.reduceNeg, Int.reduceAdd, Int.reduceSub, Int.reduceMul, Int.reduceToNat, Nat.reduceMul, Nat.reduceSub, Nat.reduceLT, Nat.reduceLeDiff]
  have o7 := (o5.grow w6).snoc k6 x6
  refine scale_g (k := 3) (x := 2) ⟨b7, w6.good, by omega⟩ (by decide) (by omega) fun h8 F8 g8 v8 i8 b8 e8 w8 k8 x8 => ?_
  simp -dsimp -implicitDefEqProofs only [↓STP, STQ, ne_eq, implies_true, forall_const, if_false, if_true, reduceCtorEq, ↓reduceIte, Nat.reduceEqDiff, Nat.reduceAdd, Int.reduceEq, Int.reduceLT, Int.reduceLE, Int.reduceNeg, Int.reduceAdd, Int.reduceSub, Int.reduceMul, Int.reduceToNat, Nat.reduceMul, Nat.reduceSub, Nat.reduceLT, Nat.reduceLeDiff]
  have l8 := w8.len
  rw [vz6] at x8
  have x8 : v8.getD i8 0 = 15 := x8
  have vx8 : v8.getD 0 0 = 1 := by rw [w8.pre 0 (by omega), vx6]
  have vy8 : v8.getD 1 0 = 1 := by rw [w8.pre 1 (by omega), vy6]
  refine output14 b8 (by simp) fun h9 F9 b9 e9 => ?_
  simp -dsimp -implicitDefEqProofs only [↓STP, STQ, ne_eq, implies_true, forall_const, if_false, if_true, reduceCtorEq, ↓reduceIte, Nat.reduceEqDiff, Nat.reduceAdd, Int.reduceEq, Int.reduceLT, Int.reduceLE, Int.reduceNeg, Int.reduceAdd, Int.reduceSub, Int.reduceMul, Int.reduceToNat, Nat.reduceMul, Nat.reduceSub, Nat.reduceLT, Nat.reduceLeDiff]
  have o9 := (o7.grow w8).snoc k8 x8
  refine compose_g (l := [0, 1, 1]) ⟨b9, w8.good, by omega⟩ (by decide) (by omega) (by simp; omega) fun h10 F10 g10 v10 i10 b10 e10 w10 k10 x10 => ?_
  simp -dsimp -implicitDefEqProofs only [↓STP, STQ, ne_eq, implies_true, forall_const, if_false, if_true, reduceCtorEq, ↓reduceIte, Nat.reduceEqDiff, Nat.reduceAdd, Int.reduceEq, Int.reduceLT, Int.reduceLE, Int.reduceNeg, Int.reduceAdd, Int.reduceSub, Int.reduceMul, Int.reduceToNat, Nat.reduceMul, Nat.reduceSub, Nat.reduceLT, Nat.reduceLeDiff]
  have l10 := w10.len
  simp only [List.length_cons, List.length_nil] at l10
  simp only [List.map_cons, List.map_nil, vx8, vy8] at x10
  have x10 : v10.getD i10 0 = 7 := x10
  refine output14 b10 (by simp) fun h11 F11 b11 e11 => ?_
  simp -dsimp -implicitDefEqProofs only [↓STP, STQ, ne_eq, implies_true, forall_const, if_false, if_true, reduceCtorEq, ↓reduceIte, Nat.reduceEqDiff, Nat.reduceAdd, Int.reduceEq, Int.reduceLT, Int.reduceLE, Int.reduceNeg, Int.reduceAdd, Int.reduceSub, Int.reduceMul, Int.reduceToNat, Nat.reduceMul, Nat.reduceSub, Nat.reduceLT, Nat.reduceLeDiff]
  have o11 := (o9.grow w10).snoc k10 x10
  have ev := ((((((((((e1.trans e2).trans e3).trans e4).trans e5).trans e6).trans e7).trans e8).trans e9).trans e10).trans e11)
  have hnx : h.next ≤ h11.next := by have := ev.1; omega
  have hold : ∀ j, j < h.next → h11.objs j = h.objs j := fun j hj => by
    rw [(ev.2 j (by omega) (o0 j hj).2).1, (o0 j hj).1]
  have cc : ∀ f, cnt g10 f = cnt [] f + (if f = 1 then 1 else 0) + (if f = 2 then 1 else 0) + (if f = 1 then 1 else 0) := fun f => by
    rw [w10.inp, w8.inp, w6.inp, w4.inp, c3, c2, c1]
  have hfit : FitsC 31 g10 [[1, 5], [1]] := fits_of w10.good (by decide) (cnt_two (by rw [cc]; rfl) (by rw [cc]; rfl) (fun f h1 h2 => by rw [cc]; simp [h1, h2, cnt])) (by decide)
  refine circuit23 b11 (by omega) (by simp) ?_
  simp -dsimp -implicitDefEqProofs only [↓STP, STQ, ne_eq, implies_true, forall_const, if_false, if_true, reduceCtorEq, ↓reduceIte, Nat.reduceEqDiff, Nat.reduceAdd, Int.reduceEq, Int.reduceLT, Int.reduceLE, Int.reduceNeg, Int.reduceAdd, Int.reduceSub, Int.reduceMul, Int.reduceToNat, Nat.reduceMul, Nat.reduceSub, Nat.reduceLT, Nat.reduceLeDiff, circV]
  refine eval_spec rfl (w10.good.circ (by omega) (by simp) o11.rng) hfit w10.good.bits (lists2 (a := [1, 5]) (b := [1])) w10.good.vals fun h' f1 f2 => ?_
  rw [o11.val]
  simp -dsimp -implicitDefEqProofs only [↓STP, STQ, ne_eq, implies_true, forall_const, if_false, if_true, reduceCtorEq, ↓reduceIte, Nat.reduceEqDiff, Nat.reduceAdd, Int.reduceEq, Int.reduceLT, Int.reduceLE, Int.reduceNeg, Int.reduceAdd, Int.reduceSub, Int.reduceMul, Int.reduceToNat, Nat.reduceMul, Nat.reduceSub, Nat.reduceLT, Nat.reduceLeDiff]
  refine same05 (b := [1, 0, 15, 7]) (.inl rfl) (by decide) fun r hr => ?_
  have hr' : r = true := by rw [hr]; decide
  subst hr'
  simp -dsimp -implicitDefEqProofs only [↓STP, STQ, ne_eq, implies_true, forall_const, if_false, if_true, reduceCtorEq, ↓reduceIte, Nat.reduceEqDiff, Nat.reduceAdd, Int.reduceEq, Int.reduceLT, Int.reduceLE, Int.reduceNeg, Int.reduceAdd, Int.reduceSub, Int.reduceMul, Int.reduceToNat, Nat.reduceMul, Nat.reduceSub, Nat.reduceLT, Nat.reduceLeDiff]
  exact hK h' (by omega) (fun j hj => by rw [f2 j (by omega), hold j hj])

section
variable {p q x y c : Nat}

theorem op0 (hs : 0 < p) (hxy : x + y < 18446744073709551616) (hK : K (.ret (W ((x + y) % p))) h) : R 20 [W p, I 0, W x, W y, W c] h K := by
  refine run20 (Nat.le_of_ble_eq_true rfl) ?_
  simp -dsimp -implicitDefEqProofs only [↓STP, STQ, ne_eq, implies_true, forall_const, if_false, if_true, reduceCtorEq, ↓reduceIte, Nat.reduceEqDiff, Nat.reduceAdd, Int.reduceEq, Int.reduceLT, Int.reduceLE, Int.reduceNeg, Int.reduceAdd, Int.reduceSub, Int.reduceMul, Int.reduceToNat, Nat.reduceMul, Nat.reduceSub, Nat.reduceLT, Nat.reduceLeDiff, ir20]
  refine radd_spec hs hxy ?_
  simp -dsimp -implicitDefEqProofs only [↓STP, STQ, ne_eq, implies_true, forall_const, if_false, if_true, reduceCtorEq, ↓reduceIte, Nat.reduceEqDiff, Nat.reduceAdd, Int.reduceEq, Int.reduceLT, Int.reduceLE, Int.reduceNeg, Int.reduceAdd, Int.reduceSub, Int.reduceMul, Int.reduceToNat, Nat.reduceMul, Nat.reduceSub, Nat.reduceLT, Nat.reduceLeDiff]
  exact hK
theorem op1 (hs : 0 < p) (hxy : x + p < 18446744073709551616) (hyx : y ≤ x + p) (hK : K (.ret (W ((x + p - y) % p))) h) : R 20 [W p, I 1, W x, W y, W c] h K := by
  refine run20 (Nat.le_of_ble_eq_true rfl) ?_
  simp -dsimp -implicitDefEqProofs only [↓STP, STQ, ne_eq, implies_true, forall_const, if_false, if_true, reduceCtorEq, ↓reduceIte, Nat.reduceEqDiff, Nat.reduceAdd, Int.reduceEq, Int.reduceLT, Int.reduceLE, Int.reduceNeg, Int.reduceAdd, Int.reduceSub, Int.reduceMul, Int.reduceToNat, Nat.reduceMul, Nat.reduceSub, Nat.reduceLT, Nat.reduceLeDiff, ir20]
  refine rsub_spec hs hxy hyx ?_
  simp -dsimp -implicitDefEqProofs only [↓STP, STQ, ne_eq, implies_true, forall_const, if_false, if_true, reduceCtorEq, ↓reduceIte, Nat.reduceEqDiff, Nat.reduceAdd, Int.reduceEq, Int.reduceLT, Int.reduceLE, Int.reduceNeg, Int.reduceAdd, Int.reduceSub, Int.reduceMul, Int.reduceToNat, Nat.reduceMul, Nat.reduceSub, Nat.reduceLT, Nat.reduceLeDiff]
  exact hK
theorem op2 (hp : p < 4611686018427387904) (hx : x < p) (hy : y < 18446744073709551616) (hK : K (.ret (W (x * y % p))) h) : R 20 [W p, I 2, W x, W y, W c] h K := by
  refine run20 (Nat.le_of_ble_eq_true rfl) ?_
  simp -dsimp -implicitDefEqProofs only [↓STP, STQ, ne_eq, implies_true, forall_const, if_false, if_true, reduceCtorEq, ↓reduceIte, Nat.reduceEqDiff, Nat.reduceAdd, Int.reduceEq, Int.reduceLT, Int.reduceLE, Int.reduceNeg, Int.reduceAdd, Int.reduceSub, Int.reduceMul, Int.reduceToNat, Nat.reduceMul, Nat.reduceSub, Nat.reduceLT, Nat.reduceLeDiff, ir20]
  refine rmul_spec hp hx hy ?_
  simp -dsimp -implicitDefEqProofs only [↓STP, STQ, ne_eq, implies_true, forall_const, if_false, if_true, reduceCtorEq, ↓reduceIte, Nat.reduceEqDiff, Nat.reduceAdd, Int.reduceEq, Int.reduceLT, Int.reduceLE, Int.reduceNeg, Int.reduceAdd, Int.reduceSub, Int.reduceMul, Int.reduceToNat, Nat.reduceMul, Nat.reduceSub, Nat.reduceLT, Nat.reduceLeDiff]
  exact hK

end

theorem evo_old {h h0 h1 : H} {F0 F1 : Nat → Prop} (o0 : ∀ j, j < h.next → h0.objs j = h.objs j ∧ ¬ F0 j) (n0 : h0.next = h.next + 1) (ev : Evo h0 F0 h1 F1) : h.next ≤ h1.next ∧ ∀ j, j < h.next → h1.objs j = h.objs j :=
  ⟨by have := ev.1; omega, fun j hj => by rw [(ev.2 j (by omega) (o0 j hj).2).1, (o0 j hj).1]⟩

end
end Go.Ab.Ytgfnhkedfmnijaa
