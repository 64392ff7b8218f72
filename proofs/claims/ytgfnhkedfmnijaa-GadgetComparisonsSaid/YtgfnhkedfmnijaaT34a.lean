/- Chapter 34: the example of the document; field gates. -/
import Derived.Test.YtgfnhkedfmnijaaB4
import Derived.Test.YtgfnhkedfmnijaaAb32
set_option linter.unusedVariables false
set_option linter.unusedSimpArgs false
namespace Go.Ab.Ytgfnhkedfmnijaa

section
variable {h : H} {K : Out → H → Prop}

theorem lists2 {h : H} {a b : List Nat} {c c1 c2 : Cap} (hc : c.shared = true) (h1 : c1.shared = true) (h2 : c2.shared = true) : ListsAt h (.vec [.vec (Ws a) c1, .vec (Ws b) c2] c) [a, b] := by
  refine ⟨[.vec (Ws a) c1, .vec (Ws b) c2], rfl, fun i x ws hx hw => ?_, .inl ⟨c, hc, rfl⟩⟩
  match i, hx, hw with
  | 0, hx, hw => cases hx; cases hw; exact .inl ⟨c1, h1, rfl⟩
  | 1, hx, hw => cases hx; cases hw; exact .inl ⟨c2, h2, rfl⟩
  | (n + 2), hx, hw => simp at hx

theorem cnt_two {gs : List Gt} {a b : List Nat} (h1 : cnt gs 1 = a.length) (h2 : cnt gs 2 = b.length) (h3 : ∀ f, f ≠ 1 → f ≠ 2 → cnt gs f = 0) : ∀ f, 1 ≤ f → cnt gs f = (([a, b] : List (List Nat)).getD (f - 1) []).length := by
  intro f hf
  by_cases e1 : f = 1
  · subst e1; exact h1
  · by_cases e2 : f = 2
    · subst e2; exact h2
    · rw [h3 f e1 e2, List.getD_eq_getElem?_getD, List.getElem?_eq_none (by simp; omega)]; rfl

theorem awake10 (hK : ∀ h', h.next ≤ h'.next → (∀ j, j < h.next → h'.objs j = h.objs j) → K (.ret (.bool true)) h') : R 10 [] h K := by
  refine run10 (Nat.le_of_ble_eq_true rfl) ?_
  simp -dsimp -implicitDefEqProofs only [↓STP, STQ, ne_eq, implies_true, forall_const, if_false, if_true, reduceCtorEq, ↓reduceIte, Nat.reduceEqDiff, Nat.reduceAdd, Int.reduceEq, Int.reduceLT, Int.reduceLE, Int.reduceNeg, Int.reduceAdd, Int.reduceSub, Int.reduceMul, Int.reduceToNat, Nat.reduceMul, Nat.reduceSub, Nat.reduceLT, Nat.reduceLeDiff, ir10]
  refine new12 (p := 31) fun h0 F0 b0 o0 n0 => ?_
  simp -dsimp -implicitDefEqProofs only [↓STP, STQ, ne_eq, implies_true, forall_const, if_false, if_true, reduceCtorEq, ↓reduceIte, Nat.reduceEqDiff, Nat.reduceAdd, Int.reduceEq, Int.reduceLT, Int.reduceLE, Int.reduceNeg, Int.reduceAdd, Int.reduceSub, Int.reduceMul, Int.reduceToNat, Nat.reduceMul, Nat.reduceSub, Nat.reduceLT, Nat.reduceLeDiff]
  have g0 : Rgt 31 5 [[1, 5], [1]] [] [] := good_nil (.inl ⟨rfl, rfl⟩)
  refine input_g (bit := true) (f := 1) (x := 1) ⟨b0, g0, by simp⟩ (by decide) (by decide) (by simp [cnt]) (by decide) (fun _ => by decide) fun h1 F1 g1 v1 b1 e1 w1 => ?_
  simp -dsimp -implicitDefEqProofs only [↓STP, STQ, ne_eq, implies_true, forall_const, if_false, if_true, reduceCtorEq, ↓reduceIte, Nat.reduceEqDiff, Nat.reduceAdd, Int.reduceEq, Int.reduceLT, Int.reduceLE, Int.reduceNeg, Int.reduceAdd, Int.reduceSub, Int.reduceMul, Int.reduceToNat, Nat.reduceMul, Nat.reduceSub, Nat.reduceLT, Nat.reduceLeDiff]
  have l1 := w1.len
  simp only [List.length_nil, Nat.zero_add] at l1
  have c1 := w1.inp
  refine input_g (bit := true) (f := 2) (x := 1) ⟨b1, w1.good, by omega⟩ (by decide) (by decide) (by rw [c1 2]; simp [cnt]) (by decide) (fun _ => by decide) fun h2 F2 g2 v2 b2 e2 w2 => ?_
  simp -dsimp -implicitDefEqProofs only [↓STP, STQ, ne_eq, implies_true, forall_const, if_false, if_true, reduceCtorEq, ↓reduceIte, Nat.reduceEqDiff, Nat.reduceAdd, Int.reduceEq, Int.reduceLT, Int.reduceLE, Int.reduceNeg, Int.reduceAdd, Int.reduceSub, Int.reduceMul, Int.reduceToNat, Nat.reduceMul, Nat.reduceSub, Nat.reduceLT, Nat.reduceLeDiff]
  have l2 := w2.len
  have c2 := w2.inp
  refine input_g (bit := false) (f := 1) (x := 5) ⟨b2, w2.good, by omega⟩ (by decide) (by decide) (by rw [c2 1, c1 1]; simp [cnt]) (by decide) (by simp) fun h3 F3 g3 v3 b3 e3 w3 => ?_
  have l3 := w3.len
  have c3 := w3.inp
  rw [l1] at l2 ⊢
  rw [l2] at l3 ⊢
  have vx : v3.getD 0 0 = 1 := by rw [w3.pre 0 (by omega), w2.pre 0 (by omega)]; exact w1.val
  have vy : v3.getD 1 0 = 1 := by rw [w3.pre 1 (by omega)]; have := w2.val; rw [l1] at this; exact this
  have vz : v3.getD 2 0 = 5 := by have := w3.val; rw [l2] at this; exact this
  simp -dsimp -implicitDefEqProofs only [↓STP, STQ, ne_eq, implies_true, forall_const, if_false, if_true, reduceCtorEq, ↓reduceIte, Nat.reduceEqDiff, Nat.reduceAdd, Int.reduceEq, Int.reduceLT, Int.reduceLE, Int.reduceNeg, Int.reduceAdd, Int.reduceSub, Int.reduceMul, Int.reduceToNat, Nat.reduceMul, Nat.reduceSub, Nat.reduceLT, Nat.reduceLeDiff]
  refine or_g (x := 0) (y := 1) ⟨b3, w3.good, by omega⟩ (by omega) (by omega) (by omega) fun h4 F4 g4 v4 i4 b4 e4 w4 k4 x4 => ?_
  simp -dsimp -implicitDefEqProofs only [↓STP, STQ, ne_eq, implies_true, forall_const, if_false, if_true, reduceCtorEq, ↓reduceIte, Nat.reduceEqDiff, Nat.reduceAdd, Int.reduceEq, Int.reduceLT, Int.reduceLE, Int.reduceNeg, Int.reduceAdd, Int.reduceSub, Int.reduceMul, Int.reduceToNat, Nat.reduceMul, Nat.reduceSub, Nat.reduceLT, Nat.reduceLeDiff]
  have l4 := w4.len
  rw [vx, vy] at x4
  have x4 : v4.getD i4 0 = 1 := x4
  have vx4 : v4.getD 0 0 = 1 := by rw [w4.pre 0 (by omega), vx]
  have vy4 : v4.getD 1 0 = 1 := by rw [w4.pre 1 (by omega), vy]
  have vz4 : v4.getD 2 0 = 5 := by rw [w4.pre 2 (by omega), vz]
  refine output14 b4 (by simp) fun h5 F5 b5 e5 => ?_
  simp -dsimp -implicitDefEqProofs only [↓STP, STQ, ne_eq, implies_true, forall_const, if_false, if_true, reduceCtorEq, ↓reduceIte, Nat.reduceEqDiff, Nat.reduceAdd, Int.reduceEq, Int.reduceLT, Int.reduceLE, Int.reduceNeg, Int.reduceAdd, Int.reduceSub, Int.reduceMul, Int.reduceToNat, Nat.reduceMul, Nat.reduceSub, Nat.reduceLT, Nat.reduceLeDiff]
  have o5 := Bo.nil.snoc k4 x4
  refine xor_g (x := 0) (y := 1) ⟨b5, w4.good, by omega⟩ (by omega) (by omega) (by omega) fun h6 F6 g6 v6 i6 b6 e6 w6 k6 x6 => ?_
  simp -dsimp -implicitDefEqProofs only [↓STP, STQ, ne_eq, implies_true, forall_const, if_false, if_true, reduceCtorEq, ↓reduceIte, Nat.reduceEqDiff, Nat.reduceAdd, Int.reduceEq, Int.reduceLT, Int.reduceLE, Int.reduceNeg, Int.reduceAdd, Int.reduceSub, Int.reduceMul, Int.reduceToNat, Nat.reduceMul, Nat.reduceSub, Nat.reduceLT, Nat.reduceLeDiff]
  have l6 := w6.len
  rw [vx4, vy4] at x6
  have x6 : v6.getD i6 0 = 0 := x6
  have vx6 : v6.getD 0 0 = 1 := by rw [w6.pre 0 (by omega), vx4]
  have vy6 : v6.getD 1 0 = 1 := by rw [w6.pre 1 (by omega), vy4]
  have vz6 : v6.getD 2 0 = 5 := by rw [w6.pre 2 (by omega), vz4]
  refine output14 b6 (by simp) fun h7 F7 b7 e7 => ?_
  simp -dsimp -implicitDefEqProofs only [↓STP, STQ, ne_eq, implies_true, forall_const, if_false, if_true, reduceCtorEq, ↓reduceIte, Nat.reduceEqDiff, Nat.reduceAdd, Int.reduceEq, Int.reduceLT, Int.reduceLE, Int.reduceNeg, Int.reduceAdd, Int.reduceSub, Int.reduceMul, Int.reduceToNat, Nat.reduceMul, Nat.reduceSub, Nat.reduceLT, Nat.reduceLeDiff]
  have o7 := (o5.grow w6).snoc k6 x6
  refine scale_g (k := 3) (x := 2) ⟨b7, w6.good, by omega⟩ (by decide) (by omega) fun h8 F8 g8 v8 i8 b8 e8 w8 k8 x8 => ?_
  simp -dsimp -implicitDefEqProofs only [↓STP, STQ, ne_eq, implies_true, forall_const, if_false, if_true, reduceCtorEq, ↓reduceIte, Nat.reduceEqDiff, Nat.reduceAdd, Int.reduceEq, Int.reduceLT, Int.reduceLE, Int.reduceNeg, Int.reduceAdd, Int.reduceSub, Int.reduceMul, Int.reduceToNat, Nat.reduceMul, Nat.reduceSub, Nat.reduceLT, Nat.reduceLeDiff]
  have l8 := w8.len
  rw [vz6] at x8
  have x8 : v8.getD i8 0 = 15 := x8
  have vx8 : v8.getD 0 0 = 1 := by rw [w8.pre 0 (by omega), vx6]
  have vy8 : v8.getD 1 0 = 1 := by rw [w8.pre 1 (by omega), vy6]
  refine output14 b8 (by simp) fun h9 F9 b9 e9 => ?_
  simp -dsimp -implicitDefEqProofs only [↓STP, STQ, ne_eq, implies_true, forall_const, if_false, if_true, reduceCtorEq, ↓reduceIte, Nat.reduceEqDiff, Nat.reduceAdd, Int.reduceEq, Int.reduceLT, Int.reduceLE, Int.reduceNeg, Int.reduceAdd, Int.reduceSub, Int.reduceMul, Int.reduceToNat, Nat.reduceMul, Nat.reduceSub, Nat.reduceLT, Nat.reduceLeDiff]
  have o9 := (o7.grow w8).snoc k8 x8
  refine compose_g (l := [0, 1, 1]) (c := .full) rfl ⟨b9, w8.good, by omega⟩ (by decide) (by omega) (by simp; omega) fun h10 F10 g10 v10 i10 b10 e10 w10 k10 x10 => ?_
  simp -dsimp -implicitDefEqProofs only [↓STP, STQ, ne_eq, implies_true, forall_const, if_false, if_true, reduceCtorEq, ↓reduceIte, Nat.reduceEqDiff, Nat.reduceAdd, Int.reduceEq, Int.reduceLT, Int.reduceLE, Int.reduceNeg, Int.reduceAdd, Int.reduceSub, Int.reduceMul, Int.reduceToNat, Nat.reduceMul, Nat.reduceSub, Nat.reduceLT, Nat.reduceLeDiff]
  have l10 := w10.len
  simp only [List.length_cons, List.length_nil] at l10
  simp only [List.map_cons, List.map_nil, vx8, vy8] at x10
  have x10 : v10.getD i10 0 = 7 := x10
  refine output14 b10 (by simp) fun h11 F11 b11 e11 => ?_
  simp -dsimp -implicitDefEqProofs only [↓STP, STQ, ne_eq, implies_true, forall_const, if_false, if_true, reduceCtorEq, ↓reduceIte, Nat.reduceEqDiff, Nat.reduceAdd, Int.reduceEq, Int.reduceLT, Int.reduceLE, Int.reduceNeg, Int.reduceAdd, Int.reduceSub, Int.reduceMul, Int.reduceToNat, Nat.reduceMul, Nat.reduceSub, Nat.reduceLT, Nat.reduceLeDiff]
  have o11 := (o9.grow w10).snoc k10 x10
  have ev := ((((((((((e1.trans e2).trans e3).trans e4).trans e5).trans e6).trans e7).trans e8).trans e9).trans e10).trans e11)
  have hnx : h.next ≤ h11.next := by have := ev.1; omega
  have hold : ∀ j, j < h.next → h11.objs j = h.objs j := fun j hj => by
    rw [(ev.2 j (by omega) (o0 j hj).2).1, (o0 j hj).1]
  have cc : ∀ f, cnt g10 f = cnt [] f + (if f = 1 then 1 else 0) + (if f = 2 then 1 else 0) + (if f = 1 then 1 else 0) := fun f => by
    rw [w10.inp, w8.inp, w6.inp, w4.inp, c3, c2, c1]
  have hfit : FitsC 31 g10 [[1, 5], [1]] := fits_of w10.good (by decide) (cnt_two (by rw [cc]; rfl) (by rw [cc]; rfl) (fun f h1 h2 => by rw [cc]; simp [h1, h2, cnt])) (by decide)
  refine circuit23 b11 (by omega) (by simp) fun v hv => ?_
  have hv0 := hv
  obtain ⟨q1, q2, hq1, hq2, rfl⟩ := hv
  simp -dsimp -implicitDefEqProofs only [↓STP, STQ, ne_eq, implies_true, forall_const, if_false, if_true, reduceCtorEq, ↓reduceIte, Nat.reduceEqDiff, Nat.reduceAdd, Int.reduceEq, Int.reduceLT, Int.reduceLE, Int.reduceNeg, Int.reduceAdd, Int.reduceSub, Int.reduceMul, Int.reduceToNat, Nat.reduceMul, Nat.reduceSub, Nat.reduceLT, Nat.reduceLeDiff, out_sh hq1, out_sh hq2]
  refine eval_spec hv0 (w10.good.circ (by omega) (by simp) o11.rng) hfit w10.good.bits (lists2 (a := [1, 5]) (b := [1]) (c := .full) (c1 := .full) (c2 := .full) rfl rfl rfl) w10.good.vals fun h' c' hc' f1 f2 => ?_
  rw [o11.val]
  rcases hc' with rfl | rfl
  all_goals
    simp -dsimp -implicitDefEqProofs only [↓STP, STQ, ne_eq, implies_true, forall_const, if_false, if_true, reduceCtorEq, ↓reduceIte, Nat.reduceEqDiff, Nat.reduceAdd, Int.reduceEq, Int.reduceLT, Int.reduceLE, Int.reduceNeg, Int.reduceAdd, Int.reduceSub, Int.reduceMul, Int.reduceToNat, Nat.reduceMul, Nat.reduceSub, Nat.reduceLT, Nat.reduceLeDiff]
    refine same05 (b := [1, 0, 15, 7]) rfl rfl (by decide) fun r hr => ?_
    have hr' : r = true := by rw [hr]; decide
    subst hr'
    simp -dsimp -implicitDefEqProofs only [↓STP, STQ, ne_eq, implies_true, forall_const, if_false, if_true, reduceCtorEq, ↓reduceIte, Nat.reduceEqDiff, Nat.reduceAdd, Int.reduceEq, Int.reduceLT, Int.reduceLE, Int.reduceNeg, Int.reduceAdd, Int.reduceSub, Int.reduceMul, Int.reduceToNat, Nat.reduceMul, Nat.reduceSub, Nat.reduceLT, Nat.reduceLeDiff]
    exact hK h' (by omega) (fun j hj => by rw [f2 j (by omega), hold j hj])

section
variable {p q x y c : Nat}

theorem op0 (hs : 0 < p) (hxy : x + y < 18446744073709551616) (hK : K (.ret (W ((x + y) % p))) h) : R 20 [W p, I 0, W x, W y, W c] h K := by
  refine run20 (Nat.le_of_ble_eq_true rfl) ?_
  simp -dsimp -implicitDefEqProofs only [↓STP, STQ, ne_eq, implies_true, forall_const, if_false, if_true, reduceCtorEq, ↓reduceIte, Nat.reduceEqDiff, Nat.reduceAdd, Int.reduceEq, Int.reduceLT, Int.reduceLE, Int.reduceNeg, Int.reduceAdd, Int.reduceSub, Int.reduceMul, Int.reduceToNat, Nat.reduceMul, Nat.reduceSub, Nat.reduceLT, Nat.reduceLeDiff, ir20]
  refine radd_spec hs hxy ?_
  simp -dsimp -implicitDefEqProofs only [↓STP, STQ, ne_eq, implies_true, forall_const, if_false, if_true, reduceCtorEq, ↓reduceIte, Nat.reduceEqDiff, Nat.reduceAdd, Int.reduceEq, Int.reduceLT, Int.reduceLE, Int.reduceNeg, Int.reduceAdd, Int.reduceSub, Int.reduceMul, Int.reduceToNat, Nat.reduceMul, Nat.reduceSub, Nat.reduceLT, Nat.reduceLeDiff]
  exact hK
theorem op1 (hs : 0 < p) (hxy : x + p < 18446744073709551616) (hyx : y ≤ x + p) (hK : K (.ret (W ((x + p - y) % p))) h) : R 20 [W p, I 1, W x, W y, W c] h K := by
  refine run20 (Nat.le_of_ble_eq_true rfl) ?_
  simp -dsimp -implicitDefEqProofs only [↓STP, STQ, ne_eq, implies_true, forall_const, if_false, if_true, reduceCtorEq, ↓reduceIte, Nat.reduceEqDiff, Nat.reduceAdd, Int.reduceEq, Int.reduceLT, Int.reduceLE, Int.reduceNeg, Int.reduceAdd, Int.reduceSub, Int.reduceMul, Int.reduceToNat, Nat.reduceMul, Nat.reduceSub, Nat.reduceLT, Nat.reduceLeDiff, ir20]
  refine rsub_spec hs hxy hyx ?_
  simp -dsimp -implicitDefEqProofs only [↓STP, STQ, ne_eq, implies_true, forall_const, if_false, if_true, reduceCtorEq, ↓reduceIte, Nat.reduceEqDiff, Nat.reduceAdd, Int.reduceEq, Int.reduceLT, Int.reduceLE, Int.reduceNeg, Int.reduceAdd, Int.reduceSub, Int.reduceMul, Int.reduceToNat, Nat.reduceMul, Nat.reduceSub, Nat.reduceLT, Nat.reduceLeDiff]
  exact hK
theorem op2 (hp : p < 4611686018427387904) (hx : x < p) (hy : y < 18446744073709551616) (hK : K (.ret (W (x * y % p))) h) : R 20 [W p, I 2, W x, W y, W c] h K := by
  refine run20 (Nat.le_of_ble_eq_true rfl) ?_
  simp -dsimp -implicitDefEqProofs only [↓STP, STQ, ne_eq, implies_true, forall_const, if_false, if_true, reduceCtorEq, ↓reduceIte, Nat.reduceEqDiff, Nat.reduceAdd, Int.reduceEq, Int.reduceLT, Int.reduceLE, Int.reduceNeg, Int.reduceAdd, Int.reduceSub, Int.reduceMul, Int.reduceToNat, Nat.reduceMul, Nat.reduceSub, Nat.reduceLT, Nat.reduceLeDiff, ir20]
  refine rmul_spec hp hx hy ?_
  simp -dsimp -implicitDefEqProofs only [↓STP, STQ, ne_eq, implies_true, forall_const, if_false, if_true, reduceCtorEq, ↓reduceIte, Nat.reduceEqDiff, Nat.reduceAdd, Int.reduceEq, Int.reduceLT, Int.reduceLE, Int.reduceNeg, Int.reduceAdd, Int.reduceSub, Int.reduceMul, Int.reduceToNat, Nat.reduceMul, Nat.reduceSub, Nat.reduceLT, Nat.reduceLeDiff]
  exact hK

end

theorem evo_old {h h0 h1 : H} {F0 F1 : Nat → Prop} (o0 : ∀ j, j < h.next → h0.objs j = h.objs j ∧ ¬ F0 j) (n0 : h0.next = h.next + 1) (ev : Evo h0 F0 h1 F1) : h.next ≤ h1.next ∧ ∀ j, j < h.next → h1.objs j = h.objs j :=
  ⟨by have := ev.1; omega, fun j hj => by rw [(ev.2 j (by omega) (o0 j hj).2).1, (o0 j hj).1]⟩

theorem law34_3 {p x0 x1 k : Nat} (hp : p < 18446744073709551616) (h0 : x0 < 18446744073709551616) (h1 : x1 < 18446744073709551616) (hk : k < 18446744073709551616) :
    R 3 [W p, .agg [W x0, W x1], W k] h (fun o _ => o = .ret (.bool true)) := by
  refine run3 (Nat.le_of_ble_eq_true rfl) ?_
  simp -dsimp -implicitDefEqProofs only [↓STP, STQ, ne_eq, implies_true, forall_const, if_false, if_true, reduceCtorEq, ↓reduceIte, Nat.reduceEqDiff, Nat.reduceAdd, Int.reduceEq, Int.reduceLT, Int.reduceLE, Int.reduceNeg, Int.reduceAdd, Int.reduceSub, Int.reduceMul, Int.reduceToNat, Nat.reduceMul, Nat.reduceSub, Nat.reduceLT, Nat.reduceLeDiff, ir3]
  refine awake10 fun ha _ _ => ?_
  simp -dsimp -implicitDefEqProofs only [↓STP, STQ, ne_eq, implies_true, forall_const, if_false, if_true, reduceCtorEq, ↓reduceIte, Nat.reduceEqDiff, Nat.reduceAdd, Int.reduceEq, Int.reduceLT, Int.reduceLE, Int.reduceNeg, Int.reduceAdd, Int.reduceSub, Int.reduceMul, Int.reduceToNat, Nat.reduceMul, Nat.reduceSub, Nat.reduceLT, Nat.reduceLeDiff]
  refine supported_spec hp (fun hs => ?_) (fun hs => ?_)
  rotate_left
  · simp -dsimp -implicitDefEqProofs only [↓STP, STQ, ne_eq, implies_true, forall_const, if_false, if_true, reduceCtorEq, ↓reduceIte, Nat.reduceEqDiff, Nat.reduceAdd, Int.reduceEq, Int.reduceLT, Int.reduceLE, Int.reduceNeg, Int.reduceAdd, Int.reduceSub, Int.reduceMul, Int.reduceToNat, Nat.reduceMul, Nat.reduceSub, Nat.reduceLT, Nat.reduceLeDiff]
  obtain ⟨q, hs⟩ := hs
  simp -dsimp -implicitDefEqProofs only [↓STP, STQ, ne_eq, implies_true, forall_const, if_false, if_true, reduceCtorEq, ↓reduceIte, Nat.reduceEqDiff, Nat.reduceAdd, Int.reduceEq, Int.reduceLT, Int.reduceLE, Int.reduceNeg, Int.reduceAdd, Int.reduceSub, Int.reduceMul, Int.reduceToNat, Nat.reduceMul, Nat.reduceSub, Nat.reduceLT, Nat.reduceLeDiff]
  by_cases c0 : (p : Int) ≤ x0
  · simp -dsimp -implicitDefEqProofs only [↓STP, STQ, ne_eq, implies_true, forall_const, if_false, if_true, reduceCtorEq, ↓reduceIte, Nat.reduceEqDiff, Nat.reduceAdd, Int.reduceEq, Int.reduceLT, Int.reduceLE, Int.reduceNeg, Int.reduceAdd, Int.reduceSub, Int.reduceMul, Int.reduceToNat, Nat.reduceMul, Nat.reduceSub, Nat.reduceLT, Nat.reduceLeDiff, eq_true c0]
  by_cases c1 : (p : Int) ≤ x1
  · simp -dsimp -implicitDefEqProofs only [↓STP, STQ, ne_eq, implies_true, forall_const, if_false, if_true, reduceCtorEq, ↓reduceIte, Nat.reduceEqDiff, Nat.reduceAdd, Int.reduceEq, Int.reduceLT, Int.reduceLE, Int.reduceNeg, Int.reduceAdd, Int.reduceSub, Int.reduceMul, Int.reduceToNat, Nat.reduceMul, Nat.reduceSub, Nat.reduceLT, Nat.reduceLeDiff, eq_false c0, eq_true c1]
  by_cases c2 : (p : Int) ≤ k
  · simp -dsimp -implicitDefEqProofs only [↓STP, STQ, ne_eq, implies_true, forall_const, if_false, if_true, reduceCtorEq, ↓reduceIte, Nat.reduceEqDiff, Nat.reduceAdd, Int.reduceEq, Int.reduceLT, Int.reduceLE, Int.reduceNeg, Int.reduceAdd, Int.reduceSub, Int.reduceMul, Int.reduceToNat, Nat.reduceMul, Nat.reduceSub, Nat.reduceLT, Nat.reduceLeDiff, eq_false c0, eq_false c1, eq_true c2]
  simp -dsimp -implicitDefEqProofs only [↓STP, STQ, ne_eq, implies_true, forall_const, if_false, if_true, reduceCtorEq, ↓reduceIte, Nat.reduceEqDiff, Nat.reduceAdd, Int.reduceEq, Int.reduceLT, Int.reduceLE, Int.reduceNeg, Int.reduceAdd, Int.reduceSub, Int.reduceMul, Int.reduceToNat, Nat.reduceMul, Nat.reduceSub, Nat.reduceLT, Nat.reduceLeDiff, eq_false c0, eq_false c1, eq_false c2]
  have hx0 : x0 < p := by omega
  have hx1 : x1 < p := by omega
  have hkp : k < p := by omega
  refine new12 (p := p) fun hA FA bA oA nA => ?_
  simp -dsimp -implicitDefEqProofs only [↓STP, STQ, ne_eq, implies_true, forall_const, if_false, if_true, reduceCtorEq, ↓reduceIte, Nat.reduceEqDiff, Nat.reduceAdd, Int.reduceEq, Int.reduceLT, Int.reduceLE, Int.reduceNeg, Int.reduceAdd, Int.reduceSub, Int.reduceMul, Int.reduceToNat, Nat.reduceMul, Nat.reduceSub, Nat.reduceLT, Nat.reduceLeDiff]
  have g0 : Rgt p q [[x0], [x1]] [] [] := good_nil hs
  have hp0 := g0.p0
  refine input_g (bit := false) (f := 1) (x := x0) ⟨bA, g0, by simp⟩ (by decide) (by decide) (by simp [cnt]) hx0 (by simp) fun h1 F1 g1 v1 b1 e1 w1 => ?_
  simp -dsimp -implicitDefEqProofs only [↓STP, STQ, ne_eq, implies_true, forall_const, if_false, if_true, reduceCtorEq, ↓reduceIte, Nat.reduceEqDiff, Nat.reduceAdd, Int.reduceEq, Int.reduceLT, Int.reduceLE, Int.reduceNeg, Int.reduceAdd, Int.reduceSub, Int.reduceMul, Int.reduceToNat, Nat.reduceMul, Nat.reduceSub, Nat.reduceLT, Nat.reduceLeDiff]
  have l1 := w1.len
  simp only [List.length_nil, Nat.zero_add] at l1
  have c1 := w1.inp
  refine input_g (bit := false) (f := 2) (x := x1) ⟨b1, w1.good, by omega⟩ (by decide) (by decide) (by rw [c1 2]; simp [cnt]) hx1 (by simp) fun h2 F2 g2 v2 b2 e2 w2 => ?_
  have l2 := w2.len
  have c2 := w2.inp
  rw [l1] at l2 ⊢
  have vx : v2.getD 0 0 = x0 := by rw [w2.pre 0 (by omega)]; exact w1.val
  have vy : v2.getD 1 0 = x1 := by have := w2.val; rw [l1] at this; exact this
  simp -dsimp -implicitDefEqProofs only [↓STP, STQ, ne_eq, implies_true, forall_const, if_false, if_true, reduceCtorEq, ↓reduceIte, Nat.reduceEqDiff, Nat.reduceAdd, Int.reduceEq, Int.reduceLT, Int.reduceLE, Int.reduceNeg, Int.reduceAdd, Int.reduceSub, Int.reduceMul, Int.reduceToNat, Nat.reduceMul, Nat.reduceSub, Nat.reduceLT, Nat.reduceLeDiff]
  refine add_g (x := 0) (y := 1) ⟨b2, w2.good, by omega⟩ (by omega) (by omega) fun h3 F3 g3 v3 i3 b3 e3 w3 k3 x3 => ?_
  simp -dsimp -implicitDefEqProofs only [↓STP, STQ, ne_eq, implies_true, forall_const, if_false, if_true, reduceCtorEq, ↓reduceIte, Nat.reduceEqDiff, Nat.reduceAdd, Int.reduceEq, Int.reduceLT, Int.reduceLE, Int.reduceNeg, Int.reduceAdd, Int.reduceSub, Int.reduceMul, Int.reduceToNat, Nat.reduceMul, Nat.reduceSub, Nat.reduceLT, Nat.reduceLeDiff]
  have l3 := w3.len
  rw [vx, vy] at x3
  refine output14 b3 (by simp) fun h4 F4 b4 e4 => ?_
  simp -dsimp -implicitDefEqProofs only [↓STP, STQ, ne_eq, implies_true, forall_const, if_false, if_true, reduceCtorEq, ↓reduceIte, Nat.reduceEqDiff, Nat.reduceAdd, Int.reduceEq, Int.reduceLT, Int.reduceLE, Int.reduceNeg, Int.reduceAdd, Int.reduceSub, Int.reduceMul, Int.reduceToNat, Nat.reduceMul, Nat.reduceSub, Nat.reduceLT, Nat.reduceLeDiff]
  have o4 := Bo.nil.snoc k3 x3
  have vx3 : v3.getD 0 0 = x0 := by rw [w3.pre 0 (by omega), vx]
  have vy3 : v3.getD 1 0 = x1 := by rw [w3.pre 1 (by omega), vy]
  refine sub_g (x := 0) (y := 1) ⟨b4, w3.good, by omega⟩ (by omega) (by omega) fun h5 F5 g5 v5 i5 b5 e5 w5 k5 x5 => ?_
  simp -dsimp -implicitDefEqProofs only [↓STP, STQ, ne_eq, implies_true, forall_const, if_false, if_true, reduceCtorEq, ↓reduceIte, Nat.reduceEqDiff, Nat.reduceAdd, Int.reduceEq, Int.reduceLT, Int.reduceLE, Int.reduceNeg, Int.reduceAdd, Int.reduceSub, Int.reduceMul, Int.reduceToNat, Nat.reduceMul, Nat.reduceSub, Nat.reduceLT, Nat.reduceLeDiff]
  have l5 := w5.len
  rw [vx3, vy3] at x5
  refine output14 b5 (by simp) fun h6 F6 b6 e6 => ?_
  simp -dsimp -implicitDefEqProofs only [↓STP, STQ, ne_eq, implies_true, forall_const, if_false, if_true, reduceCtorEq, ↓reduceIte, Nat.reduceEqDiff, Nat.reduceAdd, Int.reduceEq, Int.reduceLT, Int.reduceLE, Int.reduceNeg, Int.reduceAdd, Int.reduceSub, Int.reduceMul, Int.reduceToNat, Nat.reduceMul, Nat.reduceSub, Nat.reduceLT, Nat.reduceLeDiff]
  have o6 := (o4.grow w5).snoc k5 x5
  have vx5 : v5.getD 0 0 = x0 := by rw [w5.pre 0 (by omega), vx3]
  have vy5 : v5.getD 1 0 = x1 := by rw [w5.pre 1 (by omega), vy3]
  refine mul_g (x := 0) (y := 1) ⟨b6, w5.good, by omega⟩ (by omega) (by omega) fun h7 F7 g7 v7 i7 b7 e7 w7 k7 x7 => ?_
  simp -dsimp -implicitDefEqProofs only [↓STP, STQ, ne_eq, implies_true, forall_const, if_false, if_true, reduceCtorEq, ↓reduceIte, Nat.reduceEqDiff, Nat.reduceAdd, Int.reduceEq, Int.reduceLT, Int.reduceLE, Int.reduceNeg, Int.reduceAdd, Int.reduceSub, Int.reduceMul, Int.reduceToNat, Nat.reduceMul, Nat.reduceSub, Nat.reduceLT, Nat.reduceLeDiff]
  have l7 := w7.len
  rw [vx5, vy5] at x7
  refine output14 b7 (by simp) fun h8 F8 b8 e8 => ?_
  simp -dsimp -implicitDefEqProofs only [↓STP, STQ, ne_eq, implies_true, forall_const, if_false, if_true, reduceCtorEq, ↓reduceIte, Nat.reduceEqDiff, Nat.reduceAdd, Int.reduceEq, Int.reduceLT, Int.reduceLE, Int.reduceNeg, Int.reduceAdd, Int.reduceSub, Int.reduceMul, Int.reduceToNat, Nat.reduceMul, Nat.reduceSub, Nat.reduceLT, Nat.reduceLeDiff]
  have o8 := (o6.grow w7).snoc k7 x7
  have vx7 : v7.getD 0 0 = x0 := by rw [w7.pre 0 (by omega), vx5]
  refine scale_g (k := k) (x := 0) ⟨b8, w7.good, by omega⟩ hkp (by omega) fun h9 F9 g9 v9 i9 b9 e9 w9 k9 x9 => ?_
  simp -dsimp -implicitDefEqProofs only [↓STP, STQ, ne_eq, implies_true, forall_const, if_false, if_true, reduceCtorEq, ↓reduceIte, Nat.reduceEqDiff, Nat.reduceAdd, Int.reduceEq, Int.reduceLT, Int.reduceLE, Int.reduceNeg, Int.reduceAdd, Int.reduceSub, Int.reduceMul, Int.reduceToNat, Nat.reduceMul, Nat.reduceSub, Nat.reduceLT, Nat.reduceLeDiff]
  have l9 := w9.len
  rw [vx7] at x9
  refine output14 b9 (by simp) fun h10 F10 b10 e10 => ?_
  simp -dsimp -implicitDefEqProofs only [↓STP, STQ, ne_eq, implies_true, forall_const, if_false, if_true, reduceCtorEq, ↓reduceIte, Nat.reduceEqDiff, Nat.reduceAdd, Int.reduceEq, Int.reduceLT, Int.reduceLE, Int.reduceNeg, Int.reduceAdd, Int.reduceSub, Int.reduceMul, Int.reduceToNat, Nat.reduceMul, Nat.reduceSub, Nat.reduceLT, Nat.reduceLeDiff]
  have o10 := (o8.grow w9).snoc k9 x9
  have vx9 : v9.getD 0 0 = x0 := by rw [w9.pre 0 (by omega), vx7]
  refine const_g (k := k) ⟨b10, w9.good, by omega⟩ hkp fun h11 F11 g11 v11 i11 b11 e11 w11 k11 x11 => ?_
  simp -dsimp -implicitDefEqProofs only [↓STP, STQ, ne_eq, implies_true, forall_const, if_false, if_true, reduceCtorEq, ↓reduceIte, Nat.reduceEqDiff, Nat.reduceAdd, Int.reduceEq, Int.reduceLT, Int.reduceLE, Int.reduceNeg, Int.reduceAdd, Int.reduceSub, Int.reduceMul, Int.reduceToNat, Nat.reduceMul, Nat.reduceSub, Nat.reduceLT, Nat.reduceLeDiff]
  have l11 := w11.len
  refine output14 b11 (by simp) fun h12 F12 b12 e12 => ?_
  simp -dsimp -implicitDefEqProofs only [↓STP, STQ, ne_eq, implies_true, forall_const, if_false, if_true, reduceCtorEq, ↓reduceIte, Nat.reduceEqDiff, Nat.reduceAdd, Int.reduceEq, Int.reduceLT, Int.reduceLE, Int.reduceNeg, Int.reduceAdd, Int.reduceSub, Int.reduceMul, Int.reduceToNat, Nat.reduceMul, Nat.reduceSub, Nat.reduceLT, Nat.reduceLeDiff]
  have o12 := (o10.grow w11).snoc k11 x11
  have vx11 : v11.getD 0 0 = x0 := by rw [w11.pre 0 (by omega), vx9]
  refine output14 (x := ((0 : Nat) : Int)) b12 (by simp) fun h13 F13 b13 e13 => ?_
  have o13 := o12.snoc (i := 0) (by omega) vx11
  simp -dsimp -implicitDefEqProofs only [↓STP, STQ, ne_eq, implies_true, forall_const, if_false, if_true, reduceCtorEq, ↓reduceIte, Nat.reduceEqDiff, Nat.reduceAdd, Int.reduceEq, Int.reduceLT, Int.reduceLE, Int.reduceNeg, Int.reduceAdd, Int.reduceSub, Int.reduceMul, Int.reduceToNat, Nat.reduceMul, Nat.reduceSub, Nat.reduceLT, Nat.reduceLeDiff]
  refine op0 hp0.1 (by omega) ?_
  simp -dsimp -implicitDefEqProofs only [↓STP, STQ, ne_eq, implies_true, forall_const, if_false, if_true, reduceCtorEq, ↓reduceIte, Nat.reduceEqDiff, Nat.reduceAdd, Int.reduceEq, Int.reduceLT, Int.reduceLE, Int.reduceNeg, Int.reduceAdd, Int.reduceSub, Int.reduceMul, Int.reduceToNat, Nat.reduceMul, Nat.reduceSub, Nat.reduceLT, Nat.reduceLeDiff]
  refine op1 hp0.1 (by omega) (by omega) ?_
  simp -dsimp -implicitDefEqProofs only [↓STP, STQ, ne_eq, implies_true, forall_const, if_false, if_true, reduceCtorEq, ↓reduceIte, Nat.reduceEqDiff, Nat.reduceAdd, Int.reduceEq, Int.reduceLT, Int.reduceLE, Int.reduceNeg, Int.reduceAdd, Int.reduceSub, Int.reduceMul, Int.reduceToNat, Nat.reduceMul, Nat.reduceSub, Nat.reduceLT, Nat.reduceLeDiff]
  refine op2 (by omega) hx0 (by omega) ?_
  simp -dsimp -implicitDefEqProofs only [↓STP, STQ, ne_eq, implies_true, forall_const, if_false, if_true, reduceCtorEq, ↓reduceIte, Nat.reduceEqDiff, Nat.reduceAdd, Int.reduceEq, Int.reduceLT, Int.reduceLE, Int.reduceNeg, Int.reduceAdd, Int.reduceSub, Int.reduceMul, Int.reduceToNat, Nat.reduceMul, Nat.reduceSub, Nat.reduceLT, Nat.reduceLeDiff]
  refine rmul_spec (by omega) hkp (by omega) ?_
  simp -dsimp -implicitDefEqProofs only [↓STP, STQ, ne_eq, implies_true, forall_const, if_false, if_true, reduceCtorEq, ↓reduceIte, Nat.reduceEqDiff, Nat.reduceAdd, Int.reduceEq, Int.reduceLT, Int.reduceLE, Int.reduceNeg, Int.reduceAdd, Int.reduceSub, Int.reduceMul, Int.reduceToNat, Nat.reduceMul, Nat.reduceSub, Nat.reduceLT, Nat.reduceLeDiff]
  have cc : ∀ f, cnt g11 f = cnt [] f + (if f = 1 then 1 else 0) + (if f = 2 then 1 else 0) := fun f => by
    rw [w11.inp, w9.inp, w7.inp, w5.inp, w3.inp, c2, c1]
  have hfit : FitsC p g11 [[x0], [x1]] := fits_of w11.good (by simp) (cnt_two (by rw [cc]; rfl) (by rw [cc]; rfl) (fun f h1 h2 => by rw [cc]; simp [h1, h2, cnt])) (by simp; omega)
  refine circuit23 b13 (by omega) (by simp) fun v hv => ?_
  have hv0 := hv
  obtain ⟨q1, q2, hq1, hq2, rfl⟩ := hv
  simp -dsimp -implicitDefEqProofs only [↓STP, STQ, ne_eq, implies_true, forall_const, if_false, if_true, reduceCtorEq, ↓reduceIte, Nat.reduceEqDiff, Nat.reduceAdd, Int.reduceEq, Int.reduceLT, Int.reduceLE, Int.reduceNeg, Int.reduceAdd, Int.reduceSub, Int.reduceMul, Int.reduceToNat, Nat.reduceMul, Nat.reduceSub, Nat.reduceLT, Nat.reduceLeDiff, out_sh hq1, out_sh hq2]
  refine tells_spec (xs := [(x0 + x1) % p, (x0 + p - x1) % p, x0 * x1 % p, k * x0 % p, k, x0]) rfl hv0 w11.good (by omega) (by simp) o13 hfit (lists2 (a := [x0]) (b := [x1]) (c := .full) (c1 := .full) (c2 := .full) rfl rfl rfl) fun h' _ _ => ?_
  simp -dsimp -implicitDefEqProofs only [↓STP, STQ, ne_eq, implies_true, forall_const, if_false, if_true, reduceCtorEq, ↓reduceIte, Nat.reduceEqDiff, Nat.reduceAdd, Int.reduceEq, Int.reduceLT, Int.reduceLE, Int.reduceNeg, Int.reduceAdd, Int.reduceSub, Int.reduceMul, Int.reduceToNat, Nat.reduceMul, Nat.reduceSub, Nat.reduceLT, Nat.reduceLeDiff]

end
end Go.Ab.Ytgfnhkedfmnijaa
