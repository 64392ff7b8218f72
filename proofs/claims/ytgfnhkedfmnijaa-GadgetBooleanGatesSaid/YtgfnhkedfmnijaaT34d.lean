/- Chapter 34: gates of bits (2): the statement. -/
import Derived.Test.YtgfnhkedfmnijaaT34c
set_option linter.unusedVariables false
set_option linter.unusedSimpArgs false
namespace Go.Ab.Ytgfnhkedfmnijaa

section
variable {h : H} {K : Out → H → Prop}

set_option maxHeartbeats 2000000 in
theorem law34_6 {p x0 x1 : Nat} {b0 b1 b2 : Bool} (hp : p < 18446744073709551616) (h0 : x0 < 18446744073709551616) (h1 : x1 < 18446744073709551616) :
    R 6 [W p, .agg [.bool b0, .bool b1, .bool b2], .agg [W x0, W x1]] h (fun o _ => o = .ret (.bool true)) := by
  refine run6 (Nat.le_of_ble_eq_true rfl) ?_
  simp -dsimp -implicitDefEqProofs only [↓STP, STQ, ne_eq, implies_true, forall_const, if_false, if_true, reduceCtorEq, ↓reduceIte, Nat.reduceEqDiff, Nat.reduceAdd, Int.reduceEq, Int.reduceLT, Int.reduceLE, Int.reduceNeg, Int.reduceAdd, Int.reduceSub, Int.reduceMul, Int.reduceToNat, Nat.reduceMul, Nat.reduceSub, Nat.reduceLT, Nat.reduceLeDiff, ir6]
  refine awake10 fun ha _ _ => ?_
  simp -dsimp -implicitDefEqProofs only [↓STP, STQ, ne_eq, implies_true, forall_const, if_false, if_true, reduceCtorEq, ↓reduceIte, Nat.reduceEqDiff, Nat.reduceAdd, Int.reduceEq, Int.reduceLT, Int.reduceLE, Int.reduceNeg, Int.reduceAdd, Int.reduceSub, Int.reduceMul, Int.reduceToNat, Nat.reduceMul, Nat.reduceSub, Nat.reduceLT, Nat.reduceLeDiff]
  refine supported_spec hp (fun hs => ?_) (fun hs => ?_)
  rotate_left
  · simp -dsimp -implicitDefEqProofs only [↓STP, STQ, ne_eq, implies_true, forall_const, if_false, if_true, reduceCtorEq, ↓reduceIte, Nat.reduceEqDiff, Nat.reduceAdd, Int.reduceEq, Int.reduceLT, Int.reduceLE, Int.reduceNeg, Int.reduceAdd, Int.reduceSub, Int.reduceMul, Int.reduceToNat, Nat.reduceMul, Nat.reduceSub, Nat.reduceLT, Nat.reduceLeDiff]
  obtain ⟨q, hs⟩ := hs
  simp -dsimp -implicitDefEqProofs only [↓STP, STQ, ne_eq, implies_true, forall_const, if_false, if_true, reduceCtorEq, ↓reduceIte, Nat.reduceEqDiff, Nat.reduceAdd, Int.reduceEq, Int.reduceLT, Int.reduceLE, Int.reduceNeg, Int.reduceAdd, Int.reduceSub, Int.reduceMul, Int.reduceToNat, Nat.reduceMul, Nat.reduceSub, Nat.reduceLT, Nat.reduceLeDiff]
  by_cases c0 : (p : Int) ≤ x0
  · simp -dsimp -implicitDefEqProofs only [↓STP, STQ, ne_eq, implies_true, forall_const, if_false, if_true, reduceCtorEq, ↓reduceIte, Nat.reduceEqDiff, Nat.reduceAdd, Int.reduceEq, Int.reduceLT, Int.reduceLE, Int.reduceNeg, Int.reduceAdd, Int.reduceSub, Int.reduceMul, Int.reduceToNat, Nat.reduceMul, Nat.reduceSub, Nat.reduceLT, Nat.reduceLeDiff, eq_true c0]
  by_cases c1 : (p : Int) ≤ x1
  · simp -dsimp -implicitDefEqProofs only [↓STP, STQ, ne_eq, implies_true, forall_const, if_false, if_true, reduceCtorEq, ↓reduceIte, Nat.reduceEqDiff, Nat.reduceAdd, Int.reduceEq, Int.reduceLT, Int.reduceLE, Int.reduceNeg, Int.reduceAdd, Int.reduceSub, Int.reduceMul, Int.reduceToNat, Nat.reduceMul, Nat.reduceSub, Nat.reduceLT, Nat.reduceLeDiff, eq_false c0, eq_true c1]
  simp -dsimp -implicitDefEqProofs only [↓STP, STQ, ne_eq, implies_true, forall_const, if_false, if_true, reduceCtorEq, ↓reduceIte, Nat.reduceEqDiff, Nat.reduceAdd, Int.reduceEq, Int.reduceLT, Int.reduceLE, Int.reduceNeg, Int.reduceAdd, Int.reduceSub, Int.reduceMul, Int.reduceToNat, Nat.reduceMul, Nat.reduceSub, Nat.reduceLT, Nat.reduceLeDiff, eq_false c0, eq_false c1]
  have hx0 : x0 < p := by omega
  have hx1 : x1 < p := by omega
  have hp2 : 2 < p := by rcases hs with ⟨rfl, _⟩ | ⟨rfl, _⟩ | ⟨rfl, _⟩ | ⟨rfl, _⟩ | ⟨rfl, _⟩ | ⟨rfl, _⟩ | ⟨rfl, _⟩ <;> decide
  have t0 := Bool.toNat_le b0
  have t1 := Bool.toNat_le b1
  have t2 := Bool.toNat_le b2
  refine new12 (p := p) fun hA FA bA oA nA => ?_
  simp -dsimp -implicitDefEqProofs only [↓STP, STQ, ne_eq, implies_true, forall_const, if_false, if_true, reduceCtorEq, ↓reduceIte, Nat.reduceEqDiff, Nat.reduceAdd, Int.reduceEq, Int.reduceLT, Int.reduceLE, Int.reduceNeg, Int.reduceAdd, Int.reduceSub, Int.reduceMul, Int.reduceToNat, Nat.reduceMul, Nat.reduceSub, Nat.reduceLT, Nat.reduceLeDiff]
  have g0 : Rgt p q [[b0.toNat, b1.toNat, b2.toNat], [x0, x1]] [] [] := good_nil hs
  have hp0 := g0.p0
  refine ins_g (f := 1) (ws := [b0.toNat, b1.toNat, b2.toNat]) ⟨bA, g0, by simp⟩ (by decide) (by simp) (by decide) (by decide) (fun j hj => by
    match j, hj with
    | 0, _ => rfl
    | 1, _ => rfl
    | 2, _ => rfl) (by simp; omega) fun h1 F1 g1 v1 c hc b1' e1 w1 => ?_
  rw [show Xs (List.range' ([] : List Gt).length [b0.toNat, b1.toNat, b2.toNat].length) = [I 0, I 1, I 2] from rfl]
  have l1 := w1.len
  simp only [List.length_nil, Nat.zero_add, List.length_cons] at l1
  have c1 := w1.inp
  simp only [List.length_cons, List.length_nil] at c1
  have va : v1.getD 0 0 = b0.toNat := w1.val 0 (by simp)
  have vb : v1.getD 1 0 = b1.toNat := w1.val 1 (by simp)
  have vc : v1.getD 2 0 = b2.toNat := w1.val 2 (by simp)
  rcases hc with rfl | rfl
  all_goals
    simp -dsimp -implicitDefEqProofs only [↓STP, STQ, ne_eq, implies_true, forall_const, if_false, if_true, reduceCtorEq, ↓reduceIte, Nat.reduceEqDiff, Nat.reduceAdd, Int.reduceEq, Int.reduceLT, Int.reduceLE, Int.reduceNeg, Int.reduceAdd, Int.reduceSub, Int.reduceMul, Int.reduceToNat, Nat.reduceMul, Nat.reduceSub, Nat.reduceLT, Nat.reduceLeDiff]
    refine input_g (bit := false) (f := 2) (x := x0) ⟨b1', w1.good, by omega⟩ (by decide) (by decide) (by rw [c1 2]; simp [cnt]) hx0 (by simp) fun h2 F2 g2 v2 b2' e2 w2 => ?_
    simp -dsimp -implicitDefEqProofs only [↓STP, STQ, ne_eq, implies_true, forall_const, if_false, if_true, reduceCtorEq, ↓reduceIte, Nat.reduceEqDiff, Nat.reduceAdd, Int.reduceEq, Int.reduceLT, Int.reduceLE, Int.reduceNeg, Int.reduceAdd, Int.reduceSub, Int.reduceMul, Int.reduceToNat, Nat.reduceMul, Nat.reduceSub, Nat.reduceLT, Nat.reduceLeDiff]
    have l2 := w2.len
    have c2 := w2.inp
    refine input_g (bit := false) (f := 2) (x := x1) ⟨b2', w2.good, by omega⟩ (by decide) (by decide) (by rw [c2 2, c1 2]; simp [cnt]) hx1 (by simp) fun h3 F3 g3 v3 b3 e3 w3 => ?_
    have l3 := w3.len
    have c3 := w3.inp
    rw [l1] at l2 ⊢
    rw [l2] at l3 ⊢
    have va3 : v3.getD 0 0 = b0.toNat := by rw [w3.pre 0 (by omega), w2.pre 0 (by omega), va]
    have vb3 : v3.getD 1 0 = b1.toNat := by rw [w3.pre 1 (by omega), w2.pre 1 (by omega), vb]
    have vc3 : v3.getD 2 0 = b2.toNat := by rw [w3.pre 2 (by omega), w2.pre 2 (by omega), vc]
    have vx3 : v3.getD 3 0 = x0 := by rw [w3.pre 3 (by omega)]; have := w2.val; rw [l1] at this; exact this
    have vy3 : v3.getD 4 0 = x1 := by have := w3.val; rw [l2] at this; exact this
    simp -dsimp -implicitDefEqProofs only [↓STP, STQ, ne_eq, implies_true, forall_const, if_false, if_true, reduceCtorEq, ↓reduceIte, Nat.reduceEqDiff, Nat.reduceAdd, Int.reduceEq, Int.reduceLT, Int.reduceLE, Int.reduceNeg, Int.reduceAdd, Int.reduceSub, Int.reduceMul, Int.reduceToNat, Nat.reduceMul, Nat.reduceSub, Nat.reduceLT, Nat.reduceLeDiff, takeL]
    refine words_spec (l := [b0, b1, b2]) (c := .full) rfl (by simp) fun cw hcw => ?_
    rw [show Ws ([b0, b1, b2].map Bool.toNat) = [W b0.toNat, W b1.toNat, W b2.toNat] from rfl]
    rcases hcw with rfl | rfl
    all_goals
      simp -dsimp -implicitDefEqProofs only [↓STP, STQ, ne_eq, implies_true, forall_const, if_false, if_true, reduceCtorEq, ↓reduceIte, Nat.reduceEqDiff, Nat.reduceAdd, Int.reduceEq, Int.reduceLT, Int.reduceLE, Int.reduceNeg, Int.reduceAdd, Int.reduceSub, Int.reduceMul, Int.reduceToNat, Nat.reduceMul, Nat.reduceSub, Nat.reduceLT, Nat.reduceLeDiff]
      refine not_g (x := 0) ⟨b3, w3.good, by omega⟩ (by omega) (by omega) fun h4 F4 g4 v4 i4 b4 e4 w4 k4 x4 => ?_
      simp -dsimp -implicitDefEqProofs only [↓STP, STQ, ne_eq, implies_true, forall_const, if_false, if_true, reduceCtorEq, ↓reduceIte, Nat.reduceEqDiff, Nat.reduceAdd, Int.reduceEq, Int.reduceLT, Int.reduceLE, Int.reduceNeg, Int.reduceAdd, Int.reduceSub, Int.reduceMul, Int.reduceToNat, Nat.reduceMul, Nat.reduceSub, Nat.reduceLT, Nat.reduceLeDiff]
      have l4 := w4.len
      rw [va3, not_val hp2] at x4
      refine output14 b4 (by simp) fun h5 F5 b5 e5 => ?_
      simp -dsimp -implicitDefEqProofs only [↓STP, STQ, ne_eq, implies_true, forall_const, if_false, if_true, reduceCtorEq, ↓reduceIte, Nat.reduceEqDiff, Nat.reduceAdd, Int.reduceEq, Int.reduceLT, Int.reduceLE, Int.reduceNeg, Int.reduceAdd, Int.reduceSub, Int.reduceMul, Int.reduceToNat, Nat.reduceMul, Nat.reduceSub, Nat.reduceLT, Nat.reduceLeDiff]
      have o5 := Bo.nil.snoc k4 x4
      have va4 : v4.getD 0 0 = b0.toNat := by rw [w4.pre 0 (by omega), va3]
      have vb4 : v4.getD 1 0 = b1.toNat := by rw [w4.pre 1 (by omega), vb3]
      refine and_g (x := 0) (y := 1) ⟨b5, w4.good, by omega⟩ (by omega) (by omega) fun h6 F6 g6 v6 i6 b6 e6 w6 k6 x6 => ?_
      simp -dsimp -implicitDefEqProofs only [↓STP, STQ, ne_eq, implies_true, forall_const, if_false, if_true, reduceCtorEq, ↓reduceIte, Nat.reduceEqDiff, Nat.reduceAdd, Int.reduceEq, Int.reduceLT, Int.reduceLE, Int.reduceNeg, Int.reduceAdd, Int.reduceSub, Int.reduceMul, Int.reduceToNat, Nat.reduceMul, Nat.reduceSub, Nat.reduceLT, Nat.reduceLeDiff]
      have l6 := w6.len
      rw [va4, vb4, and_val hp2] at x6
      refine output14 b6 (by simp) fun h7 F7 b7 e7 => ?_
      simp -dsimp -implicitDefEqProofs only [↓STP, STQ, ne_eq, implies_true, forall_const, if_false, if_true, reduceCtorEq, ↓reduceIte, Nat.reduceEqDiff, Nat.reduceAdd, Int.reduceEq, Int.reduceLT, Int.reduceLE, Int.reduceNeg, Int.reduceAdd, Int.reduceSub, Int.reduceMul, Int.reduceToNat, Nat.reduceMul, Nat.reduceSub, Nat.reduceLT, Nat.reduceLeDiff]
      have o7 := (o5.grow w6).snoc k6 x6
      have va6 : v6.getD 0 0 = b0.toNat := by rw [w6.pre 0 (by omega), va4]
      have vb6 : v6.getD 1 0 = b1.toNat := by rw [w6.pre 1 (by omega), vb4]
      refine or_g (x := 0) (y := 1) ⟨b7, w6.good, by omega⟩ (by omega) (by omega) (by omega) fun h8 F8 g8 v8 i8 b8 e8 w8 k8 x8 => ?_
      simp -dsimp -implicitDefEqProofs only [↓STP, STQ, ne_eq, implies_true, forall_const, if_false, if_true, reduceCtorEq, ↓reduceIte, Nat.reduceEqDiff, Nat.reduceAdd, Int.reduceEq, Int.reduceLT, Int.reduceLE, Int.reduceNeg, Int.reduceAdd, Int.reduceSub, Int.reduceMul, Int.reduceToNat, Nat.reduceMul, Nat.reduceSub, Nat.reduceLT, Nat.reduceLeDiff]
      have l8 := w8.len
      rw [va6, vb6, or_val hp2] at x8
      refine output14 b8 (by simp) fun h9 F9 b9 e9 => ?_
      simp -dsimp -implicitDefEqProofs only [↓STP, STQ, ne_eq, implies_true, forall_const, if_false, if_true, reduceCtorEq, ↓reduceIte, Nat.reduceEqDiff, Nat.reduceAdd, Int.reduceEq, Int.reduceLT, Int.reduceLE, Int.reduceNeg, Int.reduceAdd, Int.reduceSub, Int.reduceMul, Int.reduceToNat, Nat.reduceMul, Nat.reduceSub, Nat.reduceLT, Nat.reduceLeDiff]
      have o9 := (o7.grow w8).snoc k8 x8
      have va8 : v8.getD 0 0 = b0.toNat := by rw [w8.pre 0 (by omega), va6]
      have vb8 : v8.getD 1 0 = b1.toNat := by rw [w8.pre 1 (by omega), vb6]
      refine xor_g (x := 0) (y := 1) ⟨b9, w8.good, by omega⟩ (by omega) (by omega) (by omega) fun h10 F10 g10 v10 i10 b10 e10 w10 k10 x10 => ?_
      simp -dsimp -implicitDefEqProofs only [↓STP, STQ, ne_eq, implies_true, forall_const, if_false, if_true, reduceCtorEq, ↓reduceIte, Nat.reduceEqDiff, Nat.reduceAdd, Int.reduceEq, Int.reduceLT, Int.reduceLE, Int.reduceNeg, Int.reduceAdd, Int.reduceSub, Int.reduceMul, Int.reduceToNat, Nat.reduceMul, Nat.reduceSub, Nat.reduceLT, Nat.reduceLeDiff]
      have l10 := w10.len
      rw [va8, vb8, xor_val hp2] at x10
      refine output14 b10 (by simp) fun h11 F11 b11 e11 => ?_
      simp -dsimp -implicitDefEqProofs only [↓STP, STQ, ne_eq, implies_true, forall_const, if_false, if_true, reduceCtorEq, ↓reduceIte, Nat.reduceEqDiff, Nat.reduceAdd, Int.reduceEq, Int.reduceLT, Int.reduceLE, Int.reduceNeg, Int.reduceAdd, Int.reduceSub, Int.reduceMul, Int.reduceToNat, Nat.reduceMul, Nat.reduceSub, Nat.reduceLT, Nat.reduceLeDiff]
      have o11 := (o9.grow w10).snoc k10 x10
      have vc10 : v10.getD 2 0 = b2.toNat := by rw [w10.pre 2 (by omega), w8.pre 2 (by omega), w6.pre 2 (by omega), w4.pre 2 (by omega), vc3]
      have vx10 : v10.getD 3 0 = x0 := by rw [w10.pre 3 (by omega), w8.pre 3 (by omega), w6.pre 3 (by omega), w4.pre 3 (by omega), vx3]
      have vy10 : v10.getD 4 0 = x1 := by rw [w10.pre 4 (by omega), w8.pre 4 (by omega), w6.pre 4 (by omega), w4.pre 4 (by omega), vy3]
      refine select_g (c := 2) (x := 3) (y := 4) ⟨b11, w10.good, by omega⟩ (by omega) (by omega) (by omega) (by omega) fun h12 F12 g12 v12 i12 b12 e12 w12 k12 x12 => ?_
      simp -dsimp -implicitDefEqProofs only [↓STP, STQ, ne_eq, implies_true, forall_const, if_false, if_true, reduceCtorEq, ↓reduceIte, Nat.reduceEqDiff, Nat.reduceAdd, Int.reduceEq, Int.reduceLT, Int.reduceLE, Int.reduceNeg, Int.reduceAdd, Int.reduceSub, Int.reduceMul, Int.reduceToNat, Nat.reduceMul, Nat.reduceSub, Nat.reduceLT, Nat.reduceLeDiff]
      have l12 := w12.len
      rw [vc10, vx10, vy10, sel_val hp2 hx0 hx1] at x12
      refine output14 b12 (by simp) fun h13 F13 b13 e13 => ?_
      simp -dsimp -implicitDefEqProofs only [↓STP, STQ, ne_eq, implies_true, forall_const, if_false, if_true, reduceCtorEq, ↓reduceIte, Nat.reduceEqDiff, Nat.reduceAdd, Int.reduceEq, Int.reduceLT, Int.reduceLE, Int.reduceNeg, Int.reduceAdd, Int.reduceSub, Int.reduceMul, Int.reduceToNat, Nat.reduceMul, Nat.reduceSub, Nat.reduceLT, Nat.reduceLeDiff]
      have o13 := (o11.grow w12).snoc k12 x12
      refine op3 t0 ?_
      simp -dsimp -implicitDefEqProofs only [↓STP, STQ, ne_eq, implies_true, forall_const, if_false, if_true, reduceCtorEq, ↓reduceIte, Nat.reduceEqDiff, Nat.reduceAdd, Int.reduceEq, Int.reduceLT, Int.reduceLE, Int.reduceNeg, Int.reduceAdd, Int.reduceSub, Int.reduceMul, Int.reduceToNat, Nat.reduceMul, Nat.reduceSub, Nat.reduceLT, Nat.reduceLeDiff]
      refine op4 t0 t1 ?_
      simp -dsimp -implicitDefEqProofs only [↓STP, STQ, ne_eq, implies_true, forall_const, if_false, if_true, reduceCtorEq, ↓reduceIte, Nat.reduceEqDiff, Nat.reduceAdd, Int.reduceEq, Int.reduceLT, Int.reduceLE, Int.reduceNeg, Int.reduceAdd, Int.reduceSub, Int.reduceMul, Int.reduceToNat, Nat.reduceMul, Nat.reduceSub, Nat.reduceLT, Nat.reduceLeDiff]
      refine op5 t0 t1 ?_
      simp -dsimp -implicitDefEqProofs only [↓STP, STQ, ne_eq, implies_true, forall_const, if_false, if_true, reduceCtorEq, ↓reduceIte, Nat.reduceEqDiff, Nat.reduceAdd, Int.reduceEq, Int.reduceLT, Int.reduceLE, Int.reduceNeg, Int.reduceAdd, Int.reduceSub, Int.reduceMul, Int.reduceToNat, Nat.reduceMul, Nat.reduceSub, Nat.reduceLT, Nat.reduceLeDiff]
      refine op6 t0 t1 ?_
      simp -dsimp -implicitDefEqProofs only [↓STP, STQ, ne_eq, implies_true, forall_const, if_false, if_true, reduceCtorEq, ↓reduceIte, Nat.reduceEqDiff, Nat.reduceAdd, Int.reduceEq, Int.reduceLT, Int.reduceLE, Int.reduceNeg, Int.reduceAdd, Int.reduceSub, Int.reduceMul, Int.reduceToNat, Nat.reduceMul, Nat.reduceSub, Nat.reduceLT, Nat.reduceLeDiff]
      refine op7 ?_
      simp -dsimp -implicitDefEqProofs only [↓STP, STQ, ne_eq, implies_true, forall_const, if_false, if_true, reduceCtorEq, ↓reduceIte, Nat.reduceEqDiff, Nat.reduceAdd, Int.reduceEq, Int.reduceLT, Int.reduceLE, Int.reduceNeg, Int.reduceAdd, Int.reduceSub, Int.reduceMul, Int.reduceToNat, Nat.reduceMul, Nat.reduceSub, Nat.reduceLT, Nat.reduceLeDiff]
      have cc : ∀ f, cnt g12 f = cnt [] f + (if f = 1 then 3 else 0) + (if f = 2 then 1 else 0) + (if f = 2 then 1 else 0) := fun f => by
        rw [w12.inp, w10.inp, w8.inp, w6.inp, w4.inp, c3, c2, c1]
      have hfit : FitsC p g12 [[b0.toNat, b1.toNat, b2.toNat], [x0, x1]] := fits_of w12.good (by simp) (cnt_two (by rw [cc]; rfl) (by rw [cc]; rfl) (fun f h1 h2 => by rw [cc]; simp [h1, h2, cnt])) (by simp; omega)
      have hmul : muls g12 = 4 := by rw [w12.mul, w10.mul, w8.mul, w6.mul, w4.mul, w3.mul, w2.mul, w1.mul]; rfl
      refine circuit23 b13 (by omega) (by simp) fun v hv => ?_
      have hv0 := hv
      obtain ⟨q1, q2, hq1, hq2, rfl⟩ := hv
      simp -dsimp -implicitDefEqProofs only [↓STP, STQ, ne_eq, implies_true, forall_const, if_false, if_true, reduceCtorEq, ↓reduceIte, Nat.reduceEqDiff, Nat.reduceAdd, Int.reduceEq, Int.reduceLT, Int.reduceLE, Int.reduceNeg, Int.reduceAdd, Int.reduceSub, Int.reduceMul, Int.reduceToNat, Nat.reduceMul, Nat.reduceSub, Nat.reduceLT, Nat.reduceLeDiff, out_sh hq1, out_sh hq2]
      refine tells_spec (xs := [1 - b0.toNat, b0.toNat * b1.toNat, b0.toNat + b1.toNat - b0.toNat * b1.toNat, b0.toNat + b1.toNat - 2 * b0.toNat * b1.toNat, if b2.toNat = 1 then x0 else x1]) rfl hv0 w12.good (by omega) (by simp) o13 hfit (lists2 (a := [b0.toNat, b1.toNat, b2.toNat]) (b := [x0, x1]) (c := .full) (c2 := .full) rfl (by rfl) rfl) fun h' hn' ho' => ?_
      simp -dsimp -implicitDefEqProofs only [↓STP, STQ, ne_eq, implies_true, forall_const, if_false, if_true, reduceCtorEq, ↓reduceIte, Nat.reduceEqDiff, Nat.reduceAdd, Int.reduceEq, Int.reduceLT, Int.reduceLE, Int.reduceNeg, Int.reduceAdd, Int.reduceSub, Int.reduceMul, Int.reduceToNat, Nat.reduceMul, Nat.reduceSub, Nat.reduceLT, Nat.reduceLeDiff]
      refine circuit23 (b13.frame (by omega) (fun j hj _ => ho' j hj)) (by omega) (by simp) fun v' hv' => ?_
      have hv0' := hv'
      obtain ⟨r1, r2, hr1, hr2, rfl⟩ := hv'
      simp -dsimp -implicitDefEqProofs only [↓STP, STQ, ne_eq, implies_true, forall_const, if_false, if_true, reduceCtorEq, ↓reduceIte, Nat.reduceEqDiff, Nat.reduceAdd, Int.reduceEq, Int.reduceLT, Int.reduceLE, Int.reduceNeg, Int.reduceAdd, Int.reduceSub, Int.reduceMul, Int.reduceToNat, Nat.reduceMul, Nat.reduceSub, Nat.reduceLT, Nat.reduceLeDiff, out_sh hr1, out_sh hr2]
      refine muls_spec hv0' (by omega) ?_
      rw [hmul]
      simp -dsimp -implicitDefEqProofs only [↓STP, STQ, ne_eq, implies_true, forall_const, if_false, if_true, reduceCtorEq, ↓reduceIte, Nat.reduceEqDiff, Nat.reduceAdd, Int.reduceEq, Int.reduceLT, Int.reduceLE, Int.reduceNeg, Int.reduceAdd, Int.reduceSub, Int.reduceMul, Int.reduceToNat, Nat.reduceMul, Nat.reduceSub, Nat.reduceLT, Nat.reduceLeDiff]

end
end Go.Ab.Ytgfnhkedfmnijaa
