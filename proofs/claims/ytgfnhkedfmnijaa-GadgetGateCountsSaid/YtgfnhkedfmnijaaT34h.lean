/- Chapter 34: the numbers of gates: the statement. -/
import Derived.Test.YtgfnhkedfmnijaaT34g
set_option linter.unusedVariables false
set_option linter.unusedSimpArgs false
namespace Go.Ab.Ytgfnhkedfmnijaa

section
variable {h : H} {K : Out → H → Prop} {id p q : Nat} {F : Nat → Prop} {gs : List Gt} {vs : List Nat} {outs : List Int} {ls : List (List Nat)} {xs : List Nat}

/-- At most so many products and gates for a call of a kind. -/
def costM (k a c : Nat) : Nat := if k = 0 then 2 * max a c else if k = 1 then 2 * max a c + a else if k = 2 then 3 * a * c else if k = 3 then 2 * max a c else if k = 4 then 2 * max a c else 0
def costN (k a c : Nat) : Nat := if k = 0 then 9 * max a c + 2 else if k = 1 then 11 * max a c + a + 4 else if k = 2 then 10 * a * c + 2 * (a + c) + 1 else if k = 3 then 7 * max a c + 2 else if k = 4 then 7 * max a c + 2 else 2 * a + 1

theorem zeros_get {a : Nat} : ∀ j, (hj : j < (List.replicate a 0).length) → (List.replicate a 0 : List Nat)[j]? = some (List.replicate a 0)[j] := fun j hj => List.getElem?_eq_getElem hj
theorem zeros_le {a : Nat} : ∀ w ∈ List.replicate a 0, w ≤ 1 := by
  intro w hw
  rw [List.eq_of_mem_replicate hw]; decide

set_option maxHeartbeats 4000000 in
theorem costs_spec {k a c : Nat} (hs : Supp p q) (hk : k ≤ 5) (ha : a ≤ 16) (hc : c ≤ 16) (hK : ∀ h' (m n : Nat), m ≤ costM k a c → n ≤ costN k a c → K (.ret (.tuple [I m, I n])) h') :
    R 67 [W p, I k, I a, I c] h K := by
  refine run67 (Nat.le_of_ble_eq_true rfl) ?_
  simp -dsimp -implicitDefEqProofs only [↓STP, STQ, ne_eq, implies_true, forall_const, if_false, if_true, reduceCtorEq, ↓reduceIte, Nat.reduceEqDiff, Nat.reduceAdd, Int.reduceEq, Int.reduceLT, Int.reduceLE, Int.reduceNeg, Int.reduceAdd, Int.reduceSub, Int.reduceMul, Int.reduceToNat, Nat.reduceMul, Nat.reduceSub, Nat.reduceLT, Nat.reduceLeDiff, ir67]
  generalize hu : List.replicate a 0 = u
  generalize hv : List.replicate c 0 = v
  have hub : ∀ w ∈ u, w ≤ 1 := by rw [← hu]; exact zeros_le
  have hvb : ∀ w ∈ v, w ≤ 1 := by rw [← hv]; exact zeros_le
  have hul : u.length = a := by rw [← hu, List.length_replicate]
  have hvl : v.length = c := by rw [← hv, List.length_replicate]
  have g0 : Rgt p q [u, v] [] [] := good_nil hs
  refine new12 (p := p) fun hA FA bA oA nA => ?_
  simp -dsimp -implicitDefEqProofs only [↓STP, STQ, ne_eq, implies_true, forall_const, if_false, if_true, reduceCtorEq, ↓reduceIte, Nat.reduceEqDiff, Nat.reduceAdd, Int.reduceEq, Int.reduceLT, Int.reduceLE, Int.reduceNeg, Int.reduceAdd, Int.reduceSub, Int.reduceMul, Int.reduceToNat, Nat.reduceMul, Nat.reduceSub, Nat.reduceLT, Nat.reduceLeDiff]
  rw [← hul]
  refine ins_g (f := 1) (ws := u) ⟨bA, g0, by simp⟩ (by decide) (by omega) (by decide) (by decide) (fun j hj => by simp [cnt, hj]) hub fun h1 F1 g1 v1 b1 e1 w1 => ?_
  have l1 := w1.len
  simp only [List.length_nil, Nat.zero_add] at l1
  simp -dsimp -implicitDefEqProofs only [↓STP, STQ, ne_eq, implies_true, forall_const, if_false, if_true, reduceCtorEq, ↓reduceIte, Nat.reduceEqDiff, Nat.reduceAdd, Int.reduceEq, Int.reduceLT, Int.reduceLE, Int.reduceNeg, Int.reduceAdd, Int.reduceSub, Int.reduceMul, Int.reduceToNat, Nat.reduceMul, Nat.reduceSub, Nat.reduceLT, Nat.reduceLeDiff]
  rw [← hvl]
  refine ins_g (f := 2) (ws := v) ⟨b1, w1.good, by omega⟩ (by omega) (by omega) (by decide) (by decide) (fun j hj => by rw [w1.inp]; simp [cnt, hj]) hvb fun h2 F2 g2 v2 b2 e2 w2 => ?_
  have r := rows2 w1 w2
  have l2 := r.len
  rw [l1]
  have bu := rowBits (gs := g2) (n0 := 0) (by omega) r.val1 hub
  have bv := rowBits (gs := g2) (n0 := u.length) (by omega) r.val2 hvb
  have hmul : 10 * u.length * v.length ≤ 10 * 16 * 16 := Nat.mul_le_mul (Nat.mul_le_mul_left _ (by omega)) (by omega)
  have bd2 : Bd h2 h.next F2 p q [u, v] g2 v2 [] := ⟨b2, r.good, by omega⟩
  have fin : ∀ {m n : Nat} {g3 : List Gt} {v3 : List Nat}, Grew p q [u, v] g2 v2 m n g3 v3 → g3.length - u.length - v.length = n ∧ u.length ≤ g3.length ∧ v.length ≤ g3.length - u.length ∧ muls g3 = m := fun w => by
    have h1 := w.len
    have h2 := w.mul
    rw [r.mul] at h2
    omega
  have kk : k = 0 ∨ k = 1 ∨ k = 2 ∨ k = 3 ∨ k = 4 ∨ k = 5 := by omega
  rcases kk with hk0 | hk0 | hk0 | hk0 | hk0 | hk0
  · simp -dsimp -implicitDefEqProofs only [↓STP, STQ, ne_eq, implies_true, forall_const, if_false, if_true, reduceCtorEq, ↓reduceIte, Nat.reduceEqDiff, Nat.reduceAdd, Int.reduceEq, Int.reduceLT, Int.reduceLE, Int.reduceNeg, Int.reduceAdd, Int.reduceSub, Int.reduceMul, Int.reduceToNat, Nat.reduceMul, Nat.reduceSub, Nat.reduceLT, Nat.reduceLeDiff, eq_true (show (k : Int) = 0 by omega)]
    refine addBits_g (lx := List.range' 0 u.length) (ly := List.range' u.length v.length) bd2 (by omega) (by rw [List.length_range']; omega) (by rw [List.length_range']; omega) bu bv fun h3 F3 g3 v3 e rs he b3 e3 w3 rb x3 rl => ?_
    rw [List.length_range', List.length_range'] at w3
    obtain ⟨f1, f2, f3, f4⟩ := fin w3
    have b1 : muls g3 ≤ costM k u.length v.length := by rw [hk0]; show _ ≤ 2 * max u.length v.length; omega
    have b2 : g3.length - u.length - v.length ≤ costN k u.length v.length := by rw [hk0]; show _ ≤ 9 * max u.length v.length + 2; omega
    have glen : g3.length ≤ 20000 := by have := w3.len; omega
    have wa : IntKind.i64.wrap ((g3.length : Int) - (u.length : Int)) = ((g3.length - u.length : Nat) : Int) := by rw [wrap_i64] <;> omega
    have wb : IntKind.i64.wrap (((g3.length - u.length : Nat) : Int) - (v.length : Int)) = ((g3.length - u.length - v.length : Nat) : Int) := by rw [wrap_i64] <;> omega
    simp -dsimp -implicitDefEqProofs only [↓STP, STQ, ne_eq, implies_true, forall_const, if_false, if_true, reduceCtorEq, ↓reduceIte, Nat.reduceEqDiff, Nat.reduceAdd, Int.reduceEq, Int.reduceLT, Int.reduceLE, Int.reduceNeg, Int.reduceAdd, Int.reduceSub, Int.reduceMul, Int.reduceToNat, Nat.reduceMul, Nat.reduceSub, Nat.reduceLT, Nat.reduceLeDiff]
    refine circuit23 b3 (by omega) (by simp) ?_
    simp -dsimp -implicitDefEqProofs only [↓STP, STQ, ne_eq, implies_true, forall_const, if_false, if_true, reduceCtorEq, ↓reduceIte, Nat.reduceEqDiff, Nat.reduceAdd, Int.reduceEq, Int.reduceLT, Int.reduceLE, Int.reduceNeg, Int.reduceAdd, Int.reduceSub, Int.reduceMul, Int.reduceToNat, Nat.reduceMul, Nat.reduceSub, Nat.reduceLT, Nat.reduceLeDiff, circV, storeV]
    refine muls_spec (outs := []) (show _ = circV p g3 [] from rfl) glen ?_
    simp -dsimp -implicitDefEqProofs only [↓STP, STQ, ne_eq, implies_true, forall_const, if_false, if_true, reduceCtorEq, ↓reduceIte, Nat.reduceEqDiff, Nat.reduceAdd, Int.reduceEq, Int.reduceLT, Int.reduceLE, Int.reduceNeg, Int.reduceAdd, Int.reduceSub, Int.reduceMul, Int.reduceToNat, Nat.reduceMul, Nat.reduceSub, Nat.reduceLT, Nat.reduceLeDiff, List.length_map, wa, wb]
    exact hK h3 _ _ (by rw [← hul, ← hvl]; exact b1) (by rw [← hul, ← hvl]; exact b2)
  · simp -dsimp -implicitDefEqProofs only [↓STP, STQ, ne_eq, implies_true, forall_const, if_false, if_true, reduceCtorEq, ↓reduceIte, Nat.reduceEqDiff, Nat.reduceAdd, Int.reduceEq, Int.reduceLT, Int.reduceLE, Int.reduceNeg, Int.reduceAdd, Int.reduceSub, Int.reduceMul, Int.reduceToNat, Nat.reduceMul, Nat.reduceSub, Nat.reduceLT, Nat.reduceLeDiff, eq_false (show ¬ (k : Int) = 0 by omega), eq_true (show (k : Int) = 1 by omega)]
    refine subBits_g (lx := List.range' 0 u.length) (ly := List.range' u.length v.length) bd2 (by omega) (by rw [List.length_range']; omega) (by rw [List.length_range']; omega) bu bv fun h3 F3 g3 v3 e rs he b3 e3 w3 rb x3 rl => ?_
    rw [List.length_range', List.length_range'] at w3
    obtain ⟨f1, f2, f3, f4⟩ := fin w3
    have b1 : muls g3 ≤ costM k u.length v.length := by rw [hk0]; show _ ≤ 2 * max u.length v.length + u.length; omega
    have b2 : g3.length - u.length - v.length ≤ costN k u.length v.length := by rw [hk0]; show _ ≤ 11 * max u.length v.length + u.length + 4; omega
    have glen : g3.length ≤ 20000 := by have := w3.len; omega
    have wa : IntKind.i64.wrap ((g3.length : Int) - (u.length : Int)) = ((g3.length - u.length : Nat) : Int) := by rw [wrap_i64] <;> omega
    have wb : IntKind.i64.wrap (((g3.length - u.length : Nat) : Int) - (v.length : Int)) = ((g3.length - u.length - v.length : Nat) : Int) := by rw [wrap_i64] <;> omega
    simp -dsimp -implicitDefEqProofs only [↓STP, STQ, ne_eq, implies_true, forall_const, if_false, if_true, reduceCtorEq, ↓reduceIte, Nat.reduceEqDiff, Nat.reduceAdd, Int.reduceEq, Int.reduceLT, Int.reduceLE, Int.reduceNeg, Int.reduceAdd, Int.reduceSub, Int.reduceMul, Int.reduceToNat, Nat.reduceMul, Nat.reduceSub, Nat.reduceLT, Nat.reduceLeDiff]
    refine circuit23 b3 (by omega) (by simp) ?_
    simp -dsimp -implicitDefEqProofs only [↓STP, STQ, ne_eq, implies_true, forall_const, if_false, if_true, reduceCtorEq, ↓reduceIte, Nat.reduceEqDiff, Nat.reduceAdd, Int.reduceEq, Int.reduceLT, Int.reduceLE, Int.reduceNeg, Int.reduceAdd, Int.reduceSub, Int.reduceMul, Int.reduceToNat, Nat.reduceMul, Nat.reduceSub, Nat.reduceLT, Nat.reduceLeDiff, circV, storeV]
    refine muls_spec (outs := []) (show _ = circV p g3 [] from rfl) glen ?_
    simp -dsimp -implicitDefEqProofs only [↓STP, STQ, ne_eq, implies_true, forall_const, if_false, if_true, reduceCtorEq, ↓reduceIte, Nat.reduceEqDiff, Nat.reduceAdd, Int.reduceEq, Int.reduceLT, Int.reduceLE, Int.reduceNeg, Int.reduceAdd, Int.reduceSub, Int.reduceMul, Int.reduceToNat, Nat.reduceMul, Nat.reduceSub, Nat.reduceLT, Nat.reduceLeDiff, List.length_map, wa, wb]
    exact hK h3 _ _ (by rw [← hul, ← hvl]; exact b1) (by rw [← hul, ← hvl]; exact b2)
  · simp -dsimp -implicitDefEqProofs only [↓STP, STQ, ne_eq, implies_true, forall_const, if_false, if_true, reduceCtorEq, ↓reduceIte, Nat.reduceEqDiff, Nat.reduceAdd, Int.reduceEq, Int.reduceLT, Int.reduceLE, Int.reduceNeg, Int.reduceAdd, Int.reduceSub, Int.reduceMul, Int.reduceToNat, Nat.reduceMul, Nat.reduceSub, Nat.reduceLT, Nat.reduceLeDiff, eq_false (show ¬ (k : Int) = 0 by omega), eq_false (show ¬ (k : Int) = 1 by omega), eq_true (show (k : Int) = 2 by omega)]
    refine mulBits_g (lx := List.range' 0 u.length) (ly := List.range' u.length v.length) bd2 (by rw [List.length_range', List.length_range']; omega) (by rw [List.length_range']; omega) (by rw [List.length_range']; omega) bu bv fun h3 F3 g3 v3 rs gs3 rb x3 rl => ?_
    rw [List.length_range', List.length_range'] at gs3
    have b3 := gs3.bu
    obtain ⟨m, n, hm, hn, w3⟩ := gs3.gr
    obtain ⟨f1, f2, f3, f4⟩ := fin w3
    have b1 : muls g3 ≤ costM k u.length v.length := by rw [hk0]; show _ ≤ 3 * u.length * v.length; omega
    have b2 : g3.length - u.length - v.length ≤ costN k u.length v.length := by rw [hk0]; show _ ≤ 10 * u.length * v.length + 2 * (u.length + v.length) + 1; omega
    have glen : g3.length ≤ 20000 := by have := w3.len; omega
    have wa : IntKind.i64.wrap ((g3.length : Int) - (u.length : Int)) = ((g3.length - u.length : Nat) : Int) := by rw [wrap_i64] <;> omega
    have wb : IntKind.i64.wrap (((g3.length - u.length : Nat) : Int) - (v.length : Int)) = ((g3.length - u.length - v.length : Nat) : Int) := by rw [wrap_i64] <;> omega
    simp -dsimp -implicitDefEqProofs only [↓STP, STQ, ne_eq, implies_true, forall_const, if_false, if_true, reduceCtorEq, ↓reduceIte, Nat.reduceEqDiff, Nat.reduceAdd, Int.reduceEq, Int.reduceLT, Int.reduceLE, Int.reduceNeg, Int.reduceAdd, Int.reduceSub, Int.reduceMul, Int.reduceToNat, Nat.reduceMul, Nat.reduceSub, Nat.reduceLT, Nat.reduceLeDiff]
    refine circuit23 b3 (by omega) (by simp) ?_
    simp -dsimp -implicitDefEqProofs only [↓STP, STQ, ne_eq, implies_true, forall_const, if_false, if_true, reduceCtorEq, ↓reduceIte, Nat.reduceEqDiff, Nat.reduceAdd, Int.reduceEq, Int.reduceLT, Int.reduceLE, Int.reduceNeg, Int.reduceAdd, Int.reduceSub, Int.reduceMul, Int.reduceToNat, Nat.reduceMul, Nat.reduceSub, Nat.reduceLT, Nat.reduceLeDiff, circV, storeV]
    refine muls_spec (outs := []) (show _ = circV p g3 [] from rfl) glen ?_
    simp -dsimp -implicitDefEqProofs only [↓STP, STQ, ne_eq, implies_true, forall_const, if_false, if_true, reduceCtorEq, ↓reduceIte, Nat.reduceEqDiff, Nat.reduceAdd, Int.reduceEq, Int.reduceLT, Int.reduceLE, Int.reduceNeg, Int.reduceAdd, Int.reduceSub, Int.reduceMul, Int.reduceToNat, Nat.reduceMul, Nat.reduceSub, Nat.reduceLT, Nat.reduceLeDiff, List.length_map, wa, wb]
    exact hK h3 _ _ (by rw [← hul, ← hvl]; exact b1) (by rw [← hul, ← hvl]; exact b2)
  · simp -dsimp -implicitDefEqProofs only [↓STP, STQ, ne_eq, implies_true, forall_const, if_false, if_true, reduceCtorEq, ↓reduceIte, Nat.reduceEqDiff, Nat.reduceAdd, Int.reduceEq, Int.reduceLT, Int.reduceLE, Int.reduceNeg, Int.reduceAdd, Int.reduceSub, Int.reduceMul, Int.reduceToNat, Nat.reduceMul, Nat.reduceSub, Nat.reduceLT, Nat.reduceLeDiff, eq_false (show ¬ (k : Int) = 0 by omega), eq_false (show ¬ (k : Int) = 1 by omega), eq_false (show ¬ (k : Int) = 2 by omega), eq_true (show (k : Int) = 3 by omega)]
    refine less_g (lx := List.range' 0 u.length) (ly := List.range' u.length v.length) bd2 (by omega) (by rw [List.length_range']; omega) (by rw [List.length_range']; omega) bu bv fun h3 F3 g3 v3 e i3 he b3 e3 w3 k3 x3 => ?_
    rw [List.length_range', List.length_range'] at w3
    obtain ⟨f1, f2, f3, f4⟩ := fin w3
    have b1 : muls g3 ≤ costM k u.length v.length := by rw [hk0]; show _ ≤ 2 * max u.length v.length; omega
    have b2 : g3.length - u.length - v.length ≤ costN k u.length v.length := by rw [hk0]; show _ ≤ 7 * max u.length v.length + 2; omega
    have glen : g3.length ≤ 20000 := by have := w3.len; omega
    have wa : IntKind.i64.wrap ((g3.length : Int) - (u.length : Int)) = ((g3.length - u.length : Nat) : Int) := by rw [wrap_i64] <;> omega
    have wb : IntKind.i64.wrap (((g3.length - u.length : Nat) : Int) - (v.length : Int)) = ((g3.length - u.length - v.length : Nat) : Int) := by rw [wrap_i64] <;> omega
    simp -dsimp -implicitDefEqProofs only [↓STP, STQ, ne_eq, implies_true, forall_const, if_false, if_true, reduceCtorEq, ↓reduceIte, Nat.reduceEqDiff, Nat.reduceAdd, Int.reduceEq, Int.reduceLT, Int.reduceLE, Int.reduceNeg, Int.reduceAdd, Int.reduceSub, Int.reduceMul, Int.reduceToNat, Nat.reduceMul, Nat.reduceSub, Nat.reduceLT, Nat.reduceLeDiff]
    refine circuit23 b3 (by omega) (by simp) ?_
    simp -dsimp -implicitDefEqProofs only [↓STP, STQ, ne_eq, implies_true, forall_const, if_false, if_true, reduceCtorEq, ↓reduceIte, Nat.reduceEqDiff, Nat.reduceAdd, Int.reduceEq, Int.reduceLT, Int.reduceLE, Int.reduceNeg, Int.reduceAdd, Int.reduceSub, Int.reduceMul, Int.reduceToNat, Nat.reduceMul, Nat.reduceSub, Nat.reduceLT, Nat.reduceLeDiff, circV, storeV]
    refine muls_spec (outs := []) (show _ = circV p g3 [] from rfl) glen ?_
    simp -dsimp -implicitDefEqProofs only [↓STP, STQ, ne_eq, implies_true, forall_const, if_false, if_true, reduceCtorEq, ↓reduceIte, Nat.reduceEqDiff, Nat.reduceAdd, Int.reduceEq, Int.reduceLT, Int.reduceLE, Int.reduceNeg, Int.reduceAdd, Int.reduceSub, Int.reduceMul, Int.reduceToNat, Nat.reduceMul, Nat.reduceSub, Nat.reduceLT, Nat.reduceLeDiff, List.length_map, wa, wb]
    exact hK h3 _ _ (by rw [← hul, ← hvl]; exact b1) (by rw [← hul, ← hvl]; exact b2)
  · simp -dsimp -implicitDefEqProofs only [↓STP, STQ, ne_eq, implies_true, forall_const, if_false, if_true, reduceCtorEq, ↓reduceIte, Nat.reduceEqDiff, Nat.reduceAdd, Int.reduceEq, Int.reduceLT, Int.reduceLE, Int.reduceNeg, Int.reduceAdd, Int.reduceSub, Int.reduceMul, Int.reduceToNat, Nat.reduceMul, Nat.reduceSub, Nat.reduceLT, Nat.reduceLeDiff, eq_false (show ¬ (k : Int) = 0 by omega), eq_false (show ¬ (k : Int) = 1 by omega), eq_false (show ¬ (k : Int) = 2 by omega), eq_false (show ¬ (k : Int) = 3 by omega), eq_true (show (k : Int) = 4 by omega)]
    refine equal_g (lx := List.range' 0 u.length) (ly := List.range' u.length v.length) bd2 (by omega) (by rw [List.length_range']; omega) (by rw [List.length_range']; omega) bu bv fun h3 F3 g3 v3 e i3 he b3 e3 w3 k3 x3 => ?_
    rw [List.length_range', List.length_range'] at w3
    obtain ⟨f1, f2, f3, f4⟩ := fin w3
    have b1 : muls g3 ≤ costM k u.length v.length := by rw [hk0]; show _ ≤ 2 * max u.length v.length; omega
    have b2 : g3.length - u.length - v.length ≤ costN k u.length v.length := by rw [hk0]; show _ ≤ 7 * max u.length v.length + 2; omega
    have glen : g3.length ≤ 20000 := by have := w3.len; omega
    have wa : IntKind.i64.wrap ((g3.length : Int) - (u.length : Int)) = ((g3.length - u.length : Nat) : Int) := by rw [wrap_i64] <;> omega
    have wb : IntKind.i64.wrap (((g3.length - u.length : Nat) : Int) - (v.length : Int)) = ((g3.length - u.length - v.length : Nat) : Int) := by rw [wrap_i64] <;> omega
    simp -dsimp -implicitDefEqProofs only [↓STP, STQ, ne_eq, implies_true, forall_const, if_false, if_true, reduceCtorEq, ↓reduceIte, Nat.reduceEqDiff, Nat.reduceAdd, Int.reduceEq, Int.reduceLT, Int.reduceLE, Int.reduceNeg, Int.reduceAdd, Int.reduceSub, Int.reduceMul, Int.reduceToNat, Nat.reduceMul, Nat.reduceSub, Nat.reduceLT, Nat.reduceLeDiff]
    refine circuit23 b3 (by omega) (by simp) ?_
    simp -dsimp -implicitDefEqProofs only [↓STP, STQ, ne_eq, implies_true, forall_const, if_false, if_true, reduceCtorEq, ↓reduceIte, Nat.reduceEqDiff, Nat.reduceAdd, Int.reduceEq, Int.reduceLT, Int.reduceLE, Int.reduceNeg, Int.reduceAdd, Int.reduceSub, Int.reduceMul, Int.reduceToNat, Nat.reduceMul, Nat.reduceSub, Nat.reduceLT, Nat.reduceLeDiff, circV, storeV]
    refine muls_spec (outs := []) (show _ = circV p g3 [] from rfl) glen ?_
    simp -dsimp -implicitDefEqProofs only [↓STP, STQ, ne_eq, implies_true, forall_const, if_false, if_true, reduceCtorEq, ↓reduceIte, Nat.reduceEqDiff, Nat.reduceAdd, Int.reduceEq, Int.reduceLT, Int.reduceLE, Int.reduceNeg, Int.reduceAdd, Int.reduceSub, Int.reduceMul, Int.reduceToNat, Nat.reduceMul, Nat.reduceSub, Nat.reduceLT, Nat.reduceLeDiff, List.length_map, wa, wb]
    exact hK h3 _ _ (by rw [← hul, ← hvl]; exact b1) (by rw [← hul, ← hvl]; exact b2)
  · simp -dsimp -implicitDefEqProofs only [↓STP, STQ, ne_eq, implies_true, forall_const, if_false, if_true, reduceCtorEq, ↓reduceIte, Nat.reduceEqDiff, Nat.reduceAdd, Int.reduceEq, Int.reduceLT, Int.reduceLE, Int.reduceNeg, Int.reduceAdd, Int.reduceSub, Int.reduceMul, Int.reduceToNat, Nat.reduceMul, Nat.reduceSub, Nat.reduceLT, Nat.reduceLeDiff, eq_false (show ¬ (k : Int) = 0 by omega), eq_false (show ¬ (k : Int) = 1 by omega), eq_false (show ¬ (k : Int) = 2 by omega), eq_false (show ¬ (k : Int) = 3 by omega), eq_false (show ¬ (k : Int) = 4 by omega)]
    refine compose_g (l := List.range' 0 u.length) bd2 (by rw [List.length_range']; omega) (by omega) (fun x hx => (bu x hx).1) fun h3 F3 g3 v3 i3 b3 e3 w3 k3 x3 => ?_
    rw [List.length_range'] at w3
    obtain ⟨f1, f2, f3, f4⟩ := fin w3
    have b1 : muls g3 ≤ costM k u.length v.length := by rw [hk0]; show _ ≤ 0; omega
    have b2 : g3.length - u.length - v.length ≤ costN k u.length v.length := by rw [hk0]; show _ ≤ 2 * u.length + 1; omega
    have glen : g3.length ≤ 20000 := by have := w3.len; omega
    have wa : IntKind.i64.wrap ((g3.length : Int) - (u.length : Int)) = ((g3.length - u.length : Nat) : Int) := by rw [wrap_i64] <;> omega
    have wb : IntKind.i64.wrap (((g3.length - u.length : Nat) : Int) - (v.length : Int)) = ((g3.length - u.length - v.length : Nat) : Int) := by rw [wrap_i64] <;> omega
    simp -dsimp -implicitDefEqProofs only [↓STP, STQ, ne_eq, implies_true, forall_const, if_false, if_true, reduceCtorEq, ↓reduceIte, Nat.reduceEqDiff, Nat.reduceAdd, Int.reduceEq, Int.reduceLT, Int.reduceLE, Int.reduceNeg, Int.reduceAdd, Int.reduceSub, Int.reduceMul, Int.reduceToNat, Nat.reduceMul, Nat.reduceSub, Nat.reduceLT, Nat.reduceLeDiff]
    refine circuit23 b3 (by omega) (by simp) ?_
    simp -dsimp -implicitDefEqProofs only [↓STP, STQ, ne_eq, implies_true, forall_const, if_false, if_true, reduceCtorEq, ↓reduceIte, Nat.reduceEqDiff, Nat.reduceAdd, Int.reduceEq, Int.reduceLT, Int.reduceLE, Int.reduceNeg, Int.reduceAdd, Int.reduceSub, Int.reduceMul, Int.reduceToNat, Nat.reduceMul, Nat.reduceSub, Nat.reduceLT, Nat.reduceLeDiff, circV, storeV]
    refine muls_spec (outs := []) (show _ = circV p g3 [] from rfl) glen ?_
    simp -dsimp -implicitDefEqProofs only [↓STP, STQ, ne_eq, implies_true, forall_const, if_false, if_true, reduceCtorEq, ↓reduceIte, Nat.reduceEqDiff, Nat.reduceAdd, Int.reduceEq, Int.reduceLT, Int.reduceLE, Int.reduceNeg, Int.reduceAdd, Int.reduceSub, Int.reduceMul, Int.reduceToNat, Nat.reduceMul, Nat.reduceSub, Nat.reduceLT, Nat.reduceLeDiff, List.length_map, wa, wb]
    exact hK h3 _ _ (by rw [← hul, ← hvl]; exact b1) (by rw [← hul, ← hvl]; exact b2)

theorem cheap_spec {k a c M N : Nat} (hs : Supp p q) (hk : k ≤ 5) (ha : a ≤ 16) (hc : c ≤ 16) (hM : costM k a c ≤ M) (hN : costN k a c ≤ N) (hK : ∀ h', K (.ret (.bool true)) h') :
    R 46 [W p, I k, .agg [I a, I c], I M, I N] h K := by
  refine run46 (Nat.le_of_ble_eq_true rfl) ?_
  simp -dsimp -implicitDefEqProofs only [↓STP, STQ, ne_eq, implies_true, forall_const, if_false, if_true, reduceCtorEq, ↓reduceIte, Nat.reduceEqDiff, Nat.reduceAdd, Int.reduceEq, Int.reduceLT, Int.reduceLE, Int.reduceNeg, Int.reduceAdd, Int.reduceSub, Int.reduceMul, Int.reduceToNat, Nat.reduceMul, Nat.reduceSub, Nat.reduceLT, Nat.reduceLeDiff, ir46]
  refine costs_spec hs hk ha hc fun h' m n hm hn => ?_
  simp -dsimp -implicitDefEqProofs only [↓STP, STQ, ne_eq, implies_true, forall_const, if_false, if_true, reduceCtorEq, ↓reduceIte, Nat.reduceEqDiff, Nat.reduceAdd, Int.reduceEq, Int.reduceLT, Int.reduceLE, Int.reduceNeg, Int.reduceAdd, Int.reduceSub, Int.reduceMul, Int.reduceToNat, Nat.reduceMul, Nat.reduceSub, Nat.reduceLT, Nat.reduceLeDiff, eq_true (show (m : Int) ≤ (M : Int) by omega), eq_true (show (n : Int) ≤ (N : Int) by omega)]
  exact hK h'

set_option maxHeartbeats 4000000 in
theorem single_spec (hs : Supp p q) (hK : ∀ h', K (.ret (.bool true)) h') : R 45 [W p] h K := by
  refine run45 (Nat.le_of_ble_eq_true rfl) ?_
  have g0 : Rgt p q [[0, 0]] [] [] := good_nil hs
  have hp2 := g0.two
  simp -dsimp -implicitDefEqProofs only [↓STP, STQ, ne_eq, implies_true, forall_const, if_false, if_true, reduceCtorEq, ↓reduceIte, Nat.reduceEqDiff, Nat.reduceAdd, Int.reduceEq, Int.reduceLT, Int.reduceLE, Int.reduceNeg, Int.reduceAdd, Int.reduceSub, Int.reduceMul, Int.reduceToNat, Nat.reduceMul, Nat.reduceSub, Nat.reduceLT, Nat.reduceLeDiff, ir45]
  refine new12 (p := p) fun h0 F0 b0 o0 n0 => ?_
  simp -dsimp -implicitDefEqProofs only [↓STP, STQ, ne_eq, implies_true, forall_const, if_false, if_true, reduceCtorEq, ↓reduceIte, Nat.reduceEqDiff, Nat.reduceAdd, Int.reduceEq, Int.reduceLT, Int.reduceLE, Int.reduceNeg, Int.reduceAdd, Int.reduceSub, Int.reduceMul, Int.reduceToNat, Nat.reduceMul, Nat.reduceSub, Nat.reduceLT, Nat.reduceLeDiff]
  refine input_g (bit := true) (f := 1) (x := 0) ⟨b0, g0, by simp⟩ (by decide) (by decide) (by simp [cnt]) (by omega) (fun _ => by decide) fun h1 F1 g1 v1 b1 e1 w1 => ?_
  simp -dsimp -implicitDefEqProofs only [↓STP, STQ, ne_eq, implies_true, forall_const, if_false, if_true, reduceCtorEq, ↓reduceIte, Nat.reduceEqDiff, Nat.reduceAdd, Int.reduceEq, Int.reduceLT, Int.reduceLE, Int.reduceNeg, Int.reduceAdd, Int.reduceSub, Int.reduceMul, Int.reduceToNat, Nat.reduceMul, Nat.reduceSub, Nat.reduceLT, Nat.reduceLeDiff]
  have l1 := w1.len
  simp only [List.length_nil, Nat.zero_add] at l1
  have c1 := w1.inp
  refine input_g (bit := true) (f := 1) (x := 0) ⟨b1, w1.good, by omega⟩ (by decide) (by decide) (by rw [c1 1]; simp [cnt]) (by omega) (fun _ => by decide) fun h2 F2 g2 v2 b2 e2 w2 => ?_
  have l2 := w2.len
  rw [l1] at l2 ⊢
  simp -dsimp -implicitDefEqProofs only [↓STP, STQ, ne_eq, implies_true, forall_const, if_false, if_true, reduceCtorEq, ↓reduceIte, Nat.reduceEqDiff, Nat.reduceAdd, Int.reduceEq, Int.reduceLT, Int.reduceLE, Int.reduceNeg, Int.reduceAdd, Int.reduceSub, Int.reduceMul, Int.reduceToNat, Nat.reduceMul, Nat.reduceSub, Nat.reduceLT, Nat.reduceLeDiff]
  refine circuit23 b2 (by omega) (by simp) ?_
  simp -dsimp -implicitDefEqProofs only [↓STP, STQ, ne_eq, implies_true, forall_const, if_false, if_true, reduceCtorEq, ↓reduceIte, Nat.reduceEqDiff, Nat.reduceAdd, Int.reduceEq, Int.reduceLT, Int.reduceLE, Int.reduceNeg, Int.reduceAdd, Int.reduceSub, Int.reduceMul, Int.reduceToNat, Nat.reduceMul, Nat.reduceSub, Nat.reduceLT, Nat.reduceLeDiff, circV, List.length_map]
  refine not_g (x := 0) ⟨b2, w2.good, by omega⟩ (by omega) (by omega) fun h3 F3 g3 v3 i3 b3 e3 w3 k3 x3 => ?_
  have l3 := w3.len
  simp -dsimp -implicitDefEqProofs only [↓STP, STQ, ne_eq, implies_true, forall_const, if_false, if_true, reduceCtorEq, ↓reduceIte, Nat.reduceEqDiff, Nat.reduceAdd, Int.reduceEq, Int.reduceLT, Int.reduceLE, Int.reduceNeg, Int.reduceAdd, Int.reduceSub, Int.reduceMul, Int.reduceToNat, Nat.reduceMul, Nat.reduceSub, Nat.reduceLT, Nat.reduceLeDiff]
  refine circuit23 b3 (by omega) (by simp) ?_
  simp -dsimp -implicitDefEqProofs only [↓STP, STQ, ne_eq, implies_true, forall_const, if_false, if_true, reduceCtorEq, ↓reduceIte, Nat.reduceEqDiff, Nat.reduceAdd, Int.reduceEq, Int.reduceLT, Int.reduceLE, Int.reduceNeg, Int.reduceAdd, Int.reduceSub, Int.reduceMul, Int.reduceToNat, Nat.reduceMul, Nat.reduceSub, Nat.reduceLT, Nat.reduceLeDiff, circV, List.length_map]
  rw [app1_full (by simp [V.cells]) (sz := 1) rfl (by decide) (by decide) (by simp)]
  simp -dsimp -implicitDefEqProofs only [↓STP, STQ, ne_eq, implies_true, forall_const, if_false, if_true, reduceCtorEq, ↓reduceIte, Nat.reduceEqDiff, Nat.reduceAdd, Int.reduceEq, Int.reduceLT, Int.reduceLE, Int.reduceNeg, Int.reduceAdd, Int.reduceSub, Int.reduceMul, Int.reduceToNat, Nat.reduceMul, Nat.reduceSub, Nat.reduceLT, Nat.reduceLeDiff]
  refine and_g (x := 0) (y := 1) ⟨b3, w3.good, by omega⟩ (by omega) (by omega) fun h4 F4 g4 v4 i4 b4 e4 w4 k4 x4 => ?_
  have l4 := w4.len
  simp -dsimp -implicitDefEqProofs only [↓STP, STQ, ne_eq, implies_true, forall_const, if_false, if_true, reduceCtorEq, ↓reduceIte, Nat.reduceEqDiff, Nat.reduceAdd, Int.reduceEq, Int.reduceLT, Int.reduceLE, Int.reduceNeg, Int.reduceAdd, Int.reduceSub, Int.reduceMul, Int.reduceToNat, Nat.reduceMul, Nat.reduceSub, Nat.reduceLT, Nat.reduceLeDiff]
  refine circuit23 b4 (by omega) (by simp) ?_
  simp -dsimp -implicitDefEqProofs only [↓STP, STQ, ne_eq, implies_true, forall_const, if_false, if_true, reduceCtorEq, ↓reduceIte, Nat.reduceEqDiff, Nat.reduceAdd, Int.reduceEq, Int.reduceLT, Int.reduceLE, Int.reduceNeg, Int.reduceAdd, Int.reduceSub, Int.reduceMul, Int.reduceToNat, Nat.reduceMul, Nat.reduceSub, Nat.reduceLT, Nat.reduceLeDiff, circV, List.length_map]
  rw [app1_own (by simp) (by simp [V.cells]) (sz := 1) rfl (by decide) (by decide) (by simp)]
  simp -dsimp -implicitDefEqProofs only [↓STP, STQ, ne_eq, implies_true, forall_const, if_false, if_true, reduceCtorEq, ↓reduceIte, Nat.reduceEqDiff, Nat.reduceAdd, Int.reduceEq, Int.reduceLT, Int.reduceLE, Int.reduceNeg, Int.reduceAdd, Int.reduceSub, Int.reduceMul, Int.reduceToNat, Nat.reduceMul, Nat.reduceSub, Nat.reduceLT, Nat.reduceLeDiff]
  refine or_g (x := 0) (y := 1) ⟨b4, w4.good, by omega⟩ (by omega) (by omega) (by omega) fun h5 F5 g5 v5 i5 b5 e5 w5 k5 x5 => ?_
  have l5 := w5.len
  simp -dsimp -implicitDefEqProofs only [↓STP, STQ, ne_eq, implies_true, forall_const, if_false, if_true, reduceCtorEq, ↓reduceIte, Nat.reduceEqDiff, Nat.reduceAdd, Int.reduceEq, Int.reduceLT, Int.reduceLE, Int.reduceNeg, Int.reduceAdd, Int.reduceSub, Int.reduceMul, Int.reduceToNat, Nat.reduceMul, Nat.reduceSub, Nat.reduceLT, Nat.reduceLeDiff]
  refine circuit23 b5 (by omega) (by simp) ?_
  simp -dsimp -implicitDefEqProofs only [↓STP, STQ, ne_eq, implies_true, forall_const, if_false, if_true, reduceCtorEq, ↓reduceIte, Nat.reduceEqDiff, Nat.reduceAdd, Int.reduceEq, Int.reduceLT, Int.reduceLE, Int.reduceNeg, Int.reduceAdd, Int.reduceSub, Int.reduceMul, Int.reduceToNat, Nat.reduceMul, Nat.reduceSub, Nat.reduceLT, Nat.reduceLeDiff, circV, List.length_map]
  rw [app1_own (by simp) (by simp [V.cells]) (sz := 1) rfl (by decide) (by decide) (by simp)]
  simp -dsimp -implicitDefEqProofs only [↓STP, STQ, ne_eq, implies_true, forall_const, if_false, if_true, reduceCtorEq, ↓reduceIte, Nat.reduceEqDiff, Nat.reduceAdd, Int.reduceEq, Int.reduceLT, Int.reduceLE, Int.reduceNeg, Int.reduceAdd, Int.reduceSub, Int.reduceMul, Int.reduceToNat, Nat.reduceMul, Nat.reduceSub, Nat.reduceLT, Nat.reduceLeDiff]
  refine xor_g (x := 0) (y := 1) ⟨b5, w5.good, by omega⟩ (by omega) (by omega) (by omega) fun h6 F6 g6 v6 i6 b6 e6 w6 k6 x6 => ?_
  have l6 := w6.len
  simp -dsimp -implicitDefEqProofs only [↓STP, STQ, ne_eq, implies_true, forall_const, if_false, if_true, reduceCtorEq, ↓reduceIte, Nat.reduceEqDiff, Nat.reduceAdd, Int.reduceEq, Int.reduceLT, Int.reduceLE, Int.reduceNeg, Int.reduceAdd, Int.reduceSub, Int.reduceMul, Int.reduceToNat, Nat.reduceMul, Nat.reduceSub, Nat.reduceLT, Nat.reduceLeDiff]
  refine circuit23 b6 (by omega) (by simp) ?_
  simp -dsimp -implicitDefEqProofs only [↓STP, STQ, ne_eq, implies_true, forall_const, if_false, if_true, reduceCtorEq, ↓reduceIte, Nat.reduceEqDiff, Nat.reduceAdd, Int.reduceEq, Int.reduceLT, Int.reduceLE, Int.reduceNeg, Int.reduceAdd, Int.reduceSub, Int.reduceMul, Int.reduceToNat, Nat.reduceMul, Nat.reduceSub, Nat.reduceLT, Nat.reduceLeDiff, circV, List.length_map]
  rw [app1_own (by simp) (by simp [V.cells]) (sz := 1) rfl (by decide) (by decide) (by simp)]
  simp -dsimp -implicitDefEqProofs only [↓STP, STQ, ne_eq, implies_true, forall_const, if_false, if_true, reduceCtorEq, ↓reduceIte, Nat.reduceEqDiff, Nat.reduceAdd, Int.reduceEq, Int.reduceLT, Int.reduceLE, Int.reduceNeg, Int.reduceAdd, Int.reduceSub, Int.reduceMul, Int.reduceToNat, Nat.reduceMul, Nat.reduceSub, Nat.reduceLT, Nat.reduceLeDiff]
  refine select_g (c := 0) (x := 1) (y := 0) ⟨b6, w6.good, by omega⟩ (by omega) (by omega) (by omega) (by omega) fun h7 F7 g7 v7 i7 b7 e7 w7 k7 x7 => ?_
  have l7 := w7.len
  simp -dsimp -implicitDefEqProofs only [↓STP, STQ, ne_eq, implies_true, forall_const, if_false, if_true, reduceCtorEq, ↓reduceIte, Nat.reduceEqDiff, Nat.reduceAdd, Int.reduceEq, Int.reduceLT, Int.reduceLE, Int.reduceNeg, Int.reduceAdd, Int.reduceSub, Int.reduceMul, Int.reduceToNat, Nat.reduceMul, Nat.reduceSub, Nat.reduceLT, Nat.reduceLeDiff]
  refine circuit23 b7 (by omega) (by simp) ?_
  simp -dsimp -implicitDefEqProofs only [↓STP, STQ, ne_eq, implies_true, forall_const, if_false, if_true, reduceCtorEq, ↓reduceIte, Nat.reduceEqDiff, Nat.reduceAdd, Int.reduceEq, Int.reduceLT, Int.reduceLE, Int.reduceNeg, Int.reduceAdd, Int.reduceSub, Int.reduceMul, Int.reduceToNat, Nat.reduceMul, Nat.reduceSub, Nat.reduceLT, Nat.reduceLeDiff, circV, List.length_map]
  rw [app1_own (by simp) (by simp [V.cells]) (sz := 1) rfl (by decide) (by decide) (by simp)]
  simp -dsimp -implicitDefEqProofs only [↓STP, STQ, ne_eq, implies_true, forall_const, if_false, if_true, reduceCtorEq, ↓reduceIte, Nat.reduceEqDiff, Nat.reduceAdd, Int.reduceEq, Int.reduceLT, Int.reduceLE, Int.reduceNeg, Int.reduceAdd, Int.reduceSub, Int.reduceMul, Int.reduceToNat, Nat.reduceMul, Nat.reduceSub, Nat.reduceLT, Nat.reduceLeDiff]
  refine add_g (x := 0) (y := 1) ⟨b7, w7.good, by omega⟩ (by omega) (by omega) fun h8 F8 g8 v8 i8 b8 e8 w8 k8 x8 => ?_
  have l8 := w8.len
  simp -dsimp -implicitDefEqProofs only [↓STP, STQ, ne_eq, implies_true, forall_const, if_false, if_true, reduceCtorEq, ↓reduceIte, Nat.reduceEqDiff, Nat.reduceAdd, Int.reduceEq, Int.reduceLT, Int.reduceLE, Int.reduceNeg, Int.reduceAdd, Int.reduceSub, Int.reduceMul, Int.reduceToNat, Nat.reduceMul, Nat.reduceSub, Nat.reduceLT, Nat.reduceLeDiff]
  refine const_g (k := 1) ⟨b8, w8.good, by omega⟩ (by omega) fun h9 F9 g9 v9 i9 b9 e9 w9 k9 x9 => ?_
  have l9 := w9.len
  simp -dsimp -implicitDefEqProofs only [↓STP, STQ, ne_eq, implies_true, forall_const, if_false, if_true, reduceCtorEq, ↓reduceIte, Nat.reduceEqDiff, Nat.reduceAdd, Int.reduceEq, Int.reduceLT, Int.reduceLE, Int.reduceNeg, Int.reduceAdd, Int.reduceSub, Int.reduceMul, Int.reduceToNat, Nat.reduceMul, Nat.reduceSub, Nat.reduceLT, Nat.reduceLeDiff]
  refine sub_g ⟨b9, w9.good, by omega⟩ (ltr w9 k8) k9 fun h10 F10 g10 v10 i10 b10 e10 w10 k10 x10 => ?_
  have l10 := w10.len
  simp -dsimp -implicitDefEqProofs only [↓STP, STQ, ne_eq, implies_true, forall_const, if_false, if_true, reduceCtorEq, ↓reduceIte, Nat.reduceEqDiff, Nat.reduceAdd, Int.reduceEq, Int.reduceLT, Int.reduceLE, Int.reduceNeg, Int.reduceAdd, Int.reduceSub, Int.reduceMul, Int.reduceToNat, Nat.reduceMul, Nat.reduceSub, Nat.reduceLT, Nat.reduceLeDiff]
  refine mul_g (y := 0) ⟨b10, w10.good, by omega⟩ k10 (by omega) fun h11 F11 g11 v11 i11 b11 e11 w11 k11 x11 => ?_
  have l11 := w11.len
  simp -dsimp -implicitDefEqProofs only [↓STP, STQ, ne_eq, implies_true, forall_const, if_false, if_true, reduceCtorEq, ↓reduceIte, Nat.reduceEqDiff, Nat.reduceAdd, Int.reduceEq, Int.reduceLT, Int.reduceLE, Int.reduceNeg, Int.reduceAdd, Int.reduceSub, Int.reduceMul, Int.reduceToNat, Nat.reduceMul, Nat.reduceSub, Nat.reduceLT, Nat.reduceLeDiff]
  refine scale_g (k := 1) ⟨b11, w11.good, by omega⟩ (by omega) k11 fun h12 F12 g12 v12 i12 b12 e12 w12 k12 x12 => ?_
  have l12 := w12.len
  simp -dsimp -implicitDefEqProofs only [↓STP, STQ, ne_eq, implies_true, forall_const, if_false, if_true, reduceCtorEq, ↓reduceIte, Nat.reduceEqDiff, Nat.reduceAdd, Int.reduceEq, Int.reduceLT, Int.reduceLE, Int.reduceNeg, Int.reduceAdd, Int.reduceSub, Int.reduceMul, Int.reduceToNat, Nat.reduceMul, Nat.reduceSub, Nat.reduceLT, Nat.reduceLeDiff]
  refine circuit23 b12 (by omega) (by simp) ?_
  simp -dsimp -implicitDefEqProofs only [↓STP, STQ, ne_eq, implies_true, forall_const, if_false, if_true, reduceCtorEq, ↓reduceIte, Nat.reduceEqDiff, Nat.reduceAdd, Int.reduceEq, Int.reduceLT, Int.reduceLE, Int.reduceNeg, Int.reduceAdd, Int.reduceSub, Int.reduceMul, Int.reduceToNat, Nat.reduceMul, Nat.reduceSub, Nat.reduceLT, Nat.reduceLeDiff, circV, List.length_map]
  rw [app1_own (by simp) (by simp [V.cells]) (sz := 1) rfl (by decide) (by decide) (by simp)]
  have sub : ∀ {a b : Nat}, b ≤ a → a ≤ 1000 → IntKind.i64.wrap ((a : Int) - (b : Int)) = ((a - b : Nat) : Int) := fun h1 h2 => by rw [wrap_i64] <;> omega
  have hl : g2.length = 2 ∧ g3.length = 4 ∧ g4.length = 5 ∧ g5.length = 8 ∧ g6.length = 12 ∧ g7.length = 15 ∧ g12.length = 20 := by omega
  obtain ⟨q2, q3, q4, q5, q6, q7, q12⟩ := hl
  have w32 : IntKind.i64.wrap 2 = 2 := rfl
  have w1 : IntKind.i64.wrap 1 = 1 := rfl
  have w3' : IntKind.i64.wrap 3 = 3 := rfl
  have w4' : IntKind.i64.wrap 4 = 4 := rfl
  have w5' : IntKind.i64.wrap 5 = 5 := rfl
  simp -dsimp -implicitDefEqProofs only [↓STP, STQ, ne_eq, implies_true, forall_const, if_false, if_true, reduceCtorEq, ↓reduceIte, Nat.reduceEqDiff, Nat.reduceAdd, Int.reduceEq, Int.reduceLT, Int.reduceLE, Int.reduceNeg, Int.reduceAdd, Int.reduceSub, Int.reduceMul, Int.reduceToNat, Nat.reduceMul, Nat.reduceSub, Nat.reduceLT, Nat.reduceLeDiff, q2, q3, q4, q5, q6, q7, q12, w32, w1, w3', w4', w5']
  exact hK h12

theorem max34 {x y : Nat} (hK : K (.ret (I (max x y : Nat))) h) : R 44 [I x, I y] h K := by
  refine run44 (Nat.le_of_ble_eq_true rfl) ?_
  by_cases c : (y : Int) < x
  · simp -dsimp -implicitDefEqProofs only [↓STP, STQ, ne_eq, implies_true, forall_const, if_false, if_true, reduceCtorEq, ↓reduceIte, Nat.reduceEqDiff, Nat.reduceAdd, Int.reduceEq, Int.reduceLT, Int.reduceLE, Int.reduceNeg, Int.reduceAdd, Int.reduceSub, Int.reduceMul, Int.reduceToNat, Nat.reduceMul, Nat.reduceSub, Nat.reduceLT, Nat.reduceLeDiff, ir44, eq_true c]
    rw [show max x y = x by omega] at hK
    exact hK
  · simp -dsimp -implicitDefEqProofs only [↓STP, STQ, ne_eq, implies_true, forall_const, if_false, if_true, reduceCtorEq, ↓reduceIte, Nat.reduceEqDiff, Nat.reduceAdd, Int.reduceEq, Int.reduceLT, Int.reduceLE, Int.reduceNeg, Int.reduceAdd, Int.reduceSub, Int.reduceMul, Int.reduceToNat, Nat.reduceMul, Nat.reduceSub, Nat.reduceLT, Nat.reduceLeDiff, ir44, eq_false c]
    rw [show max x y = y by omega] at hK
    exact hK

set_option maxHeartbeats 4000000 in
theorem law34_9 {p x y : Nat} (hp : p < 18446744073709551616) (hx : x < 256) (hy : y < 256) :
    R 9 [W p, .int .u8 x, .int .u8 y] h (fun o _ => o = .ret (.bool true)) := by
  refine run9 (Nat.le_of_ble_eq_true rfl) ?_
  simp -dsimp -implicitDefEqProofs only [↓STP, STQ, ne_eq, implies_true, forall_const, if_false, if_true, reduceCtorEq, ↓reduceIte, Nat.reduceEqDiff, Nat.reduceAdd, Int.reduceEq, Int.reduceLT, Int.reduceLE, Int.reduceNeg, Int.reduceAdd, Int.reduceSub, Int.reduceMul, Int.reduceToNat, Nat.reduceMul, Nat.reduceSub, Nat.reduceLT, Nat.reduceLeDiff, ir9]
  refine awake10 fun ha _ _ => ?_
  simp -dsimp -implicitDefEqProofs only [↓STP, STQ, ne_eq, implies_true, forall_const, if_false, if_true, reduceCtorEq, ↓reduceIte, Nat.reduceEqDiff, Nat.reduceAdd, Int.reduceEq, Int.reduceLT, Int.reduceLE, Int.reduceNeg, Int.reduceAdd, Int.reduceSub, Int.reduceMul, Int.reduceToNat, Nat.reduceMul, Nat.reduceSub, Nat.reduceLT, Nat.reduceLeDiff]
  refine supported_spec hp (fun hs => ?_) (fun hs => ?_)
  rotate_left
  · simp -dsimp -implicitDefEqProofs only [↓STP, STQ, ne_eq, implies_true, forall_const, if_false, if_true, reduceCtorEq, ↓reduceIte, Nat.reduceEqDiff, Nat.reduceAdd, Int.reduceEq, Int.reduceLT, Int.reduceLE, Int.reduceNeg, Int.reduceAdd, Int.reduceSub, Int.reduceMul, Int.reduceToNat, Nat.reduceMul, Nat.reduceSub, Nat.reduceLT, Nat.reduceLeDiff]
  obtain ⟨q, hs⟩ := hs
  by_cases hx1 : (16 : Int) < (x : Int)
  · simp -dsimp -implicitDefEqProofs only [↓STP, STQ, ne_eq, implies_true, forall_const, if_false, if_true, reduceCtorEq, ↓reduceIte, Nat.reduceEqDiff, Nat.reduceAdd, Int.reduceEq, Int.reduceLT, Int.reduceLE, Int.reduceNeg, Int.reduceAdd, Int.reduceSub, Int.reduceMul, Int.reduceToNat, Nat.reduceMul, Nat.reduceSub, Nat.reduceLT, Nat.reduceLeDiff, eq_true hx1]
  by_cases hy1 : (16 : Int) < (y : Int)
  · simp -dsimp -implicitDefEqProofs only [↓STP, STQ, ne_eq, implies_true, forall_const, if_false, if_true, reduceCtorEq, ↓reduceIte, Nat.reduceEqDiff, Nat.reduceAdd, Int.reduceEq, Int.reduceLT, Int.reduceLE, Int.reduceNeg, Int.reduceAdd, Int.reduceSub, Int.reduceMul, Int.reduceToNat, Nat.reduceMul, Nat.reduceSub, Nat.reduceLT, Nat.reduceLeDiff, eq_false hx1, eq_true hy1]
  have wx : IntKind.i64.wrap (x : Int) = (x : Int) := by rw [wrap_i64] <;> omega
  have wy : IntKind.i64.wrap (y : Int) = (y : Int) := by rw [wrap_i64] <;> omega
  simp -dsimp -implicitDefEqProofs only [↓STP, STQ, ne_eq, implies_true, forall_const, if_false, if_true, reduceCtorEq, ↓reduceIte, Nat.reduceEqDiff, Nat.reduceAdd, Int.reduceEq, Int.reduceLT, Int.reduceLE, Int.reduceNeg, Int.reduceAdd, Int.reduceSub, Int.reduceMul, Int.reduceToNat, Nat.reduceMul, Nat.reduceSub, Nat.reduceLT, Nat.reduceLeDiff, eq_false hx1, eq_false hy1, wx, wy]
  refine max34 ?_
  generalize hL : max x y = L
  have hxy : x * y ≤ 16 * 16 := Nat.mul_le_mul (by omega) (by omega)
  have wn : ∀ {a : Int} {n : Nat}, a = (n : Int) → n ≤ 100000 → IntKind.i64.wrap a = (n : Int) := fun h1 h2 => by rw [h1, wrap_i64] <;> omega
  have m3 : 3 * x * y = 3 * (x * y) := Nat.mul_assoc _ _ _
  have m10 : 10 * x * y = 10 * (x * y) := Nat.mul_assoc _ _ _
  have f1 : IntKind.i64.wrap (2 * (L : Int)) = ((2 * L : Nat) : Int) := wn (by omega) (by omega)
  have f2 : IntKind.i64.wrap (10 * (L : Int)) = ((10 * L : Nat) : Int) := wn (by omega) (by omega)
  have f3 : IntKind.i64.wrap (((10 * L : Nat) : Int) + 2) = ((10 * L + 2 : Nat) : Int) := wn (by omega) (by omega)
  have f4 : IntKind.i64.wrap (3 * (L : Int)) = ((3 * L : Nat) : Int) := wn (by omega) (by omega)
  have f5 : IntKind.i64.wrap (((3 * L : Nat) : Int) + (x : Int)) = ((3 * L + x : Nat) : Int) := wn (by omega) (by omega)
  have f6 : IntKind.i64.wrap (12 * (L : Int)) = ((12 * L : Nat) : Int) := wn (by omega) (by omega)
  have f7 : IntKind.i64.wrap (((12 * L : Nat) : Int) + (x : Int)) = ((12 * L + x : Nat) : Int) := wn (by omega) (by omega)
  have f8 : IntKind.i64.wrap (((12 * L + x : Nat) : Int) + 4) = ((12 * L + x + 4 : Nat) : Int) := wn (by omega) (by omega)
  have f9 : IntKind.i64.wrap (3 * (x : Int)) = ((3 * x : Nat) : Int) := wn (by omega) (by omega)
  have f10 : IntKind.i64.wrap (((3 * x : Nat) : Int) * (y : Int)) = ((3 * x * y : Nat) : Int) := wn (by simp) (by omega)
  have f11 : IntKind.i64.wrap ((x : Int) + (y : Int)) = ((x + y : Nat) : Int) := wn (by omega) (by omega)
  have f12 : IntKind.i64.wrap (3 * ((x + y : Nat) : Int)) = ((3 * (x + y) : Nat) : Int) := wn (by omega) (by omega)
  have f13 : IntKind.i64.wrap (((3 * x * y : Nat) : Int) + ((3 * (x + y) : Nat) : Int)) = ((3 * x * y + 3 * (x + y) : Nat) : Int) := wn (by omega) (by omega)
  have f14 : IntKind.i64.wrap (10 * (x : Int)) = ((10 * x : Nat) : Int) := wn (by omega) (by omega)
  have f15 : IntKind.i64.wrap (((10 * x : Nat) : Int) * (y : Int)) = ((10 * x * y : Nat) : Int) := wn (by simp) (by omega)
  have f16 : IntKind.i64.wrap (2 * ((x + y : Nat) : Int)) = ((2 * (x + y) : Nat) : Int) := wn (by omega) (by omega)
  have f17 : IntKind.i64.wrap (((10 * x * y : Nat) : Int) + ((2 * (x + y) : Nat) : Int)) = ((10 * x * y + 2 * (x + y) : Nat) : Int) := wn (by omega) (by omega)
  have f18 : IntKind.i64.wrap (((10 * x * y + 2 * (x + y) : Nat) : Int) + 2) = ((10 * x * y + 2 * (x + y) + 2 : Nat) : Int) := wn (by omega) (by omega)
  have f19 : IntKind.i64.wrap (((12 * L : Nat) : Int) + 4) = ((12 * L + 4 : Nat) : Int) := wn (by omega) (by omega)
  have f20 : IntKind.i64.wrap (8 * (L : Int)) = ((8 * L : Nat) : Int) := wn (by omega) (by omega)
  have f21 : IntKind.i64.wrap (((8 * L : Nat) : Int) + 2) = ((8 * L + 2 : Nat) : Int) := wn (by omega) (by omega)
  have f22 : IntKind.i64.wrap (2 * (x : Int)) = ((2 * x : Nat) : Int) := wn (by omega) (by omega)
  have f23 : IntKind.i64.wrap (((2 * x : Nat) : Int) + 1) = ((2 * x + 1 : Nat) : Int) := wn (by omega) (by omega)
  simp -dsimp -implicitDefEqProofs only [↓STP, STQ, ne_eq, implies_true, forall_const, if_false, if_true, reduceCtorEq, ↓reduceIte, Nat.reduceEqDiff, Nat.reduceAdd, Int.reduceEq, Int.reduceLT, Int.reduceLE, Int.reduceNeg, Int.reduceAdd, Int.reduceSub, Int.reduceMul, Int.reduceToNat, Nat.reduceMul, Nat.reduceSub, Nat.reduceLT, Nat.reduceLeDiff, storeV]
  refine single_spec hs fun h1 => ?_
  simp -dsimp -implicitDefEqProofs only [↓STP, STQ, ne_eq, implies_true, forall_const, if_false, if_true, reduceCtorEq, ↓reduceIte, Nat.reduceEqDiff, Nat.reduceAdd, Int.reduceEq, Int.reduceLT, Int.reduceLE, Int.reduceNeg, Int.reduceAdd, Int.reduceSub, Int.reduceMul, Int.reduceToNat, Nat.reduceMul, Nat.reduceSub, Nat.reduceLT, Nat.reduceLeDiff, f1, f2, f3]
  refine cheap_spec (k := 0) (M := 2 * L) (N := 10 * L + 2) hs (by decide) (by omega) (by omega) (by show 2 * max x y ≤ _; omega) (by show 9 * max x y + 2 ≤ _; omega) fun h2 => ?_
  simp -dsimp -implicitDefEqProofs only [↓STP, STQ, ne_eq, implies_true, forall_const, if_false, if_true, reduceCtorEq, ↓reduceIte, Nat.reduceEqDiff, Nat.reduceAdd, Int.reduceEq, Int.reduceLT, Int.reduceLE, Int.reduceNeg, Int.reduceAdd, Int.reduceSub, Int.reduceMul, Int.reduceToNat, Nat.reduceMul, Nat.reduceSub, Nat.reduceLT, Nat.reduceLeDiff, f4, f5, f6, f7, f8]
  refine cheap_spec (k := 1) (M := 3 * L + x) (N := 12 * L + x + 4) hs (by decide) (by omega) (by omega) (by show 2 * max x y + x ≤ _; omega) (by show 11 * max x y + x + 4 ≤ _; omega) fun h3 => ?_
  simp -dsimp -implicitDefEqProofs only [↓STP, STQ, ne_eq, implies_true, forall_const, if_false, if_true, reduceCtorEq, ↓reduceIte, Nat.reduceEqDiff, Nat.reduceAdd, Int.reduceEq, Int.reduceLT, Int.reduceLE, Int.reduceNeg, Int.reduceAdd, Int.reduceSub, Int.reduceMul, Int.reduceToNat, Nat.reduceMul, Nat.reduceSub, Nat.reduceLT, Nat.reduceLeDiff, f9, f10, f11, f12, f13, f14, f15, f16, f17, f18]
  refine cheap_spec (k := 2) (M := 3 * x * y + 3 * (x + y)) (N := 10 * x * y + 2 * (x + y) + 2) hs (by decide) (by omega) (by omega) (by show 3 * x * y ≤ _; omega) (by show 10 * x * y + 2 * (x + y) + 1 ≤ _; omega) fun h4 => ?_
  simp -dsimp -implicitDefEqProofs only [↓STP, STQ, ne_eq, implies_true, forall_const, if_false, if_true, reduceCtorEq, ↓reduceIte, Nat.reduceEqDiff, Nat.reduceAdd, Int.reduceEq, Int.reduceLT, Int.reduceLE, Int.reduceNeg, Int.reduceAdd, Int.reduceSub, Int.reduceMul, Int.reduceToNat, Nat.reduceMul, Nat.reduceSub, Nat.reduceLT, Nat.reduceLeDiff, f4, f6, f19]
  refine cheap_spec (k := 3) (M := 3 * L) (N := 12 * L + 4) hs (by decide) (by omega) (by omega) (by show 2 * max x y ≤ _; omega) (by show 7 * max x y + 2 ≤ _; omega) fun h5 => ?_
  simp -dsimp -implicitDefEqProofs only [↓STP, STQ, ne_eq, implies_true, forall_const, if_false, if_true, reduceCtorEq, ↓reduceIte, Nat.reduceEqDiff, Nat.reduceAdd, Int.reduceEq, Int.reduceLT, Int.reduceLE, Int.reduceNeg, Int.reduceAdd, Int.reduceSub, Int.reduceMul, Int.reduceToNat, Nat.reduceMul, Nat.reduceSub, Nat.reduceLT, Nat.reduceLeDiff, f1, f20, f21]
  refine cheap_spec (k := 4) (M := 2 * L) (N := 8 * L + 2) hs (by decide) (by omega) (by omega) (by show 2 * max x y ≤ _; omega) (by show 7 * max x y + 2 ≤ _; omega) fun h6 => ?_
  simp -dsimp -implicitDefEqProofs only [↓STP, STQ, ne_eq, implies_true, forall_const, if_false, if_true, reduceCtorEq, ↓reduceIte, Nat.reduceEqDiff, Nat.reduceAdd, Int.reduceEq, Int.reduceLT, Int.reduceLE, Int.reduceNeg, Int.reduceAdd, Int.reduceSub, Int.reduceMul, Int.reduceToNat, Nat.reduceMul, Nat.reduceSub, Nat.reduceLT, Nat.reduceLeDiff, f22, f23]
  refine cheap_spec (k := 5) (M := 0) (N := 2 * x + 1) hs (by decide) (by omega) (by omega) (by show 0 ≤ _; omega) (by show 2 * x + 1 ≤ _; omega) fun h7 => ?_
  simp -dsimp -implicitDefEqProofs only [↓STP, STQ, ne_eq, implies_true, forall_const, if_false, if_true, reduceCtorEq, ↓reduceIte, Nat.reduceEqDiff, Nat.reduceAdd, Int.reduceEq, Int.reduceLT, Int.reduceLE, Int.reduceNeg, Int.reduceAdd, Int.reduceSub, Int.reduceMul, Int.reduceToNat, Nat.reduceMul, Nat.reduceSub, Nat.reduceLT, Nat.reduceLeDiff]

end
end Go.Ab.Ytgfnhkedfmnijaa
