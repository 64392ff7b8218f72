/- The circuit builder: what is done with a pair of bits. -/
import Derived.Test.YtgfnhkedfmnijaaB6
import Derived.Test.YtgfnhkedfmnijaaBv
set_option linter.unusedVariables false
set_option linter.unusedSimpArgs false
namespace Go.Ab.Ytgfnhkedfmnijaa

section
variable {h : H} {K : Out → H → Prop} {id p q : Nat} {F : Nat → Prop} {gs : List Gt} {vs : List Nat} {outs : List Int} {ls : List (List Nat)} {xs : List Nat}

theorem bitOf {a : Nat} (h : a ≤ 1) : ∃ b : Bool, a = b.toNat := by
  match a, h with
  | 0, _ => exact ⟨false, rfl⟩
  | 1, _ => exact ⟨true, rfl⟩

def fXor (a b _ : Nat) : Nat := a + b - 2 * a * b
def fLess (a b c : Nat) : Nat := if a = b then c else b
def fLike (a b c : Nat) : Nat := if a = b then c else 0
def fSum (a b c : Nat) : Nat := (a + b + c) % 2
def fCarry (a b c : Nat) : Nat := (a + b + c) / 2
def fBorrow (a b c : Nat) : Nat := if a < b + c then 1 else 0

theorem Rgt.two (hg : Rgt p q ls gs vs) : 2 < p := by
  rcases hg.sup with ⟨rfl, _⟩ | ⟨rfl, _⟩ | ⟨rfl, _⟩ | ⟨rfl, _⟩ | ⟨rfl, _⟩ | ⟨rfl, _⟩ | ⟨rfl, _⟩ <;> decide

theorem less_one : One 58 id p q ls 2 7 fXor fLess := by
  intro h F gs vs outs x y l K b hg hx hy hl bx by' bl hK
  have hp := b.good.two
  refine run58 (Nat.le_of_ble_eq_true rfl) ?_
  simp -dsimp -implicitDefEqProofs only [↓STP, STQ, ne_eq, implies_true, forall_const, if_false, if_true, reduceCtorEq, ↓reduceIte, Nat.reduceEqDiff, Nat.reduceAdd, Int.reduceEq, Int.reduceLT, Int.reduceLE, Int.reduceNeg, Int.reduceAdd, Int.reduceSub, Int.reduceMul, Int.reduceToNat, Nat.reduceMul, Nat.reduceSub, Nat.reduceLT, Nat.reduceLeDiff, ir58]
  refine xor_g b (by omega) hx hy fun h1 F1 g1 v1 i1 b1 e1 w1 l1 x1 => ?_
  have n1 := w1.len
  simp -dsimp -implicitDefEqProofs only [↓STP, STQ, ne_eq, implies_true, forall_const, if_false, if_true, reduceCtorEq, ↓reduceIte, Nat.reduceEqDiff, Nat.reduceAdd, Int.reduceEq, Int.reduceLT, Int.reduceLE, Int.reduceNeg, Int.reduceAdd, Int.reduceSub, Int.reduceMul, Int.reduceToNat, Nat.reduceMul, Nat.reduceSub, Nat.reduceLT, Nat.reduceLeDiff]
  refine select_g ⟨b1, w1.good, by omega⟩ (by omega) l1 (ltr w1 hy) (ltr w1 hl) fun h2 F2 g2 v2 i2 b2 e2 w2 l2 x2 => ?_
  simp -dsimp -implicitDefEqProofs only [↓STP, STQ, ne_eq, implies_true, forall_const, if_false, if_true, reduceCtorEq, ↓reduceIte, Nat.reduceEqDiff, Nat.reduceAdd, Int.reduceEq, Int.reduceLT, Int.reduceLE, Int.reduceNeg, Int.reduceAdd, Int.reduceSub, Int.reduceMul, Int.reduceToNat, Nat.reduceMul, Nat.reduceSub, Nat.reduceLT, Nat.reduceLeDiff]
  obtain ⟨A, hA⟩ := bitOf bx
  obtain ⟨B, hB⟩ := bitOf by'
  obtain ⟨C, hC⟩ := bitOf bl
  rw [hA, hB, xor_val hp] at x1
  rw [w1.pre y hy, w1.pre l hl, x1, hB, hC] at x2
  refine hK h2 F2 g2 v2 i1 i2 b2 (e1.trans e2) (w1.trans w2) (ltr w2 l1) l2 ?_ ?_
  · rw [w2.pre i1 l1, x1, hA, hB]; rfl
  · rw [x2, hA, hB, hC]
    have hc : C.toNat < p := by have := Bool.toNat_le C; omega
    have hb : B.toNat < p := by have := Bool.toNat_le B; omega
    have ht : A.toNat + B.toNat - 2 * A.toNat * B.toNat = (xor A B).toNat := by cases A <;> cases B <;> rfl
    rw [ht, sel_val hp hb hc]
    cases A <;> cases B <;> cases C <;> rfl

theorem like_one : One 59 id p q ls 2 7 fXor fLike := by
  intro h F gs vs outs x y l K b hg hx hy hl bx by' bl hK
  have hp := b.good.two
  refine run59 (Nat.le_of_ble_eq_true rfl) ?_
  simp -dsimp -implicitDefEqProofs only [↓STP, STQ, ne_eq, implies_true, forall_const, if_false, if_true, reduceCtorEq, ↓reduceIte, Nat.reduceEqDiff, Nat.reduceAdd, Int.reduceEq, Int.reduceLT, Int.reduceLE, Int.reduceNeg, Int.reduceAdd, Int.reduceSub, Int.reduceMul, Int.reduceToNat, Nat.reduceMul, Nat.reduceSub, Nat.reduceLT, Nat.reduceLeDiff, ir59]
  refine xor_g b (by omega) hx hy fun h1 F1 g1 v1 i1 b1 e1 w1 l1 x1 => ?_
  have n1 := w1.len
  simp -dsimp -implicitDefEqProofs only [↓STP, STQ, ne_eq, implies_true, forall_const, if_false, if_true, reduceCtorEq, ↓reduceIte, Nat.reduceEqDiff, Nat.reduceAdd, Int.reduceEq, Int.reduceLT, Int.reduceLE, Int.reduceNeg, Int.reduceAdd, Int.reduceSub, Int.reduceMul, Int.reduceToNat, Nat.reduceMul, Nat.reduceSub, Nat.reduceLT, Nat.reduceLeDiff]
  refine not_g ⟨b1, w1.good, by omega⟩ (by omega) l1 fun h2 F2 g2 v2 i2 b2 e2 w2 l2 x2 => ?_
  have n2 := w2.len
  simp -dsimp -implicitDefEqProofs only [↓STP, STQ, ne_eq, implies_true, forall_const, if_false, if_true, reduceCtorEq, ↓reduceIte, Nat.reduceEqDiff, Nat.reduceAdd, Int.reduceEq, Int.reduceLT, Int.reduceLE, Int.reduceNeg, Int.reduceAdd, Int.reduceSub, Int.reduceMul, Int.reduceToNat, Nat.reduceMul, Nat.reduceSub, Nat.reduceLT, Nat.reduceLeDiff]
  refine mul_g ⟨b2, w2.good, by omega⟩ (ltr w2 (ltr w1 hl)) l2 fun h3 F3 g3 v3 i3 b3 e3 w3 l3 x3 => ?_
  simp -dsimp -implicitDefEqProofs only [↓STP, STQ, ne_eq, implies_true, forall_const, if_false, if_true, reduceCtorEq, ↓reduceIte, Nat.reduceEqDiff, Nat.reduceAdd, Int.reduceEq, Int.reduceLT, Int.reduceLE, Int.reduceNeg, Int.reduceAdd, Int.reduceSub, Int.reduceMul, Int.reduceToNat, Nat.reduceMul, Nat.reduceSub, Nat.reduceLT, Nat.reduceLeDiff]
  obtain ⟨A, hA⟩ := bitOf bx
  obtain ⟨B, hB⟩ := bitOf by'
  obtain ⟨C, hC⟩ := bitOf bl
  have ht : A.toNat + B.toNat - 2 * A.toNat * B.toNat = (xor A B).toNat := by cases A <;> cases B <;> rfl
  rw [hA, hB, xor_val hp] at x1
  rw [x1, ht, not_val hp] at x2
  have hn : 1 - (xor A B).toNat = (!(xor A B)).toNat := by cases A <;> cases B <;> rfl
  rw [w2.pre l (ltr w1 hl), w1.pre l hl, x2, hC, hn, and_val hp] at x3
  refine hK h3 F3 g3 v3 i1 i3 b3 ((e1.trans e2).trans e3) ((w1.trans w2).trans w3) (ltr w3 (ltr w2 l1)) l3 ?_ ?_
  · rw [w3.pre i1 (ltr w2 l1), w2.pre i1 l1, x1, hA, hB]; rfl
  · rw [x3, hA, hB, hC]
    cases A <;> cases B <;> cases C <;> rfl

theorem without_val {a b : Bool} (hp : 2 < p) : ((a.toNat + b.toNat) % p + p - 2 % p * (a.toNat * b.toNat) % p) % p = (xor a b).toNat := by
  have := xor_val (a := a) (b := b) hp
  rw [and_val hp] at this
  rw [this]
  cases a <;> cases b <;> rfl

theorem adder_one : One 62 id p q ls 2 9 fSum fCarry := by
  intro h F gs vs outs x y l K b hg hx hy hl bx by' bl hK
  have hp := b.good.two
  refine run62 (Nat.le_of_ble_eq_true rfl) ?_
  simp -dsimp -implicitDefEqProofs only [↓STP, STQ, ne_eq, implies_true, forall_const, if_false, if_true, reduceCtorEq, ↓reduceIte, Nat.reduceEqDiff, Nat.reduceAdd, Int.reduceEq, Int.reduceLT, Int.reduceLE, Int.reduceNeg, Int.reduceAdd, Int.reduceSub, Int.reduceMul, Int.reduceToNat, Nat.reduceMul, Nat.reduceSub, Nat.reduceLT, Nat.reduceLeDiff, ir62]
  refine mul_g b hx hy fun h1 F1 g1 v1 i1 b1 e1 w1 l1 x1 => ?_
  have n1 := w1.len
  simp -dsimp -implicitDefEqProofs only [↓STP, STQ, ne_eq, implies_true, forall_const, if_false, if_true, reduceCtorEq, ↓reduceIte, Nat.reduceEqDiff, Nat.reduceAdd, Int.reduceEq, Int.reduceLT, Int.reduceLE, Int.reduceNeg, Int.reduceAdd, Int.reduceSub, Int.reduceMul, Int.reduceToNat, Nat.reduceMul, Nat.reduceSub, Nat.reduceLT, Nat.reduceLeDiff]
  refine without_g ⟨b1, w1.good, by omega⟩ (by omega) (ltr w1 hx) (ltr w1 hy) l1 fun h2 F2 g2 v2 i2 b2 e2 w2 l2 x2 => ?_
  have n2 := w2.len
  simp -dsimp -implicitDefEqProofs only [↓STP, STQ, ne_eq, implies_true, forall_const, if_false, if_true, reduceCtorEq, ↓reduceIte, Nat.reduceEqDiff, Nat.reduceAdd, Int.reduceEq, Int.reduceLT, Int.reduceLE, Int.reduceNeg, Int.reduceAdd, Int.reduceSub, Int.reduceMul, Int.reduceToNat, Nat.reduceMul, Nat.reduceSub, Nat.reduceLT, Nat.reduceLeDiff]
  refine mul_g ⟨b2, w2.good, by omega⟩ l2 (ltr w2 (ltr w1 hl)) fun h3 F3 g3 v3 i3 b3 e3 w3 l3 x3 => ?_
  have n3 := w3.len
  simp -dsimp -implicitDefEqProofs only [↓STP, STQ, ne_eq, implies_true, forall_const, if_false, if_true, reduceCtorEq, ↓reduceIte, Nat.reduceEqDiff, Nat.reduceAdd, Int.reduceEq, Int.reduceLT, Int.reduceLE, Int.reduceNeg, Int.reduceAdd, Int.reduceSub, Int.reduceMul, Int.reduceToNat, Nat.reduceMul, Nat.reduceSub, Nat.reduceLT, Nat.reduceLeDiff]
  refine without_g ⟨b3, w3.good, by omega⟩ (by omega) (ltr w3 l2) (ltr w3 (ltr w2 (ltr w1 hl))) l3 fun h4 F4 g4 v4 i4 b4 e4 w4 l4 x4 => ?_
  have n4 := w4.len
  simp -dsimp -implicitDefEqProofs only [↓STP, STQ, ne_eq, implies_true, forall_const, if_false, if_true, reduceCtorEq, ↓reduceIte, Nat.reduceEqDiff, Nat.reduceAdd, Int.reduceEq, Int.reduceLT, Int.reduceLE, Int.reduceNeg, Int.reduceAdd, Int.reduceSub, Int.reduceMul, Int.reduceToNat, Nat.reduceMul, Nat.reduceSub, Nat.reduceLT, Nat.reduceLeDiff]
  refine add_g ⟨b4, w4.good, by omega⟩ (ltr w4 (ltr w3 (ltr w2 l1))) (ltr w4 l3) fun h5 F5 g5 v5 i5 b5 e5 w5 l5 x5 => ?_
  simp -dsimp -implicitDefEqProofs only [↓STP, STQ, ne_eq, implies_true, forall_const, if_false, if_true, reduceCtorEq, ↓reduceIte, Nat.reduceEqDiff, Nat.reduceAdd, Int.reduceEq, Int.reduceLT, Int.reduceLE, Int.reduceNeg, Int.reduceAdd, Int.reduceSub, Int.reduceMul, Int.reduceToNat, Nat.reduceMul, Nat.reduceSub, Nat.reduceLT, Nat.reduceLeDiff]
  obtain ⟨A, hA⟩ := bitOf bx
  obtain ⟨B, hB⟩ := bitOf by'
  obtain ⟨C, hC⟩ := bitOf bl
  rw [hA, hB, and_val hp] at x1
  rw [w1.pre x hx, w1.pre y hy, x1, hA, hB, without_val hp] at x2
  rw [w2.pre l (ltr w1 hl), w1.pre l hl, x2, hC, and_val hp] at x3
  rw [w3.pre i2 l2, x2, w3.pre l (ltr w2 (ltr w1 hl)), w2.pre l (ltr w1 hl), w1.pre l hl, hC, x3, without_val hp] at x4
  rw [w4.pre i1 (ltr w3 (ltr w2 l1)), w3.pre i1 (ltr w2 l1), w2.pre i1 l1, x1, w4.pre i3 l3, x3] at x5
  refine hK h5 F5 g5 v5 i4 i5 b5 ((((e1.trans e2).trans e3).trans e4).trans e5) ((((w1.trans w2).trans w3).trans w4).trans w5) (ltr w5 l4) l5 ?_ ?_
  · rw [w5.pre i4 l4, x4, hA, hB, hC]
    cases A <;> cases B <;> cases C <;> rfl
  · rw [x5, hA, hB, hC, Nat.mod_eq_of_lt]
    · cases A <;> cases B <;> cases C <;> rfl
    · cases A <;> cases B <;> cases C <;> simp <;> omega

theorem taker_one : One 63 id p q ls 2 11 fSum fBorrow := by
  intro h F gs vs outs x y l K b hg hx hy hl bx by' bl hK
  have hp := b.good.two
  refine run63 (Nat.le_of_ble_eq_true rfl) ?_
  simp -dsimp -implicitDefEqProofs only [↓STP, STQ, ne_eq, implies_true, forall_const, if_false, if_true, reduceCtorEq, ↓reduceIte, Nat.reduceEqDiff, Nat.reduceAdd, Int.reduceEq, Int.reduceLT, Int.reduceLE, Int.reduceNeg, Int.reduceAdd, Int.reduceSub, Int.reduceMul, Int.reduceToNat, Nat.reduceMul, Nat.reduceSub, Nat.reduceLT, Nat.reduceLeDiff, ir63]
  refine mul_g b hx hy fun h1 F1 g1 v1 i1 b1 e1 w1 l1 x1 => ?_
  have n1 := w1.len
  simp -dsimp -implicitDefEqProofs only [↓STP, STQ, ne_eq, implies_true, forall_const, if_false, if_true, reduceCtorEq, ↓reduceIte, Nat.reduceEqDiff, Nat.reduceAdd, Int.reduceEq, Int.reduceLT, Int.reduceLE, Int.reduceNeg, Int.reduceAdd, Int.reduceSub, Int.reduceMul, Int.reduceToNat, Nat.reduceMul, Nat.reduceSub, Nat.reduceLT, Nat.reduceLeDiff]
  refine without_g ⟨b1, w1.good, by omega⟩ (by omega) (ltr w1 hx) (ltr w1 hy) l1 fun h2 F2 g2 v2 i2 b2 e2 w2 l2 x2 => ?_
  have n2 := w2.len
  simp -dsimp -implicitDefEqProofs only [↓STP, STQ, ne_eq, implies_true, forall_const, if_false, if_true, reduceCtorEq, ↓reduceIte, Nat.reduceEqDiff, Nat.reduceAdd, Int.reduceEq, Int.reduceLT, Int.reduceLE, Int.reduceNeg, Int.reduceAdd, Int.reduceSub, Int.reduceMul, Int.reduceToNat, Nat.reduceMul, Nat.reduceSub, Nat.reduceLT, Nat.reduceLeDiff]
  refine mul_g ⟨b2, w2.good, by omega⟩ l2 (ltr w2 (ltr w1 hl)) fun h3 F3 g3 v3 i3 b3 e3 w3 l3 x3 => ?_
  have n3 := w3.len
  simp -dsimp -implicitDefEqProofs only [↓STP, STQ, ne_eq, implies_true, forall_const, if_false, if_true, reduceCtorEq, ↓reduceIte, Nat.reduceEqDiff, Nat.reduceAdd, Int.reduceEq, Int.reduceLT, Int.reduceLE, Int.reduceNeg, Int.reduceAdd, Int.reduceSub, Int.reduceMul, Int.reduceToNat, Nat.reduceMul, Nat.reduceSub, Nat.reduceLT, Nat.reduceLeDiff]
  refine without_g ⟨b3, w3.good, by omega⟩ (by omega) (ltr w3 l2) (ltr w3 (ltr w2 (ltr w1 hl))) l3 fun h4 F4 g4 v4 i4 b4 e4 w4 l4 x4 => ?_
  have n4 := w4.len
  simp -dsimp -implicitDefEqProofs only [↓STP, STQ, ne_eq, implies_true, forall_const, if_false, if_true, reduceCtorEq, ↓reduceIte, Nat.reduceEqDiff, Nat.reduceAdd, Int.reduceEq, Int.reduceLT, Int.reduceLE, Int.reduceNeg, Int.reduceAdd, Int.reduceSub, Int.reduceMul, Int.reduceToNat, Nat.reduceMul, Nat.reduceSub, Nat.reduceLT, Nat.reduceLeDiff]
  refine sub_g ⟨b4, w4.good, by omega⟩ (ltr w4 (ltr w3 (ltr w2 (ltr w1 hy)))) (ltr w4 (ltr w3 (ltr w2 l1))) fun h5 F5 g5 v5 i5 b5 e5 w5 l5 x5 => ?_
  have n5 := w5.len
  simp -dsimp -implicitDefEqProofs only [↓STP, STQ, ne_eq, implies_true, forall_const, if_false, if_true, reduceCtorEq, ↓reduceIte, Nat.reduceEqDiff, Nat.reduceAdd, Int.reduceEq, Int.reduceLT, Int.reduceLE, Int.reduceNeg, Int.reduceAdd, Int.reduceSub, Int.reduceMul, Int.reduceToNat, Nat.reduceMul, Nat.reduceSub, Nat.reduceLT, Nat.reduceLeDiff]
  refine sub_g ⟨b5, w5.good, by omega⟩ (ltr w5 (ltr w4 (ltr w3 (ltr w2 (ltr w1 hl))))) (ltr w5 (ltr w4 l3)) fun h6 F6 g6 v6 i6 b6 e6 w6 l6 x6 => ?_
  have n6 := w6.len
  simp -dsimp -implicitDefEqProofs only [↓STP, STQ, ne_eq, implies_true, forall_const, if_false, if_true, reduceCtorEq, ↓reduceIte, Nat.reduceEqDiff, Nat.reduceAdd, Int.reduceEq, Int.reduceLT, Int.reduceLE, Int.reduceNeg, Int.reduceAdd, Int.reduceSub, Int.reduceMul, Int.reduceToNat, Nat.reduceMul, Nat.reduceSub, Nat.reduceLT, Nat.reduceLeDiff]
  refine add_g ⟨b6, w6.good, by omega⟩ (ltr w6 l5) l6 fun h7 F7 g7 v7 i7 b7 e7 w7 l7 x7 => ?_
  simp -dsimp -implicitDefEqProofs only [↓STP, STQ, ne_eq, implies_true, forall_const, if_false, if_true, reduceCtorEq, ↓reduceIte, Nat.reduceEqDiff, Nat.reduceAdd, Int.reduceEq, Int.reduceLT, Int.reduceLE, Int.reduceNeg, Int.reduceAdd, Int.reduceSub, Int.reduceMul, Int.reduceToNat, Nat.reduceMul, Nat.reduceSub, Nat.reduceLT, Nat.reduceLeDiff]
  obtain ⟨A, hA⟩ := bitOf bx
  obtain ⟨B, hB⟩ := bitOf by'
  obtain ⟨C, hC⟩ := bitOf bl
  rw [hA, hB, and_val hp] at x1
  rw [w1.pre x hx, w1.pre y hy, x1, hA, hB, without_val hp] at x2
  rw [w2.pre l (ltr w1 hl), w1.pre l hl, x2, hC, and_val hp] at x3
  rw [w3.pre i2 l2, x2, w3.pre l (ltr w2 (ltr w1 hl)), w2.pre l (ltr w1 hl), w1.pre l hl, hC, x3, without_val hp] at x4
  rw [w4.pre y (ltr w3 (ltr w2 (ltr w1 hy))), w3.pre y (ltr w2 (ltr w1 hy)), w2.pre y (ltr w1 hy), w1.pre y hy, w4.pre i1 (ltr w3 (ltr w2 l1)), w3.pre i1 (ltr w2 l1), w2.pre i1 l1, x1, hB] at x5
  rw [w5.pre l (ltr w4 (ltr w3 (ltr w2 (ltr w1 hl)))), w4.pre l (ltr w3 (ltr w2 (ltr w1 hl))), w3.pre l (ltr w2 (ltr w1 hl)), w2.pre l (ltr w1 hl), w1.pre l hl, w5.pre i3 (ltr w4 l3), w4.pre i3 l3, x3, hC] at x6
  rw [w6.pre i5 l5, x5, x6] at x7
  refine hK h7 F7 g7 v7 i4 i7 b7 ((((((e1.trans e2).trans e3).trans e4).trans e5).trans e6).trans e7) ((((((w1.trans w2).trans w3).trans w4).trans w5).trans w6).trans w7) (ltr w7 (ltr w6 (ltr w5 l4))) l7 ?_ ?_
  · rw [w7.pre i4 (ltr w6 (ltr w5 l4)), w6.pre i4 (ltr w5 l4), w5.pre i4 l4, x4, hA, hB, hC]
    cases A <;> cases B <;> cases C <;> rfl
  · rw [x7, hA, hB, hC]
    have m0 : p % p = 0 := Nat.mod_self p
    have m1 : (1 + p) % p = 1 := by rw [Nat.add_mod_right, Nat.mod_eq_of_lt (by omega)]
    have m2 : 1 % p = 1 := Nat.mod_eq_of_lt (by omega)
    cases A <;> cases B <;> cases C <;> simp [fBorrow, m0, m1, m2]

end
end Go.Ab.Ytgfnhkedfmnijaa
