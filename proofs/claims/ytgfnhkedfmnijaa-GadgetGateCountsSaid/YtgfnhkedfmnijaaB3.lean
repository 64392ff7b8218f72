/- The circuit builder's gadgets for single bits. -/
import Derived.Test.YtgfnhkedfmnijaaB2
set_option linter.unusedVariables false
set_option linter.unusedSimpArgs false
namespace Go.Ab.Ytgfnhkedfmnijaa

section
variable {h : H} {K : Out → H → Prop} {id p q : Nat} {F : Nat → Prop} {gs : List Gt} {vs : List Nat} {outs : List Int} {ls : List (List Nat)}

theorem BuAt.pp (b : BuAt h id F p gs outs) : ∃ gv ov, h.get id = some [W p, gv, ov] := by
  obtain ⟨⟨gv, ov, gid, oid, h1, _⟩, _⟩ := b
  exact ⟨gv, ov, h1⟩

theorem ltr {i : Nat} {m n : Nat} {gs' : List Gt} {vs' : List Nat} (w : Grew p q ls gs vs m n gs' vs') (hi : i < gs.length) : i < gs'.length := by rw [w.len]; omega

theorem not_g {x : Nat} (b : Bd h id F p q ls gs vs outs) (hf : gs.length < 99990) (hx : x < gs.length) (hK : Gives h id F p q ls gs vs outs K 0 2 ((1 + p - vs.getD x 0) % p)) : R 28 [.ptr id 0, I x] h K := by
  have hp := b.good.p0
  have hp1 : 1 < p := by rcases b.good.sup with ⟨rfl, _⟩ | ⟨rfl, _⟩ | ⟨rfl, _⟩ | ⟨rfl, _⟩ | ⟨rfl, _⟩ | ⟨rfl, _⟩ | ⟨rfl, _⟩ <;> decide
  refine run28 (Nat.le_of_ble_eq_true rfl) ?_
  simp -dsimp -implicitDefEqProofs only [↓STP, STQ, ne_eq, implies_true, forall_const, if_false, if_true, reduceCtorEq, ↓reduceIte, Nat.reduceEqDiff, Nat.reduceAdd, Int.reduceEq, Int.reduceLT, Int.reduceLE, Int.reduceNeg, Int.reduceAdd, Int.reduceSub, Int.reduceMul, Int.reduceToNat, Nat.reduceMul, Nat.reduceSub, Nat.reduceLT, Nat.reduceLeDiff, ir28]
  refine const_g (k := 1) b hp1 fun h1 F1 g1 v1 i1 b1 e1 w1 l1 x1 => ?_
  simp -dsimp -implicitDefEqProofs only [↓STP, STQ, ne_eq, implies_true, forall_const, if_false, if_true, reduceCtorEq, ↓reduceIte, Nat.reduceEqDiff, Nat.reduceAdd, Int.reduceEq, Int.reduceLT, Int.reduceLE, Int.reduceNeg, Int.reduceAdd, Int.reduceSub, Int.reduceMul, Int.reduceToNat, Nat.reduceMul, Nat.reduceSub, Nat.reduceLT, Nat.reduceLeDiff]
  refine sub_g ⟨b1, w1.good, by rw [w1.len]; omega⟩ l1 (ltr w1 hx) fun h2 F2 g2 v2 i2 b2 e2 w2 l2 x2 => ?_
  simp -dsimp -implicitDefEqProofs only [↓STP, STQ, ne_eq, implies_true, forall_const, if_false, if_true, reduceCtorEq, ↓reduceIte, Nat.reduceEqDiff, Nat.reduceAdd, Int.reduceEq, Int.reduceLT, Int.reduceLE, Int.reduceNeg, Int.reduceAdd, Int.reduceSub, Int.reduceMul, Int.reduceToNat, Nat.reduceMul, Nat.reduceSub, Nat.reduceLT, Nat.reduceLeDiff]
  refine hK h2 F2 g2 v2 i2 b2 (e1.trans e2) (w1.trans w2) l2 ?_
  rw [x2, x1, w1.pre x hx]

theorem and_g {x y : Nat} (b : Bd h id F p q ls gs vs outs) (hx : x < gs.length) (hy : y < gs.length) (hK : Gives h id F p q ls gs vs outs K 1 1 (vs.getD x 0 * vs.getD y 0 % p)) : R 29 [.ptr id 0, I x, I y] h K := by
  refine run29 (Nat.le_of_ble_eq_true rfl) ?_
  simp -dsimp -implicitDefEqProofs only [↓STP, STQ, ne_eq, implies_true, forall_const, if_false, if_true, reduceCtorEq, ↓reduceIte, Nat.reduceEqDiff, Nat.reduceAdd, Int.reduceEq, Int.reduceLT, Int.reduceLE, Int.reduceNeg, Int.reduceAdd, Int.reduceSub, Int.reduceMul, Int.reduceToNat, Nat.reduceMul, Nat.reduceSub, Nat.reduceLT, Nat.reduceLeDiff, ir29]
  refine mul_g b hx hy fun h1 F1 g1 v1 i1 b1 e1 w1 l1 x1 => ?_
  simp -dsimp -implicitDefEqProofs only [↓STP, STQ, ne_eq, implies_true, forall_const, if_false, if_true, reduceCtorEq, ↓reduceIte, Nat.reduceEqDiff, Nat.reduceAdd, Int.reduceEq, Int.reduceLT, Int.reduceLE, Int.reduceNeg, Int.reduceAdd, Int.reduceSub, Int.reduceMul, Int.reduceToNat, Nat.reduceMul, Nat.reduceSub, Nat.reduceLT, Nat.reduceLeDiff]
  exact hK h1 F1 g1 v1 i1 b1 e1 w1 l1 x1

theorem or_g {x y : Nat} (b : Bd h id F p q ls gs vs outs) (hf : gs.length < 99990) (hx : x < gs.length) (hy : y < gs.length)
    (hK : Gives h id F p q ls gs vs outs K 1 3 (((vs.getD x 0 + vs.getD y 0) % p + p - vs.getD x 0 * vs.getD y 0 % p) % p)) : R 30 [.ptr id 0, I x, I y] h K := by
  refine run30 (Nat.le_of_ble_eq_true rfl) ?_
  simp -dsimp -implicitDefEqProofs only [↓STP, STQ, ne_eq, implies_true, forall_const, if_false, if_true, reduceCtorEq, ↓reduceIte, Nat.reduceEqDiff, Nat.reduceAdd, Int.reduceEq, Int.reduceLT, Int.reduceLE, Int.reduceNeg, Int.reduceAdd, Int.reduceSub, Int.reduceMul, Int.reduceToNat, Nat.reduceMul, Nat.reduceSub, Nat.reduceLT, Nat.reduceLeDiff, ir30]
  refine add_g b hx hy fun h1 F1 g1 v1 i1 b1 e1 w1 l1 x1 => ?_
  simp -dsimp -implicitDefEqProofs only [↓STP, STQ, ne_eq, implies_true, forall_const, if_false, if_true, reduceCtorEq, ↓reduceIte, Nat.reduceEqDiff, Nat.reduceAdd, Int.reduceEq, Int.reduceLT, Int.reduceLE, Int.reduceNeg, Int.reduceAdd, Int.reduceSub, Int.reduceMul, Int.reduceToNat, Nat.reduceMul, Nat.reduceSub, Nat.reduceLT, Nat.reduceLeDiff]
  refine mul_g ⟨b1, w1.good, by rw [w1.len]; omega⟩ (ltr w1 hx) (ltr w1 hy) fun h2 F2 g2 v2 i2 b2 e2 w2 l2 x2 => ?_
  simp -dsimp -implicitDefEqProofs only [↓STP, STQ, ne_eq, implies_true, forall_const, if_false, if_true, reduceCtorEq, ↓reduceIte, Nat.reduceEqDiff, Nat.reduceAdd, Int.reduceEq, Int.reduceLT, Int.reduceLE, Int.reduceNeg, Int.reduceAdd, Int.reduceSub, Int.reduceMul, Int.reduceToNat, Nat.reduceMul, Nat.reduceSub, Nat.reduceLT, Nat.reduceLeDiff]
  refine sub_g ⟨b2, w2.good, by rw [w2.len, w1.len]; omega⟩ (ltr w2 l1) l2 fun h3 F3 g3 v3 i3 b3 e3 w3 l3 x3 => ?_
  simp -dsimp -implicitDefEqProofs only [↓STP, STQ, ne_eq, implies_true, forall_const, if_false, if_true, reduceCtorEq, ↓reduceIte, Nat.reduceEqDiff, Nat.reduceAdd, Int.reduceEq, Int.reduceLT, Int.reduceLE, Int.reduceNeg, Int.reduceAdd, Int.reduceSub, Int.reduceMul, Int.reduceToNat, Nat.reduceMul, Nat.reduceSub, Nat.reduceLT, Nat.reduceLeDiff]
  refine hK h3 F3 g3 v3 i3 b3 ((e1.trans e2).trans e3) ((w1.trans w2).trans w3) l3 ?_
  rw [x3, x2, w2.pre i1 l1, x1, w1.pre x hx, w1.pre y hy]

theorem without_g {x y z : Nat} (b : Bd h id F p q ls gs vs outs) (hf : gs.length < 99990) (hx : x < gs.length) (hy : y < gs.length) (hz : z < gs.length)
    (hK : Gives h id F p q ls gs vs outs K 0 3 (((vs.getD x 0 + vs.getD y 0) % p + p - 2 % p * vs.getD z 0 % p) % p)) : R 56 [.ptr id 0, I x, I y, I z] h K := by
  obtain ⟨gv, ov, hg⟩ := b.at_.pp
  have hp := b.good.p0
  refine run56 (Nat.le_of_ble_eq_true rfl) ?_
  simp -dsimp -implicitDefEqProofs only [↓STP, STQ, ne_eq, implies_true, forall_const, if_false, if_true, reduceCtorEq, ↓reduceIte, Nat.reduceEqDiff, Nat.reduceAdd, Int.reduceEq, Int.reduceLT, Int.reduceLE, Int.reduceNeg, Int.reduceAdd, Int.reduceSub, Int.reduceMul, Int.reduceToNat, Nat.reduceMul, Nat.reduceSub, Nat.reduceLT, Nat.reduceLeDiff, ir56, hg]
  refine add_g b hx hy fun h1 F1 g1 v1 i1 b1 e1 w1 l1 x1 => ?_
  obtain ⟨gv1, ov1, hg1⟩ := b1.pp
  simp -dsimp -implicitDefEqProofs only [↓STP, STQ, ne_eq, implies_true, forall_const, if_false, if_true, reduceCtorEq, ↓reduceIte, Nat.reduceEqDiff, Nat.reduceAdd, Int.reduceEq, Int.reduceLT, Int.reduceLE, Int.reduceNeg, Int.reduceAdd, Int.reduceSub, Int.reduceMul, Int.reduceToNat, Nat.reduceMul, Nat.reduceSub, Nat.reduceLT, Nat.reduceLeDiff, hg1]
  refine reduce_spec (n := 2) w1.good.sup (by decide) ?_
  simp -dsimp -implicitDefEqProofs only [↓STP, STQ, ne_eq, implies_true, forall_const, if_false, if_true, reduceCtorEq, ↓reduceIte, Nat.reduceEqDiff, Nat.reduceAdd, Int.reduceEq, Int.reduceLT, Int.reduceLE, Int.reduceNeg, Int.reduceAdd, Int.reduceSub, Int.reduceMul, Int.reduceToNat, Nat.reduceMul, Nat.reduceSub, Nat.reduceLT, Nat.reduceLeDiff]
  refine scale_g ⟨b1, w1.good, by rw [w1.len]; omega⟩ (Nat.mod_lt _ hp.1) (ltr w1 hz) fun h2 F2 g2 v2 i2 b2 e2 w2 l2 x2 => ?_
  simp -dsimp -implicitDefEqProofs only [↓STP, STQ, ne_eq, implies_true, forall_const, if_false, if_true, reduceCtorEq, ↓reduceIte, Nat.reduceEqDiff, Nat.reduceAdd, Int.reduceEq, Int.reduceLT, Int.reduceLE, Int.reduceNeg, Int.reduceAdd, Int.reduceSub, Int.reduceMul, Int.reduceToNat, Nat.reduceMul, Nat.reduceSub, Nat.reduceLT, Nat.reduceLeDiff]
  refine sub_g ⟨b2, w2.good, by rw [w2.len, w1.len]; omega⟩ (ltr w2 l1) l2 fun h3 F3 g3 v3 i3 b3 e3 w3 l3 x3 => ?_
  simp -dsimp -implicitDefEqProofs only [↓STP, STQ, ne_eq, implies_true, forall_const, if_false, if_true, reduceCtorEq, ↓reduceIte, Nat.reduceEqDiff, Nat.reduceAdd, Int.reduceEq, Int.reduceLT, Int.reduceLE, Int.reduceNeg, Int.reduceAdd, Int.reduceSub, Int.reduceMul, Int.reduceToNat, Nat.reduceMul, Nat.reduceSub, Nat.reduceLT, Nat.reduceLeDiff]
  refine hK h3 F3 g3 v3 i3 b3 ((e1.trans e2).trans e3) ((w1.trans w2).trans w3) l3 ?_
  rw [x3, x2, w2.pre i1 l1, x1, w1.pre z hz]

theorem xor_g {x y : Nat} (b : Bd h id F p q ls gs vs outs) (hf : gs.length < 99900) (hx : x < gs.length) (hy : y < gs.length)
    (hK : Gives h id F p q ls gs vs outs K 1 4 (((vs.getD x 0 + vs.getD y 0) % p + p - 2 % p * (vs.getD x 0 * vs.getD y 0 % p) % p) % p)) : R 31 [.ptr id 0, I x, I y] h K := by
  refine run31 (Nat.le_of_ble_eq_true rfl) ?_
  simp -dsimp -implicitDefEqProofs only [↓STP, STQ, ne_eq, implies_true, forall_const, if_false, if_true, reduceCtorEq, ↓reduceIte, Nat.reduceEqDiff, Nat.reduceAdd, Int.reduceEq, Int.reduceLT, Int.reduceLE, Int.reduceNeg, Int.reduceAdd, Int.reduceSub, Int.reduceMul, Int.reduceToNat, Nat.reduceMul, Nat.reduceSub, Nat.reduceLT, Nat.reduceLeDiff, ir31]
  refine mul_g b hx hy fun h1 F1 g1 v1 i1 b1 e1 w1 l1 x1 => ?_
  simp -dsimp -implicitDefEqProofs only [↓STP, STQ, ne_eq, implies_true, forall_const, if_false, if_true, reduceCtorEq, ↓reduceIte, Nat.reduceEqDiff, Nat.reduceAdd, Int.reduceEq, Int.reduceLT, Int.reduceLE, Int.reduceNeg, Int.reduceAdd, Int.reduceSub, Int.reduceMul, Int.reduceToNat, Nat.reduceMul, Nat.reduceSub, Nat.reduceLT, Nat.reduceLeDiff]
  refine without_g ⟨b1, w1.good, by rw [w1.len]; omega⟩ (by rw [w1.len]; omega) (ltr w1 hx) (ltr w1 hy) l1 fun h2 F2 g2 v2 i2 b2 e2 w2 l2 x2 => ?_
  simp -dsimp -implicitDefEqProofs only [↓STP, STQ, ne_eq, implies_true, forall_const, if_false, if_true, reduceCtorEq, ↓reduceIte, Nat.reduceEqDiff, Nat.reduceAdd, Int.reduceEq, Int.reduceLT, Int.reduceLE, Int.reduceNeg, Int.reduceAdd, Int.reduceSub, Int.reduceMul, Int.reduceToNat, Nat.reduceMul, Nat.reduceSub, Nat.reduceLT, Nat.reduceLeDiff]
  refine hK h2 F2 g2 v2 i2 b2 (e1.trans e2) (w1.trans w2) l2 ?_
  rw [x2, x1, w1.pre x hx, w1.pre y hy]

theorem select_g {c x y : Nat} (b : Bd h id F p q ls gs vs outs) (hf : gs.length < 99990) (hc : c < gs.length) (hx : x < gs.length) (hy : y < gs.length)
    (hK : Gives h id F p q ls gs vs outs K 1 3 ((vs.getD y 0 + vs.getD c 0 * ((vs.getD x 0 + p - vs.getD y 0) % p) % p) % p)) : R 32 [.ptr id 0, I c, I x, I y] h K := by
  refine run32 (Nat.le_of_ble_eq_true rfl) ?_
  simp -dsimp -implicitDefEqProofs only [↓STP, STQ, ne_eq, implies_true, forall_const, if_false, if_true, reduceCtorEq, ↓reduceIte, Nat.reduceEqDiff, Nat.reduceAdd, Int.reduceEq, Int.reduceLT, Int.reduceLE, Int.reduceNeg, Int.reduceAdd, Int.reduceSub, Int.reduceMul, Int.reduceToNat, Nat.reduceMul, Nat.reduceSub, Nat.reduceLT, Nat.reduceLeDiff, ir32]
  refine sub_g b hx hy fun h1 F1 g1 v1 i1 b1 e1 w1 l1 x1 => ?_
  simp -dsimp -implicitDefEqProofs only [↓STP, STQ, ne_eq, implies_true, forall_const, if_false, if_true, reduceCtorEq, ↓reduceIte, Nat.reduceEqDiff, Nat.reduceAdd, Int.reduceEq, Int.reduceLT, Int.reduceLE, Int.reduceNeg, Int.reduceAdd, Int.reduceSub, Int.reduceMul, Int.reduceToNat, Nat.reduceMul, Nat.reduceSub, Nat.reduceLT, Nat.reduceLeDiff]
  refine mul_g ⟨b1, w1.good, by rw [w1.len]; omega⟩ (ltr w1 hc) l1 fun h2 F2 g2 v2 i2 b2 e2 w2 l2 x2 => ?_
  simp -dsimp -implicitDefEqProofs only [↓STP, STQ, ne_eq, implies_true, forall_const, if_false, if_true, reduceCtorEq, ↓reduceIte, Nat.reduceEqDiff, Nat.reduceAdd, Int.reduceEq, Int.reduceLT, Int.reduceLE, Int.reduceNeg, Int.reduceAdd, Int.reduceSub, Int.reduceMul, Int.reduceToNat, Nat.reduceMul, Nat.reduceSub, Nat.reduceLT, Nat.reduceLeDiff]
  refine add_g ⟨b2, w2.good, by rw [w2.len, w1.len]; omega⟩ (ltr w2 (ltr w1 hy)) l2 fun h3 F3 g3 v3 i3 b3 e3 w3 l3 x3 => ?_
  simp -dsimp -implicitDefEqProofs only [↓STP, STQ, ne_eq, implies_true, forall_const, if_false, if_true, reduceCtorEq, ↓reduceIte, Nat.reduceEqDiff, Nat.reduceAdd, Int.reduceEq, Int.reduceLT, Int.reduceLE, Int.reduceNeg, Int.reduceAdd, Int.reduceSub, Int.reduceMul, Int.reduceToNat, Nat.reduceMul, Nat.reduceSub, Nat.reduceLT, Nat.reduceLeDiff]
  refine hK h3 F3 g3 v3 i3 b3 ((e1.trans e2).trans e3) ((w1.trans w2).trans w3) l3 ?_
  rw [x3, x2, x1, w2.pre y (ltr w1 hy), w1.pre y hy, w1.pre c hc]

/-- The value of a row of bits, the least significant first. -/
def number (l : List Nat) : Nat := l.foldr (fun x n => x + 2 * n) 0

theorem number_snoc (l : List Nat) (x : Nat) : number (l ++ [x]) = number l + 2 ^ l.length * x := by
  induction l with
  | nil => simp [number]
  | cons a l ih =>
    show a + 2 * number (l ++ [x]) = a + 2 * number l + 2 ^ (l.length + 1) * x
    rw [ih, Nat.mul_add, ← Nat.mul_assoc, Nat.pow_succ, Nat.mul_comm (2 ^ l.length) 2, Nat.add_assoc]

theorem fadd_spec {a b : Nat} (hs : Supp p q) (hab : a + b < 18446744073709551616) (hK : K (.ret (W ((a + b) % p))) h) : R 60 [W p, W a, W b] h K := by
  refine run60 (Nat.le_of_ble_eq_true rfl) ?_
  have w : IntKind.u64.wrap ((a : Int) + b) = ((a + b : Nat) : Int) := by rw [wrap_u64]; omega
  simp -dsimp -implicitDefEqProofs only [↓STP, STQ, ne_eq, implies_true, forall_const, if_false, if_true, reduceCtorEq, ↓reduceIte, Nat.reduceEqDiff, Nat.reduceAdd, Int.reduceEq, Int.reduceLT, Int.reduceLE, Int.reduceNeg, Int.reduceAdd, Int.reduceSub, Int.reduceMul, Int.reduceToNat, Nat.reduceMul, Nat.reduceSub, Nat.reduceLT, Nat.reduceLeDiff, ir60, w]
  refine fold_spec (hi := 0) hs (by decide) hab ?_
  simp -dsimp -implicitDefEqProofs only [↓STP, STQ, ne_eq, implies_true, forall_const, if_false, if_true, reduceCtorEq, ↓reduceIte, Nat.reduceEqDiff, Nat.reduceAdd, Int.reduceEq, Int.reduceLT, Int.reduceLE, Int.reduceNeg, Int.reduceAdd, Int.reduceSub, Int.reduceMul, Int.reduceToNat, Nat.reduceMul, Nat.reduceSub, Nat.reduceLT, Nat.reduceLeDiff, Nat.zero_mul]
  exact hK

/-- Indices as a list of numbers. -/
def Xs (l : List Nat) : List V := l.map fun (x : Nat) => V.int .i64 (x : Int)
theorem Xs_get {l : List Nat} {i : Nat} (hi : i < l.length) : (Xs l)[i]? = some (I (l[i] : Nat)) := by simp [Xs, hi]
theorem Xs_len {l : List Nat} : (Xs l).length = l.length := by simp [Xs]

def InvComp (id p q : Nat) (ls : List (List Nat)) (gs : List Gt) (vs : List Nat) (outs : List Int) (l : List Nat) (h : H) (F : Nat → Prop) (k : Nat) (st : S) : Prop :=
  ∃ (j s : Nat) (h1 : H) (F1 : Nat → Prop) (g1 : List Gt) (v1 : List Nat), k = l.length - j ∧ j ≤ l.length ∧ BuAt h1 id F1 p g1 outs ∧ Evo h F h1 F1 ∧ Grew p q ls gs vs 0 (2 * j + 1) g1 v1 ∧
    s < g1.length ∧ v1.getD s 0 = number ((l.take j).map fun x => vs.getD x 0) % p ∧
    st = ⟨upd (upd (upd (upd (upd (upd ρ0 0 (.ptr id 0)) 5 (I s)) 6 (W (2 ^ j % p))) 11 (.vec (Xs l) .any)) 12 (I l.length)) 13 (I j), m0, 0, [], h1⟩

theorem compose_g {l : List Nat} (b : Bd h id F p q ls gs vs outs) (hl : l.length ≤ 100) (hf : gs.length < 90000) (hx : ∀ x ∈ l, x < gs.length)
    (hK : Gives h id F p q ls gs vs outs K 0 (2 * l.length + 1) (number (l.map fun x => vs.getD x 0) % p)) : R 36 [.ptr id 0, .vec (Xs l) .any] h K := by
  have hp := b.good.p0
  have hp1 : 1 < p := by rcases b.good.sup with ⟨rfl, _⟩ | ⟨rfl, _⟩ | ⟨rfl, _⟩ | ⟨rfl, _⟩ | ⟨rfl, _⟩ | ⟨rfl, _⟩ | ⟨rfl, _⟩ <;> decide
  refine run36 (Nat.le_of_ble_eq_true rfl) ?_
  simp -dsimp -implicitDefEqProofs only [↓STP, STQ, ne_eq, implies_true, forall_const, if_false, if_true, reduceCtorEq, ↓reduceIte, Nat.reduceEqDiff, Nat.reduceAdd, Int.reduceEq, Int.reduceLT, Int.reduceLE, Int.reduceNeg, Int.reduceAdd, Int.reduceSub, Int.reduceMul, Int.reduceToNat, Nat.reduceMul, Nat.reduceSub, Nat.reduceLT, Nat.reduceLeDiff, ir36]
  refine const_g (k := 0) b hp.1 fun h1 F1 g1 v1 i1 b1 e1 w1 l1 x1 => ?_
  simp -dsimp -implicitDefEqProofs only [↓STP, STQ, ne_eq, implies_true, forall_const, if_false, if_true, reduceCtorEq, ↓reduceIte, Nat.reduceEqDiff, Nat.reduceAdd, Int.reduceEq, Int.reduceLT, Int.reduceLE, Int.reduceNeg, Int.reduceAdd, Int.reduceSub, Int.reduceMul, Int.reduceToNat, Nat.reduceMul, Nat.reduceSub, Nat.reduceLT, Nat.reduceLeDiff, Xs_len]
  refine codeT_loop (InvComp id p q ls gs vs outs l h F) (i := l.length) ⟨0, i1, h1, F1, g1, v1, rfl, by omega, b1, e1, w1, l1, by rw [x1]; simp [number], ?_⟩ ?_ mono
  · rw [Nat.pow_zero, Nat.mod_eq_of_lt hp1]
    simp -dsimp -implicitDefEqProofs only [↓STP, STQ, ne_eq, implies_true, forall_const, if_false, if_true, reduceCtorEq, ↓reduceIte, Nat.reduceEqDiff, Nat.reduceAdd, Int.reduceEq, Int.reduceLT, Int.reduceLE, Int.reduceNeg, Int.reduceAdd, Int.reduceSub, Int.reduceMul, Int.reduceToNat, Nat.reduceMul, Nat.reduceSub, Nat.reduceLT, Nat.reduceLeDiff] <;> rfl
  rintro k st ⟨j, s, h2, F2, g2, v2, rfl, hj, b2, e2, w2, hs, hv, rfl⟩
  by_cases hlt : j < l.length
  · have hlj : l[j] < gs.length := hx _ (List.getElem_mem hlt)
    have wj : IntKind.i64.wrap ((j : Int) + 1) = ((j + 1 : Nat) : Int) := by rw [wrap_i64] <;> omega
    simp -dsimp -implicitDefEqProofs only [↓STP, STQ, ne_eq, implies_true, forall_const, if_false, if_true, reduceCtorEq, ↓reduceIte, Nat.reduceEqDiff, Nat.reduceAdd, Int.reduceEq, Int.reduceLT, Int.reduceLE, Int.reduceNeg, Int.reduceAdd, Int.reduceSub, Int.reduceMul, Int.reduceToNat, Nat.reduceMul, Nat.reduceSub, Nat.reduceLT, Nat.reduceLeDiff, Int.ofNat_lt, hlt, Xs_get hlt]
    refine scale_g ⟨b2, w2.good, by rw [w2.len]; omega⟩ (Nat.mod_lt _ hp.1) (ltr w2 hlj) fun h3 F3 g3 v3 i3 b3 e3 w3 l3 x3 => ?_
    simp -dsimp -implicitDefEqProofs only [↓STP, STQ, ne_eq, implies_true, forall_const, if_false, if_true, reduceCtorEq, ↓reduceIte, Nat.reduceEqDiff, Nat.reduceAdd, Int.reduceEq, Int.reduceLT, Int.reduceLE, Int.reduceNeg, Int.reduceAdd, Int.reduceSub, Int.reduceMul, Int.reduceToNat, Nat.reduceMul, Nat.reduceSub, Nat.reduceLT, Nat.reduceLeDiff]
    refine add_g ⟨b3, w3.good, by rw [w3.len, w2.len]; omega⟩ (ltr w3 hs) l3 fun h4 F4 g4 v4 i4 b4 e4 w4 l4 x4 => ?_
    obtain ⟨gv, ov, hg⟩ := b4.pp
    simp -dsimp -implicitDefEqProofs only [↓STP, STQ, ne_eq, implies_true, forall_const, if_false, if_true, reduceCtorEq, ↓reduceIte, Nat.reduceEqDiff, Nat.reduceAdd, Int.reduceEq, Int.reduceLT, Int.reduceLE, Int.reduceNeg, Int.reduceAdd, Int.reduceSub, Int.reduceMul, Int.reduceToNat, Nat.reduceMul, Nat.reduceSub, Nat.reduceLT, Nat.reduceLeDiff, hg]
    have h2j : 2 ^ j % p < p := Nat.mod_lt _ hp.1
    refine fadd_spec w4.good.sup (by omega) ?_
    simp -dsimp -implicitDefEqProofs only [↓STP, STQ, ne_eq, implies_true, forall_const, if_false, if_true, reduceCtorEq, ↓reduceIte, Nat.reduceEqDiff, Nat.reduceAdd, Int.reduceEq, Int.reduceLT, Int.reduceLE, Int.reduceNeg, Int.reduceAdd, Int.reduceSub, Int.reduceMul, Int.reduceToNat, Nat.reduceMul, Nat.reduceSub, Nat.reduceLT, Nat.reduceLeDiff, wj]
    refine ⟨_, by omega, j + 1, i4, h4, F4, g4, v4, rfl, by omega, b4, (e2.trans e3).trans e4, ?_, l4, ?_, ?_⟩
    · have := (w2.trans w3).trans w4
      rw [show 2 * (j + 1) + 1 = 2 * j + 1 + 1 + 1 by omega]; exact this
    · rw [x4, x3, w3.pre s hs, hv, w2.pre _ hlj, List.take_add_one, List.getElem?_eq_getElem hlt, List.map_append]
      simp only [Option.toList, List.map_cons, List.map_nil]
      rw [number_snoc, List.length_map, List.length_take, Nat.min_eq_left hj, Nat.add_mod, Nat.mod_mod, Nat.mod_mod]
      conv => rhs; rw [Nat.add_mod, Nat.mul_mod]
      conv => lhs; rw [Nat.mul_mod, Nat.mod_mod]
    · rw [← Nat.add_mod, ← Nat.two_mul, ← Nat.pow_succ']
  · simp -dsimp -implicitDefEqProofs only [↓STP, STQ, ne_eq, implies_true, forall_const, if_false, if_true, reduceCtorEq, ↓reduceIte, Nat.reduceEqDiff, Nat.reduceAdd, Int.reduceEq, Int.reduceLT, Int.reduceLE, Int.reduceNeg, Int.reduceAdd, Int.reduceSub, Int.reduceMul, Int.reduceToNat, Nat.reduceMul, Nat.reduceSub, Nat.reduceLT, Nat.reduceLeDiff, Int.ofNat_lt, hlt]
    have hjl : j = l.length := by omega
    refine hK h2 F2 g2 v2 s b2 e2 (by rw [← hjl]; exact w2) hs ?_
    rw [hv, List.take_of_length_le (by omega)]

end
end Go.Ab.Ytgfnhkedfmnijaa
