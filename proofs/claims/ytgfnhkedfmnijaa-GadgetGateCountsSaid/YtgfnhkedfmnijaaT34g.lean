/- Chapter 34: arithmetic of rows of bits: the statement. -/
import Derived.Test.YtgfnhkedfmnijaaB10
import Derived.Test.YtgfnhkedfmnijaaB12
import Derived.Test.YtgfnhkedfmnijaaT34f
set_option linter.unusedVariables false
set_option linter.unusedSimpArgs false
namespace Go.Ab.Ytgfnhkedfmnijaa

section
variable {h : H} {K : Out → H → Prop} {id p q : Nat} {F : Nat → Prop} {gs : List Gt} {vs : List Nat} {outs : List Int} {ls : List (List Nat)} {xs : List Nat}

/-- What the reference's operation of a kind yields. -/
def Lst (j : Nat) (u v w : List Nat) : Prop := (j = 0 ∧ w = addL u v) ∨ (j = 1 ∧ w = subL u v) ∨ (j = 2 ∧ w.length = u.length + v.length ∧ (∀ x ∈ w, x ≤ 1) ∧ number w = number u * number v)

theorem lists_spec {j : Nat} {u v w : List Nat} (hw : Lst j u v w) (hu : u.length ≤ 100) (hv : v.length ≤ 100) (hub : ∀ x ∈ u, x ≤ 1) (hvb : ∀ x ∈ v, x ≤ 1)
    (hK : ∀ h' x, WordsAt h' x w → h.next ≤ h'.next → (∀ j, j < h.next → h'.objs j = h.objs j) → K (.ret x) h') : R 43 [I j, .vec (Ws u) .any, .vec (Ws v) .any] h K := by
  refine run43 (Nat.le_of_ble_eq_true rfl) ?_
  rcases hw with ⟨hj, rfl⟩ | ⟨hj, rfl⟩ | ⟨hj, hl, hb, hn⟩
  · simp -dsimp -implicitDefEqProofs only [↓STP, STQ, ne_eq, implies_true, forall_const, if_false, if_true, reduceCtorEq, ↓reduceIte, Nat.reduceEqDiff, Nat.reduceAdd, Int.reduceEq, Int.reduceLT, Int.reduceLE, Int.reduceNeg, Int.reduceAdd, Int.reduceSub, Int.reduceMul, Int.reduceToNat, Nat.reduceMul, Nat.reduceSub, Nat.reduceLT, Nat.reduceLeDiff, ir43, eq_true (show (j : Int) = 0 by omega)]
    refine add02 (by omega) (by omega) hub hvb ?_
    simp -dsimp -implicitDefEqProofs only [↓STP, STQ, ne_eq, implies_true, forall_const, if_false, if_true, reduceCtorEq, ↓reduceIte, Nat.reduceEqDiff, Nat.reduceAdd, Int.reduceEq, Int.reduceLT, Int.reduceLE, Int.reduceNeg, Int.reduceAdd, Int.reduceSub, Int.reduceMul, Int.reduceToNat, Nat.reduceMul, Nat.reduceSub, Nat.reduceLT, Nat.reduceLeDiff]
    exact hK h _ (.inl rfl) (Nat.le_refl _) (fun _ _ => rfl)
  · simp -dsimp -implicitDefEqProofs only [↓STP, STQ, ne_eq, implies_true, forall_const, if_false, if_true, reduceCtorEq, ↓reduceIte, Nat.reduceEqDiff, Nat.reduceAdd, Int.reduceEq, Int.reduceLT, Int.reduceLE, Int.reduceNeg, Int.reduceAdd, Int.reduceSub, Int.reduceMul, Int.reduceToNat, Nat.reduceMul, Nat.reduceSub, Nat.reduceLT, Nat.reduceLeDiff, ir43, eq_false (show ¬ (j : Int) = 0 by omega), eq_true (show (j : Int) = 1 by omega)]
    refine sub02 (by omega) (by omega) hub hvb ?_
    simp -dsimp -implicitDefEqProofs only [↓STP, STQ, ne_eq, implies_true, forall_const, if_false, if_true, reduceCtorEq, ↓reduceIte, Nat.reduceEqDiff, Nat.reduceAdd, Int.reduceEq, Int.reduceLT, Int.reduceLE, Int.reduceNeg, Int.reduceAdd, Int.reduceSub, Int.reduceMul, Int.reduceToNat, Nat.reduceMul, Nat.reduceSub, Nat.reduceLT, Nat.reduceLeDiff]
    exact hK h _ (.inl rfl) (Nat.le_refl _) (fun _ _ => rfl)
  · simp -dsimp -implicitDefEqProofs only [↓STP, STQ, ne_eq, implies_true, forall_const, if_false, if_true, reduceCtorEq, ↓reduceIte, Nat.reduceEqDiff, Nat.reduceAdd, Int.reduceEq, Int.reduceLT, Int.reduceLE, Int.reduceNeg, Int.reduceAdd, Int.reduceSub, Int.reduceMul, Int.reduceToNat, Nat.reduceMul, Nat.reduceSub, Nat.reduceLT, Nat.reduceLeDiff, ir43, eq_false (show ¬ (j : Int) = 0 by omega), eq_false (show ¬ (j : Int) = 1 by omega)]
    refine mul02 (by omega) (by omega) hub hvb fun h' x rs r1 r2 r3 r4 r5 r6 => ?_
    have : rs = w := number_inj r2 hb (by rw [r1, hl]) (by rw [r3, hn])
    subst this
    have ho : x.outv = x ∧ x.out = some x := by rcases r4 with rfl | ⟨_, _, rfl, _⟩ <;> exact ⟨rfl, rfl⟩
    have hs : landV 5 x = x ∧ landV 4 x = x ∧ landV 3 x = x := by rcases r4 with rfl | ⟨_, _, rfl, _⟩ <;> exact ⟨rfl, rfl, rfl⟩
    rcases r4 with rfl | ⟨id, q1, rfl, q2⟩
    · simp -dsimp -implicitDefEqProofs only [↓STP, STQ, ne_eq, implies_true, forall_const, if_false, if_true, reduceCtorEq, ↓reduceIte, Nat.reduceEqDiff, Nat.reduceAdd, Int.reduceEq, Int.reduceLT, Int.reduceLE, Int.reduceNeg, Int.reduceAdd, Int.reduceSub, Int.reduceMul, Int.reduceToNat, Nat.reduceMul, Nat.reduceSub, Nat.reduceLT, Nat.reduceLeDiff]
      exact hK h' _ (.inl rfl) r5 r6
    · simp -dsimp -implicitDefEqProofs only [↓STP, STQ, ne_eq, implies_true, forall_const, if_false, if_true, reduceCtorEq, ↓reduceIte, Nat.reduceEqDiff, Nat.reduceAdd, Int.reduceEq, Int.reduceLT, Int.reduceLE, Int.reduceNeg, Int.reduceAdd, Int.reduceSub, Int.reduceMul, Int.reduceToNat, Nat.reduceMul, Nat.reduceSub, Nat.reduceLT, Nat.reduceLeDiff]
      exact hK h' _ (.inr ⟨id, q1, rfl, q2⟩) r5 r6

def InvBA (p : Nat) (x y : List Bool) (u v : List Nat) (k : Nat) (st : S) : Prop :=
  ∃ (j : Nat) (h1 : H), k = 3 - j ∧ j ≤ 3 ∧ st = ⟨upd (upd (upd (upd (upd (upd ρ0 0 (W p)) 1 (.vec (Bs x) .any)) 2 (.vec (Bs y) .any)) 7 (.vec (Ws u) .any)) 8 (.vec (Ws v) .any)) 9 (I j), m0, 0, [], h1⟩
def InvBO (p : Nat) (x y : List Bool) (u v : List Nat) (j id : Nat) (rs : List Nat) (gs : List Gt) (k : Nat) (st : S) : Prop :=
  ∃ (i : Nat) (h1 : H) (F1 : Nat → Prop), k = rs.length - i ∧ i ≤ rs.length ∧ BuAt h1 id F1 p gs ((rs.take i).map fun (x : Nat) => (x : Int)) ∧
    st = ⟨upd (upd (upd (upd (upd (upd (upd (upd (upd ρ0 0 (W p)) 1 (.vec (Bs x) .any)) 2 (.vec (Bs y) .any)) 7 (.vec (Ws u) .any)) 8 (.vec (Ws v) .any)) 9 (I j)) 10 (.ptr id 0)) 13 (.vec (Xs rs) .any)) 14 (I i), m0, 0, [], h1⟩

set_option maxHeartbeats 8000000 in
theorem law34_8 {p : Nat} {x y : List Bool} (hp : p < 18446744073709551616) (hlx : x.length ≤ 10) (hly : y.length ≤ 10) :
    R 8 [W p, .vec (Bs x) .any, .vec (Bs y) .any] h (fun o _ => o = .ret (.bool true)) := by
  refine run8 (Nat.le_of_ble_eq_true rfl) ?_
  simp -dsimp -implicitDefEqProofs only [↓STP, STQ, ne_eq, implies_true, forall_const, if_false, if_true, reduceCtorEq, ↓reduceIte, Nat.reduceEqDiff, Nat.reduceAdd, Int.reduceEq, Int.reduceLT, Int.reduceLE, Int.reduceNeg, Int.reduceAdd, Int.reduceSub, Int.reduceMul, Int.reduceToNat, Nat.reduceMul, Nat.reduceSub, Nat.reduceLT, Nat.reduceLeDiff, ir8]
  refine awake10 fun ha _ _ => ?_
  simp -dsimp -implicitDefEqProofs only [↓STP, STQ, ne_eq, implies_true, forall_const, if_false, if_true, reduceCtorEq, ↓reduceIte, Nat.reduceEqDiff, Nat.reduceAdd, Int.reduceEq, Int.reduceLT, Int.reduceLE, Int.reduceNeg, Int.reduceAdd, Int.reduceSub, Int.reduceMul, Int.reduceToNat, Nat.reduceMul, Nat.reduceSub, Nat.reduceLT, Nat.reduceLeDiff]
  refine supported_spec hp (fun hs => ?_) (fun hs => ?_)
  rotate_left
  · simp -dsimp -implicitDefEqProofs only [↓STP, STQ, ne_eq, implies_true, forall_const, if_false, if_true, reduceCtorEq, ↓reduceIte, Nat.reduceEqDiff, Nat.reduceAdd, Int.reduceEq, Int.reduceLT, Int.reduceLE, Int.reduceNeg, Int.reduceAdd, Int.reduceSub, Int.reduceMul, Int.reduceToNat, Nat.reduceMul, Nat.reduceSub, Nat.reduceLT, Nat.reduceLeDiff]
  obtain ⟨q, hs⟩ := hs
  simp -dsimp -implicitDefEqProofs only [↓STP, STQ, ne_eq, implies_true, forall_const, if_false, if_true, reduceCtorEq, ↓reduceIte, Nat.reduceEqDiff, Nat.reduceAdd, Int.reduceEq, Int.reduceLT, Int.reduceLE, Int.reduceNeg, Int.reduceAdd, Int.reduceSub, Int.reduceMul, Int.reduceToNat, Nat.reduceMul, Nat.reduceSub, Nat.reduceLT, Nat.reduceLeDiff, Bs_length, eq_false (show ¬ (10 : Int) < (x.length : Int) by omega), eq_false (show ¬ (10 : Int) < (y.length : Int) by omega)]
  refine words_spec (by omega) ?_
  simp -dsimp -implicitDefEqProofs only [↓STP, STQ, ne_eq, implies_true, forall_const, if_false, if_true, reduceCtorEq, ↓reduceIte, Nat.reduceEqDiff, Nat.reduceAdd, Int.reduceEq, Int.reduceLT, Int.reduceLE, Int.reduceNeg, Int.reduceAdd, Int.reduceSub, Int.reduceMul, Int.reduceToNat, Nat.reduceMul, Nat.reduceSub, Nat.reduceLT, Nat.reduceLeDiff]
  refine words_spec (by omega) ?_
  generalize hu : x.map Bool.toNat = u
  have hub : ∀ w ∈ u, w ≤ 1 := by rw [← hu]; exact wbits
  have hul : u.length = x.length := by rw [← hu, List.length_map]
  generalize hv : y.map Bool.toNat = v
  have hvb : ∀ w ∈ v, w ≤ 1 := by rw [← hv]; exact wbits
  have hvl : v.length = y.length := by rw [← hv, List.length_map]
  have g0 : Rgt p q [u, v] [] [] := good_nil hs
  have hp0 := g0.p0
  simp -dsimp -implicitDefEqProofs only [↓STP, STQ, ne_eq, implies_true, forall_const, if_false, if_true, reduceCtorEq, ↓reduceIte, Nat.reduceEqDiff, Nat.reduceAdd, Int.reduceEq, Int.reduceLT, Int.reduceLE, Int.reduceNeg, Int.reduceAdd, Int.reduceSub, Int.reduceMul, Int.reduceToNat, Nat.reduceMul, Nat.reduceSub, Nat.reduceLT, Nat.reduceLeDiff]
  refine codeT_loop (InvBA p x y u v) (i := 3) ⟨0, ha, rfl, by omega, by simp -dsimp -implicitDefEqProofs only [↓STP, STQ, ne_eq, implies_true, forall_const, if_false, if_true, reduceCtorEq, ↓reduceIte, Nat.reduceEqDiff, Nat.reduceAdd, Int.reduceEq, Int.reduceLT, Int.reduceLE, Int.reduceNeg, Int.reduceAdd, Int.reduceSub, Int.reduceMul, Int.reduceToNat, Nat.reduceMul, Nat.reduceSub, Nat.reduceLT, Nat.reduceLeDiff] <;> rfl⟩ ?_ mono
  rintro k st ⟨j, h0, rfl, hj, rfl⟩
  by_cases hlt : j < 3
  · simp -dsimp -implicitDefEqProofs only [↓STP, STQ, ne_eq, implies_true, forall_const, if_false, if_true, reduceCtorEq, ↓reduceIte, Nat.reduceEqDiff, Nat.reduceAdd, Int.reduceEq, Int.reduceLT, Int.reduceLE, Int.reduceNeg, Int.reduceAdd, Int.reduceSub, Int.reduceMul, Int.reduceToNat, Nat.reduceMul, Nat.reduceSub, Nat.reduceLT, Nat.reduceLeDiff, eq_true (show (j : Int) < 3 by omega)]
    refine new12 (p := p) fun hA FA bA oA nA => ?_
    simp -dsimp -implicitDefEqProofs only [↓STP, STQ, ne_eq, implies_true, forall_const, if_false, if_true, reduceCtorEq, ↓reduceIte, Nat.reduceEqDiff, Nat.reduceAdd, Int.reduceEq, Int.reduceLT, Int.reduceLE, Int.reduceNeg, Int.reduceAdd, Int.reduceSub, Int.reduceMul, Int.reduceToNat, Nat.reduceMul, Nat.reduceSub, Nat.reduceLT, Nat.reduceLeDiff, Bs_length]
    rw [← hul]
    refine ins_g (f := 1) (ws := u) ⟨bA, g0, by simp⟩ (by decide) (by omega) (by decide) (by decide) (fun j hj => by simp [cnt, hj]) hub fun h1 F1 g1 v1 b1 e1 w1 => ?_
    have l1 := w1.len
    simp only [List.length_nil, Nat.zero_add] at l1
    simp -dsimp -implicitDefEqProofs only [↓STP, STQ, ne_eq, implies_true, forall_const, if_false, if_true, reduceCtorEq, ↓reduceIte, Nat.reduceEqDiff, Nat.reduceAdd, Int.reduceEq, Int.reduceLT, Int.reduceLE, Int.reduceNeg, Int.reduceAdd, Int.reduceSub, Int.reduceMul, Int.reduceToNat, Nat.reduceMul, Nat.reduceSub, Nat.reduceLT, Nat.reduceLeDiff, Bs_length]
    rw [← hvl]
    refine ins_g (f := 2) (ws := v) ⟨b1, w1.good, by omega⟩ (by omega) (by omega) (by decide) (by decide) (fun j hj => by rw [w1.inp]; simp [cnt, hj]) hvb fun h2 F2 g2 v2 b2 e2 w2 => ?_
    have r := rows2 w1 w2
    have l2 := r.len
    rw [l1]
    have bu := rowBits (gs := g2) (n0 := 0) (by omega) r.val1 hub
    have bv := rowBits (gs := g2) (n0 := u.length) (by omega) r.val2 hvb
    have vu := rowVals r.val1
    have vv := rowVals r.val2
    have hmul : 10 * u.length * v.length ≤ 10 * 10 * 10 := Nat.mul_le_mul (Nat.mul_le_mul_left _ (by omega)) (by omega)
    have bd2 : Bd h2 h0.next F2 p q [u, v] g2 v2 [] := ⟨b2, r.good, by omega⟩
    have jj : j = 0 ∨ j = 1 ∨ j = 2 := by omega
    rcases jj with hj0 | hj0 | hj0
    · simp -dsimp -implicitDefEqProofs only [↓STP, STQ, ne_eq, implies_true, forall_const, if_false, if_true, reduceCtorEq, ↓reduceIte, Nat.reduceEqDiff, Nat.reduceAdd, Int.reduceEq, Int.reduceLT, Int.reduceLE, Int.reduceNeg, Int.reduceAdd, Int.reduceSub, Int.reduceMul, Int.reduceToNat, Nat.reduceMul, Nat.reduceSub, Nat.reduceLT, Nat.reduceLeDiff, eq_true (show (j : Int) = 0 by omega)]
      refine addBits_g (lx := List.range' 0 u.length) (ly := List.range' u.length v.length) bd2 (by omega) (by rw [List.length_range']; omega) (by rw [List.length_range']; omega) bu bv fun h3 F3 g3 v3 e rs he b3 e3 w3' rb x3 rl => ?_
      rw [vu, vv] at x3
      rw [List.length_range', List.length_range'] at w3' rl
      have want : Lst j u v (rs.map fun x => v3.getD x 0) := .inl ⟨hj0, x3⟩
      have rlen : rs.length ≤ 30 := by omega
      obtain ⟨m, n, w3, glen⟩ : ∃ m n, Grew p q [u, v] g2 v2 m n g3 v3 ∧ g3.length ≤ 2000 := ⟨_, _, w3', by have := w3'.len; omega⟩
      clear w3'
      have hfit := r.fit w3 hub hvb
      simp -dsimp -implicitDefEqProofs only [↓STP, STQ, ne_eq, implies_true, forall_const, if_false, if_true, reduceCtorEq, ↓reduceIte, Nat.reduceEqDiff, Nat.reduceAdd, Int.reduceEq, Int.reduceLT, Int.reduceLE, Int.reduceNeg, Int.reduceAdd, Int.reduceSub, Int.reduceMul, Int.reduceToNat, Nat.reduceMul, Nat.reduceSub, Nat.reduceLT, Nat.reduceLeDiff, Xs_len]
      refine codeT_loop (InvBO p x y u v j h0.next rs g3) (i := rs.length) ⟨0, h3, F3, rfl, by omega, b3, by simp -dsimp -implicitDefEqProofs only [↓STP, STQ, ne_eq, implies_true, forall_const, if_false, if_true, reduceCtorEq, ↓reduceIte, Nat.reduceEqDiff, Nat.reduceAdd, Int.reduceEq, Int.reduceLT, Int.reduceLE, Int.reduceNeg, Int.reduceAdd, Int.reduceSub, Int.reduceMul, Int.reduceToNat, Nat.reduceMul, Nat.reduceSub, Nat.reduceLT, Nat.reduceLeDiff] <;> rfl⟩ ?_ mono
      rintro k st ⟨i, h4, F4, rfl, hi, b4, rfl⟩
      by_cases hlt2 : i < rs.length
      · simp -dsimp -implicitDefEqProofs only [↓STP, STQ, ne_eq, implies_true, forall_const, if_false, if_true, reduceCtorEq, ↓reduceIte, Nat.reduceEqDiff, Nat.reduceAdd, Int.reduceEq, Int.reduceLT, Int.reduceLE, Int.reduceNeg, Int.reduceAdd, Int.reduceSub, Int.reduceMul, Int.reduceToNat, Nat.reduceMul, Nat.reduceSub, Nat.reduceLT, Nat.reduceLeDiff, Xs_len, Int.ofNat_lt, hlt2, Xs_get hlt2]
        refine output14 b4 (by rw [List.length_map, List.length_take]; omega) fun h5 F5 b5 e5 => ?_
        simp -dsimp -implicitDefEqProofs only [↓STP, STQ, ne_eq, implies_true, forall_const, if_false, if_true, reduceCtorEq, ↓reduceIte, Nat.reduceEqDiff, Nat.reduceAdd, Int.reduceEq, Int.reduceLT, Int.reduceLE, Int.reduceNeg, Int.reduceAdd, Int.reduceSub, Int.reduceMul, Int.reduceToNat, Nat.reduceMul, Nat.reduceSub, Nat.reduceLT, Nat.reduceLeDiff, wi (show i < 9000000000000000000 by omega)]
        refine ⟨_, ?_, i + 1, h5, F5, rfl, by omega, ?_, rfl⟩
        · omega
        · rw [List.take_add_one, List.getElem?_eq_getElem hlt2, List.map_append]; exact b5
      · have hir : i = rs.length := by omega
        subst hir
        rw [List.take_length] at b4
        simp -dsimp -implicitDefEqProofs only [↓STP, STQ, ne_eq, implies_true, forall_const, if_false, if_true, reduceCtorEq, ↓reduceIte, Nat.reduceEqDiff, Nat.reduceAdd, Int.reduceEq, Int.reduceLT, Int.reduceLE, Int.reduceNeg, Int.reduceAdd, Int.reduceSub, Int.reduceMul, Int.reduceToNat, Nat.reduceMul, Nat.reduceSub, Nat.reduceLT, Nat.reduceLeDiff, Xs_len, Int.lt_irrefl]
        refine circuit23 b4 (by omega) (by rw [List.length_map]; omega) ?_
        simp -dsimp -implicitDefEqProofs only [↓STP, STQ, ne_eq, implies_true, forall_const, if_false, if_true, reduceCtorEq, ↓reduceIte, Nat.reduceEqDiff, Nat.reduceAdd, Int.reduceEq, Int.reduceLT, Int.reduceLE, Int.reduceNeg, Int.reduceAdd, Int.reduceSub, Int.reduceMul, Int.reduceToNat, Nat.reduceMul, Nat.reduceSub, Nat.reduceLT, Nat.reduceLeDiff, circV]
        refine lists_spec want (by omega) (by omega) hub hvb fun h5 wv hw n5 o5 => ?_
        have ho := hw.out
        have hbo : Bo g3 v3 (rs.map fun (x : Nat) => (x : Int)) (rs.map fun x => v3.getD x 0) := by
          refine ⟨fun o ho => ?_, ?_⟩
          · obtain ⟨x, hx, rfl⟩ := List.mem_map.1 ho
            have := (rb x hx).1
            omega
          · unfold outVals
            rw [List.map_map]
            rfl
        have hland : ∀ n, landV n wv = wv := fun n => by rcases hw with rfl | ⟨_, _, rfl, _⟩ <;> rfl
        simp only [hland]
        simp -dsimp -implicitDefEqProofs only [↓STP, STQ, ne_eq, implies_true, forall_const, if_false, if_true, reduceCtorEq, ↓reduceIte, Nat.reduceEqDiff, Nat.reduceAdd, Int.reduceEq, Int.reduceLT, Int.reduceLE, Int.reduceNeg, Int.reduceAdd, Int.reduceSub, Int.reduceMul, Int.reduceToNat, Nat.reduceMul, Nat.reduceSub, Nat.reduceLT, Nat.reduceLeDiff, ho]
        refine tells_spec hw rfl w3.good (by omega) (by rw [List.length_map]; omega) hbo hfit (lists2 (a := u) (b := v)) fun h6 _ _ => ?_
        simp -dsimp -implicitDefEqProofs only [↓STP, STQ, ne_eq, implies_true, forall_const, if_false, if_true, reduceCtorEq, ↓reduceIte, Nat.reduceEqDiff, Nat.reduceAdd, Int.reduceEq, Int.reduceLT, Int.reduceLE, Int.reduceNeg, Int.reduceAdd, Int.reduceSub, Int.reduceMul, Int.reduceToNat, Nat.reduceMul, Nat.reduceSub, Nat.reduceLT, Nat.reduceLeDiff, wi (show j < 9000000000000000000 by omega)]
        exact ⟨_, by omega, j + 1, h6, rfl, by omega, rfl⟩
    · simp -dsimp -implicitDefEqProofs only [↓STP, STQ, ne_eq, implies_true, forall_const, if_false, if_true, reduceCtorEq, ↓reduceIte, Nat.reduceEqDiff, Nat.reduceAdd, Int.reduceEq, Int.reduceLT, Int.reduceLE, Int.reduceNeg, Int.reduceAdd, Int.reduceSub, Int.reduceMul, Int.reduceToNat, Nat.reduceMul, Nat.reduceSub, Nat.reduceLT, Nat.reduceLeDiff, eq_false (show ¬ (j : Int) = 0 by omega), eq_true (show (j : Int) = 1 by omega)]
      refine subBits_g (lx := List.range' 0 u.length) (ly := List.range' u.length v.length) bd2 (by omega) (by rw [List.length_range']; omega) (by rw [List.length_range']; omega) bu bv fun h3 F3 g3 v3 e rs he b3 e3 w3' rb x3 rl => ?_
      rw [vu, vv] at x3
      rw [List.length_range', List.length_range'] at w3'
      rw [List.length_range'] at rl
      have want : Lst j u v (rs.map fun x => v3.getD x 0) := .inr (.inl ⟨hj0, x3⟩)
      have rlen : rs.length ≤ 30 := by omega
      obtain ⟨m, n, w3, glen⟩ : ∃ m n, Grew p q [u, v] g2 v2 m n g3 v3 ∧ g3.length ≤ 2000 := ⟨_, _, w3', by have := w3'.len; omega⟩
      clear w3'
      have hfit := r.fit w3 hub hvb
      simp -dsimp -implicitDefEqProofs only [↓STP, STQ, ne_eq, implies_true, forall_const, if_false, if_true, reduceCtorEq, ↓reduceIte, Nat.reduceEqDiff, Nat.reduceAdd, Int.reduceEq, Int.reduceLT, Int.reduceLE, Int.reduceNeg, Int.reduceAdd, Int.reduceSub, Int.reduceMul, Int.reduceToNat, Nat.reduceMul, Nat.reduceSub, Nat.reduceLT, Nat.reduceLeDiff, Xs_len]
      refine codeT_loop (InvBO p x y u v j h0.next rs g3) (i := rs.length) ⟨0, h3, F3, rfl, by omega, b3, by simp -dsimp -implicitDefEqProofs only [↓STP, STQ, ne_eq, implies_true, forall_const, if_false, if_true, reduceCtorEq, ↓reduceIte, Nat.reduceEqDiff, Nat.reduceAdd, Int.reduceEq, Int.reduceLT, Int.reduceLE, Int.reduceNeg, Int.reduceAdd, Int.reduceSub, Int.reduceMul, Int.reduceToNat, Nat.reduceMul, Nat.reduceSub, Nat.reduceLT, Nat.reduceLeDiff] <;> rfl⟩ ?_ mono
      rintro k st ⟨i, h4, F4, rfl, hi, b4, rfl⟩
      by_cases hlt2 : i < rs.length
      · simp -dsimp -implicitDefEqProofs only [↓STP, STQ, ne_eq, implies_true, forall_const, if_false, if_true, reduceCtorEq, ↓reduceIte, Nat.reduceEqDiff, Nat.reduceAdd, Int.reduceEq, Int.reduceLT, Int.reduceLE, Int.reduceNeg, Int.reduceAdd, Int.reduceSub, Int.reduceMul, Int.reduceToNat, Nat.reduceMul, Nat.reduceSub, Nat.reduceLT, Nat.reduceLeDiff, Xs_len, Int.ofNat_lt, hlt2, Xs_get hlt2]
        refine output14 b4 (by rw [List.length_map, List.length_take]; omega) fun h5 F5 b5 e5 => ?_
        simp -dsimp -implicitDefEqProofs only [↓STP, STQ, ne_eq, implies_true, forall_const, if_false, if_true, reduceCtorEq, ↓reduceIte, Nat.reduceEqDiff, Nat.reduceAdd, Int.reduceEq, Int.reduceLT, Int.reduceLE, Int.reduceNeg, Int.reduceAdd, Int.reduceSub, Int.reduceMul, Int.reduceToNat, Nat.reduceMul, Nat.reduceSub, Nat.reduceLT, Nat.reduceLeDiff, wi (show i < 9000000000000000000 by omega)]
        refine ⟨_, ?_, i + 1, h5, F5, rfl, by omega, ?_, rfl⟩
        · omega
        · rw [List.take_add_one, List.getElem?_eq_getElem hlt2, List.map_append]; exact b5
      · have hir : i = rs.length := by omega
        subst hir
        rw [List.take_length] at b4
        simp -dsimp -implicitDefEqProofs only [↓STP, STQ, ne_eq, implies_true, forall_const, if_false, if_true, reduceCtorEq, ↓reduceIte, Nat.reduceEqDiff, Nat.reduceAdd, Int.reduceEq, Int.reduceLT, Int.reduceLE, Int.reduceNeg, Int.reduceAdd, Int.reduceSub, Int.reduceMul, Int.reduceToNat, Nat.reduceMul, Nat.reduceSub, Nat.reduceLT, Nat.reduceLeDiff, Xs_len, Int.lt_irrefl]
        refine circuit23 b4 (by omega) (by rw [List.length_map]; omega) ?_
        simp -dsimp -implicitDefEqProofs only [↓STP, STQ, ne_eq, implies_true, forall_const, if_false, if_true, reduceCtorEq, ↓reduceIte, Nat.reduceEqDiff, Nat.reduceAdd, Int.reduceEq, Int.reduceLT, Int.reduceLE, Int.reduceNeg, Int.reduceAdd, Int.reduceSub, Int.reduceMul, Int.reduceToNat, Nat.reduceMul, Nat.reduceSub, Nat.reduceLT, Nat.reduceLeDiff, circV]
        refine lists_spec want (by omega) (by omega) hub hvb fun h5 wv hw n5 o5 => ?_
        have ho := hw.out
        have hbo : Bo g3 v3 (rs.map fun (x : Nat) => (x : Int)) (rs.map fun x => v3.getD x 0) := by
          refine ⟨fun o ho => ?_, ?_⟩
          · obtain ⟨x, hx, rfl⟩ := List.mem_map.1 ho
            have := (rb x hx).1
            omega
          · unfold outVals
            rw [List.map_map]
            rfl
        have hland : ∀ n, landV n wv = wv := fun n => by rcases hw with rfl | ⟨_, _, rfl, _⟩ <;> rfl
        simp only [hland]
        simp -dsimp -implicitDefEqProofs only [↓STP, STQ, ne_eq, implies_true, forall_const, if_false, if_true, reduceCtorEq, ↓reduceIte, Nat.reduceEqDiff, Nat.reduceAdd, Int.reduceEq, Int.reduceLT, Int.reduceLE, Int.reduceNeg, Int.reduceAdd, Int.reduceSub, Int.reduceMul, Int.reduceToNat, Nat.reduceMul, Nat.reduceSub, Nat.reduceLT, Nat.reduceLeDiff, ho]
        refine tells_spec hw rfl w3.good (by omega) (by rw [List.length_map]; omega) hbo hfit (lists2 (a := u) (b := v)) fun h6 _ _ => ?_
        simp -dsimp -implicitDefEqProofs only [↓STP, STQ, ne_eq, implies_true, forall_const, if_false, if_true, reduceCtorEq, ↓reduceIte, Nat.reduceEqDiff, Nat.reduceAdd, Int.reduceEq, Int.reduceLT, Int.reduceLE, Int.reduceNeg, Int.reduceAdd, Int.reduceSub, Int.reduceMul, Int.reduceToNat, Nat.reduceMul, Nat.reduceSub, Nat.reduceLT, Nat.reduceLeDiff, wi (show j < 9000000000000000000 by omega)]
        exact ⟨_, by omega, j + 1, h6, rfl, by omega, rfl⟩
    · simp -dsimp -implicitDefEqProofs only [↓STP, STQ, ne_eq, implies_true, forall_const, if_false, if_true, reduceCtorEq, ↓reduceIte, Nat.reduceEqDiff, Nat.reduceAdd, Int.reduceEq, Int.reduceLT, Int.reduceLE, Int.reduceNeg, Int.reduceAdd, Int.reduceSub, Int.reduceMul, Int.reduceToNat, Nat.reduceMul, Nat.reduceSub, Nat.reduceLT, Nat.reduceLeDiff, eq_false (show ¬ (j : Int) = 0 by omega), eq_false (show ¬ (j : Int) = 1 by omega)]
      refine mulBits_g (lx := List.range' 0 u.length) (ly := List.range' u.length v.length) bd2 (by rw [List.length_range', List.length_range']; omega) (by rw [List.length_range']; omega) (by rw [List.length_range']; omega) bu bv fun h3 F3 g3 v3 rs gs3 rb x3 rl => ?_
      rw [vu, vv] at x3
      rw [List.length_range', List.length_range'] at gs3 rl
      have want : Lst j u v (rs.map fun x => v3.getD x 0) := .inr (.inr ⟨hj0, by rw [List.length_map, rl], rb.bits, x3⟩)
      have rlen : rs.length ≤ 30 := by omega
      have b3 := gs3.bu
      obtain ⟨m, n, w3, glen⟩ : ∃ m n, Grew p q [u, v] g2 v2 m n g3 v3 ∧ g3.length ≤ 2000 := by
        obtain ⟨m, n, _, hn, w⟩ := gs3.gr
        exact ⟨m, n, w, by have := w.len; omega⟩
      have hfit := r.fit w3 hub hvb
      simp -dsimp -implicitDefEqProofs only [↓STP, STQ, ne_eq, implies_true, forall_const, if_false, if_true, reduceCtorEq, ↓reduceIte, Nat.reduceEqDiff, Nat.reduceAdd, Int.reduceEq, Int.reduceLT, Int.reduceLE, Int.reduceNeg, Int.reduceAdd, Int.reduceSub, Int.reduceMul, Int.reduceToNat, Nat.reduceMul, Nat.reduceSub, Nat.reduceLT, Nat.reduceLeDiff, Xs_len]
      refine codeT_loop (InvBO p x y u v j h0.next rs g3) (i := rs.length) ⟨0, h3, F3, rfl, by omega, b3, by simp -dsimp -implicitDefEqProofs only [↓STP, STQ, ne_eq, implies_true, forall_const, if_false, if_true, reduceCtorEq, ↓reduceIte, Nat.reduceEqDiff, Nat.reduceAdd, Int.reduceEq, Int.reduceLT, Int.reduceLE, Int.reduceNeg, Int.reduceAdd, Int.reduceSub, Int.reduceMul, Int.reduceToNat, Nat.reduceMul, Nat.reduceSub, Nat.reduceLT, Nat.reduceLeDiff] <;> rfl⟩ ?_ mono
      rintro k st ⟨i, h4, F4, rfl, hi, b4, rfl⟩
      by_cases hlt2 : i < rs.length
      · simp -dsimp -implicitDefEqProofs only [↓STP, STQ, ne_eq, implies_true, forall_const, if_false, if_true, reduceCtorEq, ↓reduceIte, Nat.reduceEqDiff, Nat.reduceAdd, Int.reduceEq, Int.reduceLT, Int.reduceLE, Int.reduceNeg, Int.reduceAdd, Int.reduceSub, Int.reduceMul, Int.reduceToNat, Nat.reduceMul, Nat.reduceSub, Nat.reduceLT, Nat.reduceLeDiff, Xs_len, Int.ofNat_lt, hlt2, Xs_get hlt2]
        refine output14 b4 (by rw [List.length_map, List.length_take]; omega) fun h5 F5 b5 e5 => ?_
        simp -dsimp -implicitDefEqProofs only [↓STP, STQ, ne_eq, implies_true, forall_const, if_false, if_true, reduceCtorEq, ↓reduceIte, Nat.reduceEqDiff, Nat.reduceAdd, Int.reduceEq, Int.reduceLT, Int.reduceLE, Int.reduceNeg, Int.reduceAdd, Int.reduceSub, Int.reduceMul, Int.reduceToNat, Nat.reduceMul, Nat.reduceSub, Nat.reduceLT, Nat.reduceLeDiff, wi (show i < 9000000000000000000 by omega)]
        refine ⟨_, ?_, i + 1, h5, F5, rfl, by omega, ?_, rfl⟩
        · omega
        · rw [List.take_add_one, List.getElem?_eq_getElem hlt2, List.map_append]; exact b5
      · have hir : i = rs.length := by omega
        subst hir
        rw [List.take_length] at b4
        simp -dsimp -implicitDefEqProofs only [↓STP, STQ, ne_eq, implies_true, forall_const, if_false, if_true, reduceCtorEq, ↓reduceIte, Nat.reduceEqDiff, Nat.reduceAdd, Int.reduceEq, Int.reduceLT, Int.reduceLE, Int.reduceNeg, Int.reduceAdd, Int.reduceSub, Int.reduceMul, Int.reduceToNat, Nat.reduceMul, Nat.reduceSub, Nat.reduceLT, Nat.reduceLeDiff, Xs_len, Int.lt_irrefl]
        refine circuit23 b4 (by omega) (by rw [List.length_map]; omega) ?_
        simp -dsimp -implicitDefEqProofs only [↓STP, STQ, ne_eq, implies_true, forall_const, if_false, if_true, reduceCtorEq, ↓reduceIte, Nat.reduceEqDiff, Nat.reduceAdd, Int.reduceEq, Int.reduceLT, Int.reduceLE, Int.reduceNeg, Int.reduceAdd, Int.reduceSub, Int.reduceMul, Int.reduceToNat, Nat.reduceMul, Nat.reduceSub, Nat.reduceLT, Nat.reduceLeDiff, circV]
        refine lists_spec want (by omega) (by omega) hub hvb fun h5 wv hw n5 o5 => ?_
        have ho := hw.out
        have hbo : Bo g3 v3 (rs.map fun (x : Nat) => (x : Int)) (rs.map fun x => v3.getD x 0) := by
          refine ⟨fun o ho => ?_, ?_⟩
          · obtain ⟨x, hx, rfl⟩ := List.mem_map.1 ho
            have := (rb x hx).1
            omega
          · unfold outVals
            rw [List.map_map]
            rfl
        have hland : ∀ n, landV n wv = wv := fun n => by rcases hw with rfl | ⟨_, _, rfl, _⟩ <;> rfl
        simp only [hland]
        simp -dsimp -implicitDefEqProofs only [↓STP, STQ, ne_eq, implies_true, forall_const, if_false, if_true, reduceCtorEq, ↓reduceIte, Nat.reduceEqDiff, Nat.reduceAdd, Int.reduceEq, Int.reduceLT, Int.reduceLE, Int.reduceNeg, Int.reduceAdd, Int.reduceSub, Int.reduceMul, Int.reduceToNat, Nat.reduceMul, Nat.reduceSub, Nat.reduceLT, Nat.reduceLeDiff, ho]
        refine tells_spec hw rfl w3.good (by omega) (by rw [List.length_map]; omega) hbo hfit (lists2 (a := u) (b := v)) fun h6 _ _ => ?_
        simp -dsimp -implicitDefEqProofs only [↓STP, STQ, ne_eq, implies_true, forall_const, if_false, if_true, reduceCtorEq, ↓reduceIte, Nat.reduceEqDiff, Nat.reduceAdd, Int.reduceEq, Int.reduceLT, Int.reduceLE, Int.reduceNeg, Int.reduceAdd, Int.reduceSub, Int.reduceMul, Int.reduceToNat, Nat.reduceMul, Nat.reduceSub, Nat.reduceLT, Nat.reduceLeDiff, wi (show j < 9000000000000000000 by omega)]
        exact ⟨_, by omega, j + 1, h6, rfl, by omega, rfl⟩
  · simp -dsimp -implicitDefEqProofs only [↓STP, STQ, ne_eq, implies_true, forall_const, if_false, if_true, reduceCtorEq, ↓reduceIte, Nat.reduceEqDiff, Nat.reduceAdd, Int.reduceEq, Int.reduceLT, Int.reduceLE, Int.reduceNeg, Int.reduceAdd, Int.reduceSub, Int.reduceMul, Int.reduceToNat, Nat.reduceMul, Nat.reduceSub, Nat.reduceLT, Nat.reduceLeDiff, eq_false (show ¬ (j : Int) < 3 by omega)]

theorem law34_8all {p : Nat} {x y : List Bool} (hp : p < 18446744073709551616) :
    R 8 [W p, .vec (Bs x) .any, .vec (Bs y) .any] h (fun o _ => o = .ret (.bool true)) := by
  by_cases hx : x.length ≤ 10
  · by_cases hy : y.length ≤ 10
    · exact law34_8 hp hx hy
    · refine run8 (Nat.le_of_ble_eq_true rfl) ?_
      simp -dsimp -implicitDefEqProofs only [↓STP, STQ, ne_eq, implies_true, forall_const, if_false, if_true, reduceCtorEq, ↓reduceIte, Nat.reduceEqDiff, Nat.reduceAdd, Int.reduceEq, Int.reduceLT, Int.reduceLE, Int.reduceNeg, Int.reduceAdd, Int.reduceSub, Int.reduceMul, Int.reduceToNat, Nat.reduceMul, Nat.reduceSub, Nat.reduceLT, Nat.reduceLeDiff, ir8]
      refine awake10 fun ha _ _ => ?_
      simp -dsimp -implicitDefEqProofs only [↓STP, STQ, ne_eq, implies_true, forall_const, if_false, if_true, reduceCtorEq, ↓reduceIte, Nat.reduceEqDiff, Nat.reduceAdd, Int.reduceEq, Int.reduceLT, Int.reduceLE, Int.reduceNeg, Int.reduceAdd, Int.reduceSub, Int.reduceMul, Int.reduceToNat, Nat.reduceMul, Nat.reduceSub, Nat.reduceLT, Nat.reduceLeDiff]
      refine supported_spec hp (fun hs => ?_) (fun hs => ?_)
      · simp -dsimp -implicitDefEqProofs only [↓STP, STQ, ne_eq, implies_true, forall_const, if_false, if_true, reduceCtorEq, ↓reduceIte, Nat.reduceEqDiff, Nat.reduceAdd, Int.reduceEq, Int.reduceLT, Int.reduceLE, Int.reduceNeg, Int.reduceAdd, Int.reduceSub, Int.reduceMul, Int.reduceToNat, Nat.reduceMul, Nat.reduceSub, Nat.reduceLT, Nat.reduceLeDiff, Bs_length, eq_false (show ¬ (10 : Int) < (x.length : Int) by omega), eq_true (show (10 : Int) < (y.length : Int) by omega)]
      · simp -dsimp -implicitDefEqProofs only [↓STP, STQ, ne_eq, implies_true, forall_const, if_false, if_true, reduceCtorEq, ↓reduceIte, Nat.reduceEqDiff, Nat.reduceAdd, Int.reduceEq, Int.reduceLT, Int.reduceLE, Int.reduceNeg, Int.reduceAdd, Int.reduceSub, Int.reduceMul, Int.reduceToNat, Nat.reduceMul, Nat.reduceSub, Nat.reduceLT, Nat.reduceLeDiff, Bs_length]
  · refine run8 (Nat.le_of_ble_eq_true rfl) ?_
    simp -dsimp -implicitDefEqProofs only [↓STP, STQ, ne_eq, implies_true, forall_const, if_false, if_true, reduceCtorEq, ↓reduceIte, Nat.reduceEqDiff, Nat.reduceAdd, Int.reduceEq, Int.reduceLT, Int.reduceLE, Int.reduceNeg, Int.reduceAdd, Int.reduceSub, Int.reduceMul, Int.reduceToNat, Nat.reduceMul, Nat.reduceSub, Nat.reduceLT, Nat.reduceLeDiff, ir8]
    refine awake10 fun ha _ _ => ?_
    simp -dsimp -implicitDefEqProofs only [↓STP, STQ, ne_eq, implies_true, forall_const, if_false, if_true, reduceCtorEq, ↓reduceIte, Nat.reduceEqDiff, Nat.reduceAdd, Int.reduceEq, Int.reduceLT, Int.reduceLE, Int.reduceNeg, Int.reduceAdd, Int.reduceSub, Int.reduceMul, Int.reduceToNat, Nat.reduceMul, Nat.reduceSub, Nat.reduceLT, Nat.reduceLeDiff]
    refine supported_spec hp (fun hs => ?_) (fun hs => ?_)
    · simp -dsimp -implicitDefEqProofs only [↓STP, STQ, ne_eq, implies_true, forall_const, if_false, if_true, reduceCtorEq, ↓reduceIte, Nat.reduceEqDiff, Nat.reduceAdd, Int.reduceEq, Int.reduceLT, Int.reduceLE, Int.reduceNeg, Int.reduceAdd, Int.reduceSub, Int.reduceMul, Int.reduceToNat, Nat.reduceMul, Nat.reduceSub, Nat.reduceLT, Nat.reduceLeDiff, Bs_length, eq_true (show (10 : Int) < (x.length : Int) by omega)]
    · simp -dsimp -implicitDefEqProofs only [↓STP, STQ, ne_eq, implies_true, forall_const, if_false, if_true, reduceCtorEq, ↓reduceIte, Nat.reduceEqDiff, Nat.reduceAdd, Int.reduceEq, Int.reduceLT, Int.reduceLE, Int.reduceNeg, Int.reduceAdd, Int.reduceSub, Int.reduceMul, Int.reduceToNat, Nat.reduceMul, Nat.reduceSub, Nat.reduceLT, Nat.reduceLeDiff, Bs_length]

end
end Go.Ab.Ytgfnhkedfmnijaa
