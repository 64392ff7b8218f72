/- Chapter 34: comparisons: the statement. -/
import Derived.Test.YtgfnhkedfmnijaaB8
set_option linter.unusedVariables false
set_option linter.unusedSimpArgs false
namespace Go.Ab.Ytgfnhkedfmnijaa

section
variable {h : H} {K : Out → H → Prop} {id p q : Nat} {F : Nat → Prop} {gs : List Gt} {vs : List Nat} {outs : List Int} {ls : List (List Nat)} {xs : List Nat}

/-- A row of inputs as wires. -/
theorem rowVals {n0 : Nat} {ws : List Nat} {vs : List Nat} (hv : ∀ j, (hj : j < ws.length) → vs.getD (n0 + j) 0 = ws[j]) : ((List.range' n0 ws.length).map fun x => vs.getD x 0) = ws := by
  apply List.ext_getElem
  · simp
  · intro i h1 h2
    simp only [List.getElem_map, List.getElem_range', Nat.one_mul]
    exact hv i h2

theorem rowBits {n0 : Nat} {ws : List Nat} (hl : n0 + ws.length ≤ gs.length) (hv : ∀ j, (hj : j < ws.length) → vs.getD (n0 + j) 0 = ws[j]) (hb : ∀ w ∈ ws, w ≤ 1) : BitsAt gs vs (List.range' n0 ws.length) := by
  intro x hx
  obtain ⟨j, hj, rfl⟩ := List.mem_range'.1 hx
  rw [Nat.one_mul]
  exact ⟨by omega, by rw [hv j hj]; exact hb _ (List.getElem_mem hj)⟩

theorem wbits {l : List Bool} : ∀ w ∈ l.map Bool.toNat, w ≤ 1 := by
  intro w hw
  obtain ⟨b, _, rfl⟩ := List.mem_map.1 hw
  exact Bool.toNat_le b

/-- Both rows are wired: inputs 1 and 2. -/
structure Rows2 (p q : Nat) (u v : List Nat) (gs : List Gt) (vs : List Nat) : Prop where
  good : Rgt p q [u, v] gs vs
  len : gs.length = u.length + v.length
  mul : muls gs = 0
  inp : ∀ f, cnt gs f = (if f = 1 then u.length else 0) + (if f = 2 then v.length else 0)
  val1 : ∀ j, (hj : j < u.length) → vs.getD (0 + j) 0 = u[j]
  val2 : ∀ j, (hj : j < v.length) → vs.getD (u.length + j) 0 = v[j]

theorem rows2 {u v : List Nat} {g1 g2 : List Gt} {v1 v2 : List Nat} (w1 : GrewN p q [u, v] [] [] 1 u g1 v1) (w2 : GrewN p q [u, v] g1 v1 2 v g2 v2) : Rows2 p q u v g2 v2 := by
  have l1 := w1.len
  simp only [List.length_nil, Nat.zero_add] at l1
  refine ⟨w2.good, by rw [w2.len, l1], by rw [w2.mul, w1.mul]; rfl, fun f => by rw [w2.inp, w1.inp]; simp [cnt], fun j hj => ?_, fun j hj => ?_⟩
  · rw [w2.pre _ (by omega)]; exact w1.val j hj
  · have := w2.val j hj; rwa [l1] at this

theorem Rows2.fit {u v : List Nat} {gs1 : List Gt} {vs1 : List Nat} {m n : Nat} (r : Rows2 p q u v gs vs) (w : Grew p q [u, v] gs vs m n gs1 vs1) (hu : ∀ w ∈ u, w ≤ 1) (hv : ∀ w ∈ v, w ≤ 1) : FitsC p gs1 [u, v] := by
  have hp := r.good.two
  refine fits_of w.good (by simp) (cnt_two (by rw [w.inp, r.inp]; simp) (by rw [w.inp, r.inp]; simp) (fun f h1 h2 => by rw [w.inp, r.inp]; simp [h1, h2])) (fun l hl x hx => ?_)
  simp only [List.mem_cons, List.not_mem_nil, or_false] at hl
  rcases hl with rfl | rfl
  · have := hu x hx; omega
  · have := hv x hx; omega

set_option maxHeartbeats 8000000 in
theorem law34_7 {p : Nat} {x y : List Bool} {cx cy : Cap} (hp : p < 18446744073709551616) (hlx : x.length ≤ 12) (hly : y.length ≤ 12) (hcx : capG x.length = cx) (hcy : capG y.length = cy) (hcx2 : cx = .full ∨ cx = .own 0) (hcy2 : cy = .full ∨ cy = .own 0) :
    R 7 [W p, .vec (Bs x) .any, .vec (Bs y) .any] h (fun o _ => o = .ret (.bool true)) := by
  refine run7 (Nat.le_of_ble_eq_true rfl) ?_
  simp -dsimp -implicitDefEqProofs only [↓STP, STQ, ne_eq, implies_true, forall_const, if_false, if_true, reduceCtorEq, ↓reduceIte, Nat.reduceEqDiff, Nat.reduceAdd, Int.reduceEq, Int.reduceLT, Int.reduceLE, Int.reduceNeg, Int.reduceAdd, Int.reduceSub, Int.reduceMul, Int.reduceToNat, Nat.reduceMul, Nat.reduceSub, Nat.reduceLT, Nat.reduceLeDiff, ir7]
  refine awake10 fun ha _ _ => ?_
  simp -dsimp -implicitDefEqProofs only [↓STP, STQ, ne_eq, implies_true, forall_const, if_false, if_true, reduceCtorEq, ↓reduceIte, Nat.reduceEqDiff, Nat.reduceAdd, Int.reduceEq, Int.reduceLT, Int.reduceLE, Int.reduceNeg, Int.reduceAdd, Int.reduceSub, Int.reduceMul, Int.reduceToNat, Nat.reduceMul, Nat.reduceSub, Nat.reduceLT, Nat.reduceLeDiff]
  refine supported_spec hp (fun hs => ?_) (fun hs => ?_)
  rotate_left
  · simp -dsimp -implicitDefEqProofs only [↓STP, STQ, ne_eq, implies_true, forall_const, if_false, if_true, reduceCtorEq, ↓reduceIte, Nat.reduceEqDiff, Nat.reduceAdd, Int.reduceEq, Int.reduceLT, Int.reduceLE, Int.reduceNeg, Int.reduceAdd, Int.reduceSub, Int.reduceMul, Int.reduceToNat, Nat.reduceMul, Nat.reduceSub, Nat.reduceLT, Nat.reduceLeDiff]
  obtain ⟨q, hs⟩ := hs
  simp -dsimp -implicitDefEqProofs only [↓STP, STQ, ne_eq, implies_true, forall_const, if_false, if_true, reduceCtorEq, ↓reduceIte, Nat.reduceEqDiff, Nat.reduceAdd, Int.reduceEq, Int.reduceLT, Int.reduceLE, Int.reduceNeg, Int.reduceAdd, Int.reduceSub, Int.reduceMul, Int.reduceToNat, Nat.reduceMul, Nat.reduceSub, Nat.reduceLT, Nat.reduceLeDiff, Bs_length, eq_false (show ¬ (12 : Int) < (x.length : Int) by omega), eq_false (show ¬ (12 : Int) < (y.length : Int) by omega)]
  refine words_specc rfl (by omega) fun cu hcu => ?_
  generalize hu : x.map Bool.toNat = u
  have hub : ∀ w ∈ u, w ≤ 1 := by rw [← hu]; exact wbits
  have hul : u.length = x.length := by rw [← hu, List.length_map]
  rw [hcx] at hcu
  subst hcu
  generalize hv : y.map Bool.toNat = v
  have hvb : ∀ w ∈ v, w ≤ 1 := by rw [← hv]; exact wbits
  have hvl : v.length = y.length := by rw [← hv, List.length_map]
  have g0 : Rgt p q [u, v] [] [] := good_nil hs
  have hp0 := g0.p0
  rcases hcx2 with rfl | rfl
  all_goals
    simp -dsimp -implicitDefEqProofs only [↓STP, STQ, ne_eq, implies_true, forall_const, if_false, if_true, reduceCtorEq, ↓reduceIte, Nat.reduceEqDiff, Nat.reduceAdd, Int.reduceEq, Int.reduceLT, Int.reduceLE, Int.reduceNeg, Int.reduceAdd, Int.reduceSub, Int.reduceMul, Int.reduceToNat, Nat.reduceMul, Nat.reduceSub, Nat.reduceLT, Nat.reduceLeDiff, Bs_length]
    refine words_specc rfl (by omega) fun cv hcv => ?_
    rw [hv]
    rw [hcy] at hcv
    subst hcv
    rcases hcy2 with rfl | rfl
    all_goals
      simp -dsimp -implicitDefEqProofs only [↓STP, STQ, ne_eq, implies_true, forall_const, if_false, if_true, reduceCtorEq, ↓reduceIte, Nat.reduceEqDiff, Nat.reduceAdd, Int.reduceEq, Int.reduceLT, Int.reduceLE, Int.reduceNeg, Int.reduceAdd, Int.reduceSub, Int.reduceMul, Int.reduceToNat, Nat.reduceMul, Nat.reduceSub, Nat.reduceLT, Nat.reduceLeDiff, Bs_length]
      refine new12 (p := p) fun hA FA bA oA nA => ?_
      simp -dsimp -implicitDefEqProofs only [↓STP, STQ, ne_eq, implies_true, forall_const, if_false, if_true, reduceCtorEq, ↓reduceIte, Nat.reduceEqDiff, Nat.reduceAdd, Int.reduceEq, Int.reduceLT, Int.reduceLE, Int.reduceNeg, Int.reduceAdd, Int.reduceSub, Int.reduceMul, Int.reduceToNat, Nat.reduceMul, Nat.reduceSub, Nat.reduceLT, Nat.reduceLeDiff, Bs_length]
      rw [← hul, ← hvl]
      refine ins_gc (f := 1) (ws := u) ⟨bA, g0, by simp⟩ (by decide) (by omega) (by decide) (by decide) (fun j hj => by simp [cnt, hj]) hub fun h1 F1 g1 v1 c hc b1 e1 w1 => ?_
      rw [hul, hcx] at hc
      subst hc
      have l1 := w1.len
      simp only [List.length_nil, Nat.zero_add] at l1
      simp -dsimp -implicitDefEqProofs only [↓STP, STQ, ne_eq, implies_true, forall_const, if_false, if_true, reduceCtorEq, ↓reduceIte, Nat.reduceEqDiff, Nat.reduceAdd, Int.reduceEq, Int.reduceLT, Int.reduceLE, Int.reduceNeg, Int.reduceAdd, Int.reduceSub, Int.reduceMul, Int.reduceToNat, Nat.reduceMul, Nat.reduceSub, Nat.reduceLT, Nat.reduceLeDiff, Bs_length]
      rw [← hvl]
      refine ins_gc (f := 2) (ws := v) ⟨b1, w1.good, by omega⟩ (by omega) (by omega) (by decide) (by decide) (fun j hj => by rw [w1.inp]; simp [cnt, hj]) hvb fun h2 F2 g2 v2 c hc b2 e2 w2 => ?_
      rw [hvl, hcy] at hc
      subst hc
      have r := rows2 w1 w2
      have l2 := r.len
      rw [l1]
      have bu := rowBits (gs := g2) (n0 := 0) (by omega) r.val1 hub
      have bv := rowBits (gs := g2) (n0 := u.length) (by omega) r.val2 hvb
      have vu := rowVals r.val1
      have vv := rowVals r.val2
      simp -dsimp -implicitDefEqProofs only [↓STP, STQ, ne_eq, implies_true, forall_const, if_false, if_true, reduceCtorEq, ↓reduceIte, Nat.reduceEqDiff, Nat.reduceAdd, Int.reduceEq, Int.reduceLT, Int.reduceLE, Int.reduceNeg, Int.reduceAdd, Int.reduceSub, Int.reduceMul, Int.reduceToNat, Nat.reduceMul, Nat.reduceSub, Nat.reduceLT, Nat.reduceLeDiff]
      refine less_g (lx := List.range' 0 u.length) (ly := List.range' u.length v.length) rfl rfl ⟨b2, r.good, by omega⟩ (by omega) (by rw [List.length_range']; omega) (by rw [List.length_range']; omega) bu bv fun h3 F3 g3 v3 e3' i3 he3 b3 e3 w3 k3 x3 => ?_
      simp -dsimp -implicitDefEqProofs only [↓STP, STQ, ne_eq, implies_true, forall_const, if_false, if_true, reduceCtorEq, ↓reduceIte, Nat.reduceEqDiff, Nat.reduceAdd, Int.reduceEq, Int.reduceLT, Int.reduceLE, Int.reduceNeg, Int.reduceAdd, Int.reduceSub, Int.reduceMul, Int.reduceToNat, Nat.reduceMul, Nat.reduceSub, Nat.reduceLT, Nat.reduceLeDiff]
      rw [vu, vv, List.length_range', List.length_range'] at x3
      have l3 := w3.len
      rw [List.length_range', List.length_range'] at l3
      refine output14 b3 (by simp) fun h4 F4 b4 e4 => ?_
      simp -dsimp -implicitDefEqProofs only [↓STP, STQ, ne_eq, implies_true, forall_const, if_false, if_true, reduceCtorEq, ↓reduceIte, Nat.reduceEqDiff, Nat.reduceAdd, Int.reduceEq, Int.reduceLT, Int.reduceLE, Int.reduceNeg, Int.reduceAdd, Int.reduceSub, Int.reduceMul, Int.reduceToNat, Nat.reduceMul, Nat.reduceSub, Nat.reduceLT, Nat.reduceLeDiff]
      have o4 := Bo.nil.snoc k3 x3
      refine equal_g (lx := List.range' 0 u.length) (ly := List.range' u.length v.length) rfl rfl ⟨b4, w3.good, by omega⟩ (by omega) (by rw [List.length_range']; omega) (by rw [List.length_range']; omega) (bu.grow w3) (bv.grow w3) fun h5 F5 g5 v5 e5' i5 he5 b5 e5 w5 k5 x5 => ?_
      simp -dsimp -implicitDefEqProofs only [↓STP, STQ, ne_eq, implies_true, forall_const, if_false, if_true, reduceCtorEq, ↓reduceIte, Nat.reduceEqDiff, Nat.reduceAdd, Int.reduceEq, Int.reduceLT, Int.reduceLE, Int.reduceNeg, Int.reduceAdd, Int.reduceSub, Int.reduceMul, Int.reduceToNat, Nat.reduceMul, Nat.reduceSub, Nat.reduceLT, Nat.reduceLeDiff]
      rw [bu.vals w3, bv.vals w3, vu, vv, List.length_range', List.length_range'] at x5
      have l5 := w5.len
      rw [List.length_range', List.length_range'] at l5
      refine output14 b5 (by simp) fun h6 F6 b6 e6 => ?_
      simp -dsimp -implicitDefEqProofs only [↓STP, STQ, ne_eq, implies_true, forall_const, if_false, if_true, reduceCtorEq, ↓reduceIte, Nat.reduceEqDiff, Nat.reduceAdd, Int.reduceEq, Int.reduceLT, Int.reduceLE, Int.reduceNeg, Int.reduceAdd, Int.reduceSub, Int.reduceMul, Int.reduceToNat, Nat.reduceMul, Nat.reduceSub, Nat.reduceLT, Nat.reduceLeDiff]
      have o6 := (o4.grow w5).snoc k5 x5
      refine compose_g (l := List.range' 0 u.length) rfl ⟨b6, w5.good, by omega⟩ (by rw [List.length_range']; omega) (by omega) (fun x hx => (((bu.grow w3).grow w5) x hx).1) fun h7 F7 g7 v7 i7 b7 e7 w7 k7 x7 => ?_
      simp -dsimp -implicitDefEqProofs only [↓STP, STQ, ne_eq, implies_true, forall_const, if_false, if_true, reduceCtorEq, ↓reduceIte, Nat.reduceEqDiff, Nat.reduceAdd, Int.reduceEq, Int.reduceLT, Int.reduceLE, Int.reduceNeg, Int.reduceAdd, Int.reduceSub, Int.reduceMul, Int.reduceToNat, Nat.reduceMul, Nat.reduceSub, Nat.reduceLT, Nat.reduceLeDiff]
      rw [(bu.grow w3).vals w5, bu.vals w3, vu] at x7
      have l7 := w7.len
      rw [List.length_range'] at l7
      refine output14 b7 (by simp) fun h8 F8 b8 e8 => ?_
      have o8 := (o6.grow w7).snoc k7 x7
      simp -dsimp -implicitDefEqProofs only [↓STP, STQ, ne_eq, implies_true, forall_const, if_false, if_true, reduceCtorEq, ↓reduceIte, Nat.reduceEqDiff, Nat.reduceAdd, Int.reduceEq, Int.reduceLT, Int.reduceLE, Int.reduceNeg, Int.reduceAdd, Int.reduceSub, Int.reduceMul, Int.reduceToNat, Nat.reduceMul, Nat.reduceSub, Nat.reduceLT, Nat.reduceLeDiff]
      have hfit := r.fit ((w3.trans w5).trans w7) hub hvb
      refine circuit23 b8 (by omega) (by simp) fun v' hv' => ?_
      have hv0 := hv'
      obtain ⟨q1, q2, hq1, hq2, rfl⟩ := hv'
      simp -dsimp -implicitDefEqProofs only [↓STP, STQ, ne_eq, implies_true, forall_const, if_false, if_true, reduceCtorEq, ↓reduceIte, Nat.reduceEqDiff, Nat.reduceAdd, Int.reduceEq, Int.reduceLT, Int.reduceLE, Int.reduceNeg, Int.reduceAdd, Int.reduceSub, Int.reduceMul, Int.reduceToNat, Nat.reduceMul, Nat.reduceSub, Nat.reduceLT, Nat.reduceLeDiff, out_sh hq1, out_sh hq2]
      refine less02 rfl rfl (by omega) (by omega) ?_
      simp -dsimp -implicitDefEqProofs only [↓STP, STQ, ne_eq, implies_true, forall_const, if_false, if_true, reduceCtorEq, ↓reduceIte, Nat.reduceEqDiff, Nat.reduceAdd, Int.reduceEq, Int.reduceLT, Int.reduceLE, Int.reduceNeg, Int.reduceAdd, Int.reduceSub, Int.reduceMul, Int.reduceToNat, Nat.reduceMul, Nat.reduceSub, Nat.reduceLT, Nat.reduceLeDiff, out_sh hq1, out_sh hq2]
      refine equal02 rfl rfl (by omega) (by omega) ?_
      simp -dsimp -implicitDefEqProofs only [↓STP, STQ, ne_eq, implies_true, forall_const, if_false, if_true, reduceCtorEq, ↓reduceIte, Nat.reduceEqDiff, Nat.reduceAdd, Int.reduceEq, Int.reduceLT, Int.reduceLE, Int.reduceNeg, Int.reduceAdd, Int.reduceSub, Int.reduceMul, Int.reduceToNat, Nat.reduceMul, Nat.reduceSub, Nat.reduceLT, Nat.reduceLeDiff, out_sh hq1, out_sh hq2]
      refine number34 hs rfl (by omega) hub ?_
      simp -dsimp -implicitDefEqProofs only [↓STP, STQ, ne_eq, implies_true, forall_const, if_false, if_true, reduceCtorEq, ↓reduceIte, Nat.reduceEqDiff, Nat.reduceAdd, Int.reduceEq, Int.reduceLT, Int.reduceLE, Int.reduceNeg, Int.reduceAdd, Int.reduceSub, Int.reduceMul, Int.reduceToNat, Nat.reduceMul, Nat.reduceSub, Nat.reduceLT, Nat.reduceLeDiff, out_sh hq1, out_sh hq2]
      refine tells_spec (xs := [prS fLess u v 0 (max u.length v.length), prS fLike u v 1 (max u.length v.length), number u % p]) rfl hv0 w7.good (by omega) (by simp) o8 hfit (lists2 (a := u) (b := v) (c := .full) rfl (by rfl) (by rfl)) fun h' _ _ => ?_
      simp -dsimp -implicitDefEqProofs only [↓STP, STQ, ne_eq, implies_true, forall_const, if_false, if_true, reduceCtorEq, ↓reduceIte, Nat.reduceEqDiff, Nat.reduceAdd, Int.reduceEq, Int.reduceLT, Int.reduceLE, Int.reduceNeg, Int.reduceAdd, Int.reduceSub, Int.reduceMul, Int.reduceToNat, Nat.reduceMul, Nat.reduceSub, Nat.reduceLT, Nat.reduceLeDiff]

theorem law34_7all {p : Nat} {x y : List Bool} (hp : p < 18446744073709551616) :
    R 7 [W p, .vec (Bs x) .any, .vec (Bs y) .any] h (fun o _ => o = .ret (.bool true)) := by
  by_cases hx : x.length ≤ 12
  · by_cases hy : y.length ≤ 12
    · exact law34_7 hp hx hy rfl rfl (capG_or _) (capG_or _)
    · refine run7 (Nat.le_of_ble_eq_true rfl) ?_
      simp -dsimp -implicitDefEqProofs only [↓STP, STQ, ne_eq, implies_true, forall_const, if_false, if_true, reduceCtorEq, ↓reduceIte, Nat.reduceEqDiff, Nat.reduceAdd, Int.reduceEq, Int.reduceLT, Int.reduceLE, Int.reduceNeg, Int.reduceAdd, Int.reduceSub, Int.reduceMul, Int.reduceToNat, Nat.reduceMul, Nat.reduceSub, Nat.reduceLT, Nat.reduceLeDiff, ir7]
      refine awake10 fun ha _ _ => ?_
      simp -dsimp -implicitDefEqProofs only [↓STP, STQ, ne_eq, implies_true, forall_const, if_false, if_true, reduceCtorEq, ↓reduceIte, Nat.reduceEqDiff, Nat.reduceAdd, Int.reduceEq, Int.reduceLT, Int.reduceLE, Int.reduceNeg, Int.reduceAdd, Int.reduceSub, Int.reduceMul, Int.reduceToNat, Nat.reduceMul, Nat.reduceSub, Nat.reduceLT, Nat.reduceLeDiff]
      refine supported_spec hp (fun hs => ?_) (fun hs => ?_)
      · simp -dsimp -implicitDefEqProofs only [↓STP, STQ, ne_eq, implies_true, forall_const, if_false, if_true, reduceCtorEq, ↓reduceIte, Nat.reduceEqDiff, Nat.reduceAdd, Int.reduceEq, Int.reduceLT, Int.reduceLE, Int.reduceNeg, Int.reduceAdd, Int.reduceSub, Int.reduceMul, Int.reduceToNat, Nat.reduceMul, Nat.reduceSub, Nat.reduceLT, Nat.reduceLeDiff, Bs_length, eq_false (show ¬ (12 : Int) < (x.length : Int) by omega), eq_true (show (12 : Int) < (y.length : Int) by omega)]
      · simp -dsimp -implicitDefEqProofs only [↓STP, STQ, ne_eq, implies_true, forall_const, if_false, if_true, reduceCtorEq, ↓reduceIte, Nat.reduceEqDiff, Nat.reduceAdd, Int.reduceEq, Int.reduceLT, Int.reduceLE, Int.reduceNeg, Int.reduceAdd, Int.reduceSub, Int.reduceMul, Int.reduceToNat, Nat.reduceMul, Nat.reduceSub, Nat.reduceLT, Nat.reduceLeDiff, Bs_length]
  · refine run7 (Nat.le_of_ble_eq_true rfl) ?_
    simp -dsimp -implicitDefEqProofs only [↓STP, STQ, ne_eq, implies_true, forall_const, if_false, if_true, reduceCtorEq, ↓reduceIte, Nat.reduceEqDiff, Nat.reduceAdd, Int.reduceEq, Int.reduceLT, Int.reduceLE, Int.reduceNeg, Int.reduceAdd, Int.reduceSub, Int.reduceMul, Int.reduceToNat, Nat.reduceMul, Nat.reduceSub, Nat.reduceLT, Nat.reduceLeDiff, ir7]
    refine awake10 fun ha _ _ => ?_
    simp -dsimp -implicitDefEqProofs only [↓STP, STQ, ne_eq, implies_true, forall_const, if_false, if_true, reduceCtorEq, ↓reduceIte, Nat.reduceEqDiff, Nat.reduceAdd, Int.reduceEq, Int.reduceLT, Int.reduceLE, Int.reduceNeg, Int.reduceAdd, Int.reduceSub, Int.reduceMul, Int.reduceToNat, Nat.reduceMul, Nat.reduceSub, Nat.reduceLT, Nat.reduceLeDiff]
    refine supported_spec hp (fun hs => ?_) (fun hs => ?_)
    · simp -dsimp -implicitDefEqProofs only [↓STP, STQ, ne_eq, implies_true, forall_const, if_false, if_true, reduceCtorEq, ↓reduceIte, Nat.reduceEqDiff, Nat.reduceAdd, Int.reduceEq, Int.reduceLT, Int.reduceLE, Int.reduceNeg, Int.reduceAdd, Int.reduceSub, Int.reduceMul, Int.reduceToNat, Nat.reduceMul, Nat.reduceSub, Nat.reduceLT, Nat.reduceLeDiff, Bs_length, eq_true (show (12 : Int) < (x.length : Int) by omega)]
    · simp -dsimp -implicitDefEqProofs only [↓STP, STQ, ne_eq, implies_true, forall_const, if_false, if_true, reduceCtorEq, ↓reduceIte, Nat.reduceEqDiff, Nat.reduceAdd, Int.reduceEq, Int.reduceLT, Int.reduceLE, Int.reduceNeg, Int.reduceAdd, Int.reduceSub, Int.reduceMul, Int.reduceToNat, Nat.reduceMul, Nat.reduceSub, Nat.reduceLT, Nat.reduceLeDiff, Bs_length]

end
end Go.Ab.Ytgfnhkedfmnijaa
