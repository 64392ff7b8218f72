/- Chapter 34: snapshots of circuits. -/
import Derived.Test.YtgfnhkedfmnijaaT34a
set_option linter.unusedVariables false
set_option linter.unusedSimpArgs false
namespace Go.Ab.Ytgfnhkedfmnijaa

section
variable {h : H} {K : Out → H → Prop} {p q : Nat} {gs : List Gt} {outs : List Int}

def InvQ (t : Nat) (p : Nat) (gs : List Gt) (outs : List Int) (c1 c2 d1 d2 : Cap) (n : Nat) (h : H) (k : Nat) (st : S) : Prop :=
  ∃ i : Nat, k = n - i ∧ i ≤ n ∧ st = ⟨upd (upd (upd ρ0 2 (.lptr 0 3 0)) 3 (.lptr 1 3 0)) t (I i), upd (upd m0 0 (some (cbox p gs outs c1 c2))) 1 (some (cbox p gs outs d1 d2)), 2, [], h⟩

theorem requal_spec {v w : V} (hv : circF p gs outs v) (hw : circF p gs outs w) (hl : gs.length ≤ 20000) (ho : outs.length ≤ 1000) (hK : K (.ret (.bool true)) h) : R 25 [v, w] h K := by
  obtain ⟨c1, c2, hc1, hc2, rfl⟩ := hv
  obtain ⟨d1, d2, hd1, hd2, rfl⟩ := hw
  have w1 : ∀ {i : Nat}, i < 30000 → IntKind.i64.wrap ((i : Int) + 1) = ((i + 1 : Nat) : Int) := fun hi => by rw [wrap_i64] <;> omega
  refine run25 (Nat.le_of_ble_eq_true rfl) ?_
  simp -dsimp -implicitDefEqProofs only [↓STP, STQ, ne_eq, implies_true, forall_const, if_false, if_true, reduceCtorEq, ↓reduceIte, Nat.reduceEqDiff, Nat.reduceAdd, Int.reduceEq, Int.reduceLT, Int.reduceLE, Int.reduceNeg, Int.reduceAdd, Int.reduceSub, Int.reduceMul, Int.reduceToNat, Nat.reduceMul, Nat.reduceSub, Nat.reduceLT, Nat.reduceLeDiff, ir25, List.length_map, eq_self]
  refine codeT_loop (InvQ 5 p gs outs c1 c2 d1 d2 gs.length h) (i := gs.length) ⟨0, by omega, by omega, by simp -dsimp -implicitDefEqProofs only [↓STP, STQ, ne_eq, implies_true, forall_const, if_false, if_true, reduceCtorEq, ↓reduceIte, Nat.reduceEqDiff, Nat.reduceAdd, Int.reduceEq, Int.reduceLT, Int.reduceLE, Int.reduceNeg, Int.reduceAdd, Int.reduceSub, Int.reduceMul, Int.reduceToNat, Nat.reduceMul, Nat.reduceSub, Nat.reduceLT, Nat.reduceLeDiff, hc1, hc2, hd1, hd2, cbox] <;> rfl⟩ ?_ mono
  rintro k st ⟨i, rfl, hi, rfl⟩
  by_cases hlt : i < gs.length
  · have hget : (gs.map Gt.v)[i]? = some gs[i].v := by rw [List.getElem?_map, List.getElem?_eq_getElem hlt]; rfl
    simp -dsimp -implicitDefEqProofs only [↓STP, STQ, ne_eq, implies_true, forall_const, if_false, if_true, reduceCtorEq, ↓reduceIte, Nat.reduceEqDiff, Nat.reduceAdd, Int.reduceEq, Int.reduceLT, Int.reduceLE, Int.reduceNeg, Int.reduceAdd, Int.reduceSub, Int.reduceMul, Int.reduceToNat, Nat.reduceMul, Nat.reduceSub, Nat.reduceLT, Nat.reduceLeDiff, cbox, List.length_map, Int.ofNat_lt, hlt, hget, Gt.v, Gt.cells, eq_self, w1 (show i < 30000 by omega), hc1, hc2, hd1, hd2]
    exact ⟨_, by omega, i + 1, rfl, by omega, rfl⟩
  · simp -dsimp -implicitDefEqProofs only [↓STP, STQ, ne_eq, implies_true, forall_const, if_false, if_true, reduceCtorEq, ↓reduceIte, Nat.reduceEqDiff, Nat.reduceAdd, Int.reduceEq, Int.reduceLT, Int.reduceLE, Int.reduceNeg, Int.reduceAdd, Int.reduceSub, Int.reduceMul, Int.reduceToNat, Nat.reduceMul, Nat.reduceSub, Nat.reduceLT, Nat.reduceLeDiff, cbox, List.length_map, Int.ofNat_lt, hlt]
    refine codeT_loop (InvQ 6 p gs outs c1 c2 d1 d2 outs.length h) (i := outs.length) ⟨0, by omega, by omega, by simp -dsimp -implicitDefEqProofs only [↓STP, STQ, ne_eq, implies_true, forall_const, if_false, if_true, reduceCtorEq, ↓reduceIte, Nat.reduceEqDiff, Nat.reduceAdd, Int.reduceEq, Int.reduceLT, Int.reduceLE, Int.reduceNeg, Int.reduceAdd, Int.reduceSub, Int.reduceMul, Int.reduceToNat, Nat.reduceMul, Nat.reduceSub, Nat.reduceLT, Nat.reduceLeDiff, hc1, hc2, hd1, hd2, cbox] <;> rfl⟩ ?_ mono
    rintro k st ⟨i, rfl, hi, rfl⟩
    by_cases hlt2 : i < outs.length
    · have hget : (outs.map I)[i]? = some (I outs[i]) := by rw [List.getElem?_map, List.getElem?_eq_getElem hlt2]; rfl
      simp -dsimp -implicitDefEqProofs only [↓STP, STQ, ne_eq, implies_true, forall_const, if_false, if_true, reduceCtorEq, ↓reduceIte, Nat.reduceEqDiff, Nat.reduceAdd, Int.reduceEq, Int.reduceLT, Int.reduceLE, Int.reduceNeg, Int.reduceAdd, Int.reduceSub, Int.reduceMul, Int.reduceToNat, Nat.reduceMul, Nat.reduceSub, Nat.reduceLT, Nat.reduceLeDiff, cbox, List.length_map, Int.ofNat_lt, hlt2, hget, eq_self, w1 (show i < 30000 by omega), hc1, hc2, hd1, hd2]
      exact ⟨_, by omega, i + 1, rfl, by omega, rfl⟩
    · simp -dsimp -implicitDefEqProofs only [↓STP, STQ, ne_eq, implies_true, forall_const, if_false, if_true, reduceCtorEq, ↓reduceIte, Nat.reduceEqDiff, Nat.reduceAdd, Int.reduceEq, Int.reduceLT, Int.reduceLE, Int.reduceNeg, Int.reduceAdd, Int.reduceSub, Int.reduceMul, Int.reduceToNat, Nat.reduceMul, Nat.reduceSub, Nat.reduceLT, Nat.reduceLeDiff, cbox, List.length_map, Int.ofNat_lt, hlt2]
      exact hK

theorem gv_cells {gs : List Gt} : ∀ e ∈ gs.map Gt.v, e.cells.length = 5 := by
  intro e he
  obtain ⟨g, _, rfl⟩ := List.mem_map.1 he
  rfl
theorem gv_flat {gs : List Gt} : (gs.map Gt.v).flatMap V.cells = (gs.map Gt.cells).flatten := by
  induction gs with
  | nil => rfl
  | cons g gs ih => rw [List.map_cons, List.flatMap_cons, ih]; rfl

/-- A copy of gates, out of a slice. -/
theorem app_gates {st : S} {s : Nat} {c : Cap} (hne : gs ≠ []) (hl : gs.length < 1000000) : appV st s (.vec [] .full) (.vec (gs.map Gt.v) c) 5 40 true false = some (.vec (gs.map Gt.v) (.own s), st) := by
  have hfl : (gs.map Gt.cells).flatten.length = gs.length * 5 := by
    have := flatten_len (sz := 5) (css := gs.map Gt.cells) (by intro c hc; obtain ⟨g, _, rfl⟩ := List.mem_map.1 hc; rfl)
    simpa using this
  simp only [appV, lenV, flat, List.length_map, gv_flat]
  rw [if_pos ⟨hfl, by decide, by decide⟩, if_pos ⟨by unfold most; simp; omega, by simp⟩, if_neg (by simpa using hne)]
  have := chunk_flatten (ag := true) (sz := 5) (css := gs.map Gt.cells) (by intro c hc; obtain ⟨g, _, rfl⟩ := List.mem_map.1 hc; rfl)
  rw [List.length_map] at this
  rw [this, List.map_map]
  rfl

theorem law34_5 {p x0 x1 : Nat} (hp : p < 18446744073709551616) (h0 : x0 < 18446744073709551616) (h1 : x1 < 18446744073709551616) :
    R 5 [W p, .agg [W x0, W x1]] h (fun o _ => o = .ret (.bool true)) := by
  refine run5 (Nat.le_of_ble_eq_true rfl) ?_
  simp -dsimp -implicitDefEqProofs only [↓STP, STQ, ne_eq, implies_true, forall_const, if_false, if_true, reduceCtorEq, ↓reduceIte, Nat.reduceEqDiff, Nat.reduceAdd, Int.reduceEq, Int.reduceLT, Int.reduceLE, Int.reduceNeg, Int.reduceAdd, Int.reduceSub, Int.reduceMul, Int.reduceToNat, Nat.reduceMul, Nat.reduceSub, Nat.reduceLT, Nat.reduceLeDiff, ir5]
  refine awake10 fun ha _ _ => ?_
  simp -dsimp -implicitDefEqProofs only [↓STP, STQ, ne_eq, implies_true, forall_const, if_false, if_true, reduceCtorEq, ↓reduceIte, Nat.reduceEqDiff, Nat.reduceAdd, Int.reduceEq, Int.reduceLT, Int.reduceLE, Int.reduceNeg, Int.reduceAdd, Int.reduceSub, Int.reduceMul, Int.reduceToNat, Nat.reduceMul, Nat.reduceSub, Nat.reduceLT, Nat.reduceLeDiff]
  refine supported_spec hp (fun hs => ?_) (fun hs => ?_)
  rotate_left
  · simp -dsimp -implicitDefEqProofs only [↓STP, STQ, ne_eq, implies_true, forall_const, if_false, if_true, reduceCtorEq, ↓reduceIte, Nat.reduceEqDiff, Nat.reduceAdd, Int.reduceEq, Int.reduceLT, Int.reduceLE, Int.reduceNeg, Int.reduceAdd, Int.reduceSub, Int.reduceMul, Int.reduceToNat, Nat.reduceMul, Nat.reduceSub, Nat.reduceLT, Nat.reduceLeDiff]
  obtain ⟨q, hs⟩ := hs
  simp -dsimp -implicitDefEqProofs only [↓STP, STQ, ne_eq, implies_true, forall_const, if_false, if_true, reduceCtorEq, ↓reduceIte, Nat.reduceEqDiff, Nat.reduceAdd, Int.reduceEq, Int.reduceLT, Int.reduceLE, Int.reduceNeg, Int.reduceAdd, Int.reduceSub, Int.reduceMul, Int.reduceToNat, Nat.reduceMul, Nat.reduceSub, Nat.reduceLT, Nat.reduceLeDiff]
  by_cases c0 : (p : Int) ≤ x0
  · simp -dsimp -implicitDefEqProofs only [↓STP, STQ, ne_eq, implies_true, forall_const, if_false, if_true, reduceCtorEq, ↓reduceIte, Nat.reduceEqDiff, Nat.reduceAdd, Int.reduceEq, Int.reduceLT, Int.reduceLE, Int.reduceNeg, Int.reduceAdd, Int.reduceSub, Int.reduceMul, Int.reduceToNat, Nat.reduceMul, Nat.reduceSub, Nat.reduceLT, Nat.reduceLeDiff, eq_true c0]
  by_cases c1 : (p : Int) ≤ x1
  · simp -dsimp -implicitDefEqProofs only [↓STP, STQ, ne_eq, implies_true, forall_const, if_false, if_true, reduceCtorEq, ↓reduceIte, Nat.reduceEqDiff, Nat.reduceAdd, Int.reduceEq, Int.reduceLT, Int.reduceLE, Int.reduceNeg, Int.reduceAdd, Int.reduceSub, Int.reduceMul, Int.reduceToNat, Nat.reduceMul, Nat.reduceSub, Nat.reduceLT, Nat.reduceLeDiff, eq_false c0, eq_true c1]
  simp -dsimp -implicitDefEqProofs only [↓STP, STQ, ne_eq, implies_true, forall_const, if_false, if_true, reduceCtorEq, ↓reduceIte, Nat.reduceEqDiff, Nat.reduceAdd, Int.reduceEq, Int.reduceLT, Int.reduceLE, Int.reduceNeg, Int.reduceAdd, Int.reduceSub, Int.reduceMul, Int.reduceToNat, Nat.reduceMul, Nat.reduceSub, Nat.reduceLT, Nat.reduceLeDiff, eq_false c0, eq_false c1]
  have hx0 : x0 < p := by omega
  have hx1 : x1 < p := by omega
  refine new12 (p := p) fun hA FA bA oA nA => ?_
  simp -dsimp -implicitDefEqProofs only [↓STP, STQ, ne_eq, implies_true, forall_const, if_false, if_true, reduceCtorEq, ↓reduceIte, Nat.reduceEqDiff, Nat.reduceAdd, Int.reduceEq, Int.reduceLT, Int.reduceLE, Int.reduceNeg, Int.reduceAdd, Int.reduceSub, Int.reduceMul, Int.reduceToNat, Nat.reduceMul, Nat.reduceSub, Nat.reduceLT, Nat.reduceLeDiff]
  have g0 : Rgt p q [[x0], [x1]] [] [] := good_nil hs
  have hp0 := g0.p0
  refine input_g (bit := false) (f := 1) (x := x0) ⟨bA, g0, by simp⟩ (by decide) (by decide) (by simp [cnt]) hx0 (by simp) fun h1 F1 g1 v1 b1 e1 w1 => ?_
  simp -dsimp -implicitDefEqProofs only [↓STP, STQ, ne_eq, implies_true, forall_const, if_false, if_true, reduceCtorEq, ↓reduceIte, Nat.reduceEqDiff, Nat.reduceAdd, Int.reduceEq, Int.reduceLT, Int.reduceLE, Int.reduceNeg, Int.reduceAdd, Int.reduceSub, Int.reduceMul, Int.reduceToNat, Nat.reduceMul, Nat.reduceSub, Nat.reduceLT, Nat.reduceLeDiff]
  have l1 := w1.len
  simp only [List.length_nil, Nat.zero_add] at l1
  have c1 := w1.inp
  refine input_g (bit := false) (f := 2) (x := x1) ⟨b1, w1.good, by omega⟩ (by decide) (by decide) (by rw [c1 2]; simp [cnt]) hx1 (by simp) fun h2 F2 g2 v2 b2 e2 w2 => ?_
  have l2 := w2.len
  have c2 := w2.inp
  rw [l1] at l2 ⊢
  have vx : v2.getD 0 0 = x0 := by rw [w2.pre 0 (by omega)]; exact w1.val
  have vy : v2.getD 1 0 = x1 := by have := w2.val; rw [l1] at this; exact this
  simp -dsimp -implicitDefEqProofs only [↓STP, STQ, ne_eq, implies_true, forall_const, if_false, if_true, reduceCtorEq, ↓reduceIte, Nat.reduceEqDiff, Nat.reduceAdd, Int.reduceEq, Int.reduceLT, Int.reduceLE, Int.reduceNeg, Int.reduceAdd, Int.reduceSub, Int.reduceMul, Int.reduceToNat, Nat.reduceMul, Nat.reduceSub, Nat.reduceLT, Nat.reduceLeDiff]
  refine add_g (x := 0) (y := 1) ⟨b2, w2.good, by omega⟩ (by omega) (by omega) fun h3 F3 g3 v3 i3 b3 e3 w3 k3 x3 => ?_
  simp -dsimp -implicitDefEqProofs only [↓STP, STQ, ne_eq, implies_true, forall_const, if_false, if_true, reduceCtorEq, ↓reduceIte, Nat.reduceEqDiff, Nat.reduceAdd, Int.reduceEq, Int.reduceLT, Int.reduceLE, Int.reduceNeg, Int.reduceAdd, Int.reduceSub, Int.reduceMul, Int.reduceToNat, Nat.reduceMul, Nat.reduceSub, Nat.reduceLT, Nat.reduceLeDiff]
  have l3 := w3.len
  rw [vx, vy] at x3
  refine output14 b3 (by simp) fun h4 F4 b4 e4 => ?_
  simp -dsimp -implicitDefEqProofs only [↓STP, STQ, ne_eq, implies_true, forall_const, if_false, if_true, reduceCtorEq, ↓reduceIte, Nat.reduceEqDiff, Nat.reduceAdd, Int.reduceEq, Int.reduceLT, Int.reduceLE, Int.reduceNeg, Int.reduceAdd, Int.reduceSub, Int.reduceMul, Int.reduceToNat, Nat.reduceMul, Nat.reduceSub, Nat.reduceLT, Nat.reduceLeDiff]
  have o4 := Bo.nil.snoc k3 x3
  have vx3 : v3.getD 0 0 = x0 := by rw [w3.pre 0 (by omega), vx]
  have vy3 : v3.getD 1 0 = x1 := by rw [w3.pre 1 (by omega), vy]
  refine circuit23 b4 (by omega) (by simp) fun v hv => ?_
  have hv0 := hv
  obtain ⟨q1, q2, hq1, hq2, rfl⟩ := hv
  simp -dsimp -implicitDefEqProofs only [↓STP, STQ, ne_eq, implies_true, forall_const, if_false, if_true, reduceCtorEq, ↓reduceIte, Nat.reduceEqDiff, Nat.reduceAdd, Int.reduceEq, Int.reduceLT, Int.reduceLE, Int.reduceNeg, Int.reduceAdd, Int.reduceSub, Int.reduceMul, Int.reduceToNat, Nat.reduceMul, Nat.reduceSub, Nat.reduceLT, Nat.reduceLeDiff, storeV, out_sh hq1, out_sh hq2]
  rw [app_gates (List.ne_nil_of_length_pos (by omega)) (by omega)]
  simp -dsimp -implicitDefEqProofs only [↓STP, STQ, ne_eq, implies_true, forall_const, if_false, if_true, reduceCtorEq, ↓reduceIte, Nat.reduceEqDiff, Nat.reduceAdd, Int.reduceEq, Int.reduceLT, Int.reduceLE, Int.reduceNeg, Int.reduceAdd, Int.reduceSub, Int.reduceMul, Int.reduceToNat, Nat.reduceMul, Nat.reduceSub, Nat.reduceLT, Nat.reduceLeDiff]
  refine mul_g (x := 0) (y := 1) ⟨b4, w3.good, by omega⟩ (by omega) (by omega) fun h7 F7 g7 v7 i7 b7 e7 w7 k7 x7 => ?_
  simp -dsimp -implicitDefEqProofs only [↓STP, STQ, ne_eq, implies_true, forall_const, if_false, if_true, reduceCtorEq, ↓reduceIte, Nat.reduceEqDiff, Nat.reduceAdd, Int.reduceEq, Int.reduceLT, Int.reduceLE, Int.reduceNeg, Int.reduceAdd, Int.reduceSub, Int.reduceMul, Int.reduceToNat, Nat.reduceMul, Nat.reduceSub, Nat.reduceLT, Nat.reduceLeDiff]
  have l7 := w7.len
  rw [vx3, vy3] at x7
  refine output14 b7 (by simp) fun h8 F8 b8 e8 => ?_
  simp -dsimp -implicitDefEqProofs only [↓STP, STQ, ne_eq, implies_true, forall_const, if_false, if_true, reduceCtorEq, ↓reduceIte, Nat.reduceEqDiff, Nat.reduceAdd, Int.reduceEq, Int.reduceLT, Int.reduceLE, Int.reduceNeg, Int.reduceAdd, Int.reduceSub, Int.reduceMul, Int.reduceToNat, Nat.reduceMul, Nat.reduceSub, Nat.reduceLT, Nat.reduceLeDiff]
  have o8 := (o4.grow w7).snoc k7 x7
  refine circuit23 b8 (by omega) (by simp) fun v' hv' => ?_
  have hv0' := hv'
  obtain ⟨r1, r2, hr1, hr2, rfl⟩ := hv'
  simp -dsimp -implicitDefEqProofs only [↓STP, STQ, ne_eq, implies_true, forall_const, if_false, if_true, reduceCtorEq, ↓reduceIte, Nat.reduceEqDiff, Nat.reduceAdd, Int.reduceEq, Int.reduceLT, Int.reduceLE, Int.reduceNeg, Int.reduceAdd, Int.reduceSub, Int.reduceMul, Int.reduceToNat, Nat.reduceMul, Nat.reduceSub, Nat.reduceLT, Nat.reduceLeDiff, storeV, out_sh hq1, out_sh hq2, out_sh hr1, out_sh hr2]
  refine requal_spec (p := p) (gs := g3) (outs := [] ++ [(i3 : Int)]) ⟨q1, q2, hq1, hq2, rfl⟩ ⟨.any, q2, rfl, hq2, rfl⟩ (by omega) (by simp) ?_
  simp -dsimp -implicitDefEqProofs only [↓STP, STQ, ne_eq, implies_true, forall_const, if_false, if_true, reduceCtorEq, ↓reduceIte, Nat.reduceEqDiff, Nat.reduceAdd, Int.reduceEq, Int.reduceLT, Int.reduceLE, Int.reduceNeg, Int.reduceAdd, Int.reduceSub, Int.reduceMul, Int.reduceToNat, Nat.reduceMul, Nat.reduceSub, Nat.reduceLT, Nat.reduceLeDiff, out_sh hq1, out_sh hq2, out_sh hr1, out_sh hr2, List.length_map, List.length_append]
  refine op0 hp0.1 (by omega) ?_
  simp -dsimp -implicitDefEqProofs only [↓STP, STQ, ne_eq, implies_true, forall_const, if_false, if_true, reduceCtorEq, ↓reduceIte, Nat.reduceEqDiff, Nat.reduceAdd, Int.reduceEq, Int.reduceLT, Int.reduceLE, Int.reduceNeg, Int.reduceAdd, Int.reduceSub, Int.reduceMul, Int.reduceToNat, Nat.reduceMul, Nat.reduceSub, Nat.reduceLT, Nat.reduceLeDiff, out_sh hq1, out_sh hq2, out_sh hr1, out_sh hr2]
  have cc3 : ∀ f, cnt g3 f = cnt [] f + (if f = 1 then 1 else 0) + (if f = 2 then 1 else 0) := fun f => by rw [w3.inp, c2, c1]
  have cc7 : ∀ f, cnt g7 f = cnt [] f + (if f = 1 then 1 else 0) + (if f = 2 then 1 else 0) := fun f => by rw [w7.inp, w3.inp, c2, c1]
  have hfit3 : FitsC p g3 [[x0], [x1]] := fits_of w3.good (by simp) (cnt_two (by rw [cc3]; rfl) (by rw [cc3]; rfl) (fun f h1 h2 => by rw [cc3]; simp [h1, h2, cnt])) (by simp; omega)
  have hfit7 : FitsC p g7 [[x0], [x1]] := fits_of w7.good (by simp) (cnt_two (by rw [cc7]; rfl) (by rw [cc7]; rfl) (fun f h1 h2 => by rw [cc7]; simp [h1, h2, cnt])) (by simp; omega)
  refine tells_spec (xs := [(x0 + x1) % p]) rfl ⟨q1, q2, hq1, hq2, rfl⟩ w3.good (by omega) (by simp) o4 hfit3 (lists2 (a := [x0]) (b := [x1]) (c := .full) (c1 := .full) (c2 := .full) rfl rfl rfl) fun h' _ _ => ?_
  simp -dsimp -implicitDefEqProofs only [↓STP, STQ, ne_eq, implies_true, forall_const, if_false, if_true, reduceCtorEq, ↓reduceIte, Nat.reduceEqDiff, Nat.reduceAdd, Int.reduceEq, Int.reduceLT, Int.reduceLE, Int.reduceNeg, Int.reduceAdd, Int.reduceSub, Int.reduceMul, Int.reduceToNat, Nat.reduceMul, Nat.reduceSub, Nat.reduceLT, Nat.reduceLeDiff, out_sh hr1, out_sh hr2]
  refine op0 hp0.1 (by omega) ?_
  simp -dsimp -implicitDefEqProofs only [↓STP, STQ, ne_eq, implies_true, forall_const, if_false, if_true, reduceCtorEq, ↓reduceIte, Nat.reduceEqDiff, Nat.reduceAdd, Int.reduceEq, Int.reduceLT, Int.reduceLE, Int.reduceNeg, Int.reduceAdd, Int.reduceSub, Int.reduceMul, Int.reduceToNat, Nat.reduceMul, Nat.reduceSub, Nat.reduceLT, Nat.reduceLeDiff, out_sh hr1, out_sh hr2]
  refine op2 (by omega) hx0 (by omega) ?_
  simp -dsimp -implicitDefEqProofs only [↓STP, STQ, ne_eq, implies_true, forall_const, if_false, if_true, reduceCtorEq, ↓reduceIte, Nat.reduceEqDiff, Nat.reduceAdd, Int.reduceEq, Int.reduceLT, Int.reduceLE, Int.reduceNeg, Int.reduceAdd, Int.reduceSub, Int.reduceMul, Int.reduceToNat, Nat.reduceMul, Nat.reduceSub, Nat.reduceLT, Nat.reduceLeDiff, out_sh hr1, out_sh hr2]
  refine tells_spec (xs := [(x0 + x1) % p, x0 * x1 % p]) rfl ⟨r1, r2, hr1, hr2, rfl⟩ w7.good (by omega) (by simp) o8 hfit7 (lists2 (a := [x0]) (b := [x1]) (c := .full) (c1 := .full) (c2 := .full) rfl rfl rfl) fun h'' _ _ => ?_
  simp -dsimp -implicitDefEqProofs only [↓STP, STQ, ne_eq, implies_true, forall_const, if_false, if_true, reduceCtorEq, ↓reduceIte, Nat.reduceEqDiff, Nat.reduceAdd, Int.reduceEq, Int.reduceLT, Int.reduceLE, Int.reduceNeg, Int.reduceAdd, Int.reduceSub, Int.reduceMul, Int.reduceToNat, Nat.reduceMul, Nat.reduceSub, Nat.reduceLT, Nat.reduceLeDiff]

end
end Go.Ab.Ytgfnhkedfmnijaa
