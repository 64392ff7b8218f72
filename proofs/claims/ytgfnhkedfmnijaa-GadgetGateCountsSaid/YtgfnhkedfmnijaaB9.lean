/- The circuit builder: sums, differences and products of rows of bits. -/
import Derived.Test.YtgfnhkedfmnijaaBn
set_option linter.unusedVariables false
set_option linter.unusedSimpArgs false
namespace Go.Ab.Ytgfnhkedfmnijaa

section
variable {h : H} {K : Out → H → Prop} {id p q : Nat} {F : Nat → Prop} {gs : List Gt} {vs : List Nat} {outs : List Int} {ls : List (List Nat)} {xs : List Nat}

theorem zsVals {zs vs' : List Nat} {N : Nat} {f : Nat → Nat} (hl : zs.length = N) (hv : ∀ i, (hi : i < zs.length) → zs[i] < gs.length ∧ vs'.getD zs[i] 0 = f i) : (zs.map fun x => vs'.getD x 0) = (List.range N).map f ∧ ∀ x ∈ zs, x < gs.length := by
  refine ⟨List.ext_getElem (by simp [hl]) fun i h1 h2 => ?_, fun x hx => ?_⟩
  · simp only [List.getElem_map, List.getElem_range]
    exact (hv i (by simpa using h1)).2
  · obtain ⟨i, hi, rfl⟩ := List.mem_iff_getElem.1 hx
    exact (hv i hi).1

theorem BitsAt.bits {l : List Nat} (a : BitsAt gs vs l) : ∀ w ∈ l.map fun x => vs.getD x 0, w ≤ 1 := by
  intro w hw
  obtain ⟨x, hx, rfl⟩ := List.mem_map.1 hw
  exact (a x hx).2
theorem bitsAt_of {l : List Nat} (h1 : ∀ x ∈ l, x < gs.length) (h2 : ∀ w ∈ l.map fun x => vs.getD x 0, w ≤ 1) : BitsAt gs vs l := fun x hx => ⟨h1 x hx, h2 _ (List.mem_map_of_mem hx)⟩

theorem addBits_g {lx ly : List Nat} (b : Bd h id F p q ls gs vs outs) (hg : gs.length < 89000) (hlx : lx.length ≤ 100) (hly : ly.length ≤ 100) (hx : BitsAt gs vs lx) (hy : BitsAt gs vs ly)
    (hK : ∀ h' F' gs' vs' (e : Nat) (rs : List Nat), e ≤ 1 → BuAt h' id F' p gs' outs → Evo h F h' F' → Grew p q ls gs vs (2 * max lx.length ly.length) (9 * max lx.length ly.length + e + 1) gs' vs' → BitsAt gs' vs' rs →
      (rs.map fun x => vs'.getD x 0) = addL (lx.map fun x => vs.getD x 0) (ly.map fun x => vs.getD x 0) → rs.length = max lx.length ly.length + 1 → K (.ret (.vec (Xs rs) .any)) h') :
    R 40 [.ptr id 0, .vec (Xs lx) .any, .vec (Xs ly) .any] h K := by
  have hp := b.good.p0
  refine run40 (Nat.le_of_ble_eq_true rfl) ?_
  simp -dsimp -implicitDefEqProofs only [↓STP, STQ, ne_eq, implies_true, forall_const, if_false, if_true, reduceCtorEq, ↓reduceIte, Nat.reduceEqDiff, Nat.reduceAdd, Int.reduceEq, Int.reduceLT, Int.reduceLE, Int.reduceNeg, Int.reduceAdd, Int.reduceSub, Int.reduceMul, Int.reduceToNat, Nat.reduceMul, Nat.reduceSub, Nat.reduceLT, Nat.reduceLeDiff, ir40]
  refine const_g (k := 0) b hp.1 fun h1 F1 g1 v1 i1 b1 e1 w1 l1 x1 => ?_
  have n1 := w1.len
  simp -dsimp -implicitDefEqProofs only [↓STP, STQ, ne_eq, implies_true, forall_const, if_false, if_true, reduceCtorEq, ↓reduceIte, Nat.reduceEqDiff, Nat.reduceAdd, Int.reduceEq, Int.reduceLT, Int.reduceLE, Int.reduceNeg, Int.reduceAdd, Int.reduceSub, Int.reduceMul, Int.reduceToNat, Nat.reduceMul, Nat.reduceSub, Nat.reduceLT, Nat.reduceLeDiff]
  refine pairs_g adder_one (fun a b c => fCarry_le) ⟨b1, w1.good, by omega⟩ (by omega) (by decide) hlx hly rfl (hx.grow w1) (hy.grow w1) l1 (by rw [x1]; decide) fun h2 F2 g2 v2 e lf zs b2 e2 he w2 zl zv lfl lfv => ?_
  rw [hx.vals w1, hy.vals w1, x1] at lfv
  simp only [hx.vals w1, hy.vals w1, x1] at zv
  obtain ⟨zv1, zv2⟩ := zsVals zl zv
  have w := w1.trans w2
  rw [show 0 + 2 * max lx.length ly.length = 2 * max lx.length ly.length by omega, show 1 + (9 * max lx.length ly.length + e) = 9 * max lx.length ly.length + e + 1 by omega] at w
  have hlen : (Xs zs).length < 4294967296 := by rw [Xs_len]; omega
  have hval : ((zs ++ [lf]).map fun x => v2.getD x 0) = addL (lx.map fun x => vs.getD x 0) (ly.map fun x => vs.getD x 0) := by
    rw [List.map_append, zv1, addL, List.length_map, List.length_map, List.map_cons, lfv]; rfl
  have fin := hK h2 F2 g2 v2 e (zs ++ [lf]) he b2 (e1.trans e2) w (bitsAt_of (fun x hx => by
    rcases List.mem_append.1 hx with h | h
    · exact zv2 x h
    · simp at h; subst h; exact lfl) (by rw [hval]; exact addL_bits hx.bits hy.bits)) hval (by rw [List.length_append, zl]; rfl)
  rw [← Xs_snoc] at fin
  simp -dsimp -implicitDefEqProofs only [↓STP, STQ, ne_eq, implies_true, forall_const, if_false, if_true, reduceCtorEq, ↓reduceIte, Nat.reduceEqDiff, Nat.reduceAdd, Int.reduceEq, Int.reduceLT, Int.reduceLE, Int.reduceNeg, Int.reduceAdd, Int.reduceSub, Int.reduceMul, Int.reduceToNat, Nat.reduceMul, Nat.reduceSub, Nat.reduceLT, Nat.reduceLeDiff]
  rw [app1_own (by simp) Xs_cells rfl (by decide) (by decide) hlen]
  simp -dsimp -implicitDefEqProofs only [↓STP, STQ, ne_eq, implies_true, forall_const, if_false, if_true, reduceCtorEq, ↓reduceIte, Nat.reduceEqDiff, Nat.reduceAdd, Int.reduceEq, Int.reduceLT, Int.reduceLE, Int.reduceNeg, Int.reduceAdd, Int.reduceSub, Int.reduceMul, Int.reduceToNat, Nat.reduceMul, Nat.reduceSub, Nat.reduceLT, Nat.reduceLeDiff]
  exact fin

theorem prZ_le (f : Nat → Nat → Nat → Nat) (a b : List Nat) (l0 j : Nat) : prZ fSum f a b l0 j ≤ 1 := by
  show (_ + _ + _) % 2 ≤ 1
  omega

def InvSub (id p q : Nat) (ls : List (List Nat)) (gs : List Gt) (vs : List Nat) (outs : List Int) (zs : List Nat) (may n : Nat) (xv yv : List Nat) (h : H) (F : Nat → Prop) (k : Nat) (st : S) : Prop :=
  ∃ (j : Nat) (h1 : H) (F1 : Nat → Prop) (g1 : List Gt) (v1 : List Nat) (rs : List Nat), k = n - j ∧ j ≤ n ∧ BuAt h1 id F1 p g1 outs ∧ Evo h F h1 F1 ∧ Grew p q ls gs vs j j g1 v1 ∧ rs.length = j ∧ (∀ x ∈ rs, x < g1.length) ∧
    (rs.map fun x => v1.getD x 0) = (List.range j).map (fun i => prZ fSum fBorrow xv yv 0 i * (1 - prS fBorrow xv yv 0 (max xv.length yv.length))) ∧
    st = ⟨upd (upd (upd (upd (upd (upd ρ0 0 (.ptr id 0)) 7 (.vec (Xs zs) (.own 0))) 9 (I may)) 10 (.vec (Xs rs) (.own 1))) 27 (I n)) 28 (I j), m0, 2, [], h1⟩

theorem subBits_g {lx ly : List Nat} (b : Bd h id F p q ls gs vs outs) (hg : gs.length < 89000) (hlx : lx.length ≤ 100) (hly : ly.length ≤ 100) (hx : BitsAt gs vs lx) (hy : BitsAt gs vs ly)
    (hK : ∀ h' F' gs' vs' (e : Nat) (rs : List Nat), e ≤ 1 → BuAt h' id F' p gs' outs → Evo h F h' F' → Grew p q ls gs vs (2 * max lx.length ly.length + lx.length) (11 * max lx.length ly.length + lx.length + e + 3) gs' vs' → BitsAt gs' vs' rs →
      (rs.map fun x => vs'.getD x 0) = subL (lx.map fun x => vs.getD x 0) (ly.map fun x => vs.getD x 0) → rs.length = lx.length → K (.ret (.vec (Xs rs) .any)) h') :
    R 41 [.ptr id 0, .vec (Xs lx) .any, .vec (Xs ly) .any] h K := by
  have hp := b.good.p0
  have hp2 := b.good.two
  refine run41 (Nat.le_of_ble_eq_true rfl) ?_
  simp -dsimp -implicitDefEqProofs only [↓STP, STQ, ne_eq, implies_true, forall_const, if_false, if_true, reduceCtorEq, ↓reduceIte, Nat.reduceEqDiff, Nat.reduceAdd, Int.reduceEq, Int.reduceLT, Int.reduceLE, Int.reduceNeg, Int.reduceAdd, Int.reduceSub, Int.reduceMul, Int.reduceToNat, Nat.reduceMul, Nat.reduceSub, Nat.reduceLT, Nat.reduceLeDiff, ir41]
  refine const_g (k := 0) b hp.1 fun h1 F1 g1 v1 i1 b1 e1 w1 l1 x1 => ?_
  have n1 := w1.len
  simp -dsimp -implicitDefEqProofs only [↓STP, STQ, ne_eq, implies_true, forall_const, if_false, if_true, reduceCtorEq, ↓reduceIte, Nat.reduceEqDiff, Nat.reduceAdd, Int.reduceEq, Int.reduceLT, Int.reduceLE, Int.reduceNeg, Int.reduceAdd, Int.reduceSub, Int.reduceMul, Int.reduceToNat, Nat.reduceMul, Nat.reduceSub, Nat.reduceLT, Nat.reduceLeDiff]
  refine pairs_g taker_one (fun a b c => fBorrow_le) ⟨b1, w1.good, by omega⟩ (by omega) (by decide) hlx hly rfl (hx.grow w1) (hy.grow w1) l1 (by rw [x1]; decide) fun h2 F2 g2 v2 e lf zs b2 e2 he w2 zl zv lfl lfv => ?_
  rw [hx.vals w1, hy.vals w1, x1] at lfv
  simp only [hx.vals w1, hy.vals w1, x1] at zv
  have n2 := w2.len
  simp -dsimp -implicitDefEqProofs only [↓STP, STQ, ne_eq, implies_true, forall_const, if_false, if_true, reduceCtorEq, ↓reduceIte, Nat.reduceEqDiff, Nat.reduceAdd, Int.reduceEq, Int.reduceLT, Int.reduceLE, Int.reduceNeg, Int.reduceAdd, Int.reduceSub, Int.reduceMul, Int.reduceToNat, Nat.reduceMul, Nat.reduceSub, Nat.reduceLT, Nat.reduceLeDiff]
  refine not_g ⟨b2, w2.good, by omega⟩ (by omega) lfl fun h3 F3 g3 v3 i3 b3 e3 w3 l3 x3 => ?_
  have n3 := w3.len
  have hbor := prS_le (f := fBorrow) (fun a b c => fBorrow_le) hx.bits hy.bits (l0 := 0) (by decide) (max lx.length ly.length)
  rw [lfv] at x3
  generalize hB : prS fBorrow (lx.map fun x => vs.getD x 0) (ly.map fun x => vs.getD x 0) 0 (max lx.length ly.length) = B at *
  have x3 : v3.getD i3 0 = 1 - B := by
    obtain ⟨bb, rfl⟩ := bitOf hbor
    rw [x3, not_val hp2]
  generalize hxv : (lx.map fun x => vs.getD x 0) = xv at *
  generalize hyv : (ly.map fun x => vs.getD x 0) = yv at *
  have hxl : xv.length = lx.length := by rw [← hxv, List.length_map]
  have hyl : yv.length = ly.length := by rw [← hyv, List.length_map]
  simp -dsimp -implicitDefEqProofs only [↓STP, STQ, ne_eq, implies_true, forall_const, if_false, if_true, reduceCtorEq, ↓reduceIte, Nat.reduceEqDiff, Nat.reduceAdd, Int.reduceEq, Int.reduceLT, Int.reduceLE, Int.reduceNeg, Int.reduceAdd, Int.reduceSub, Int.reduceMul, Int.reduceToNat, Nat.reduceMul, Nat.reduceSub, Nat.reduceLT, Nat.reduceLeDiff, Xs_len]
  refine codeT_loop (InvSub id p q ls g3 v3 outs zs i3 lx.length xv yv h3 F3) (i := lx.length) ⟨0, h3, F3, g3, v3, [], rfl, by omega, b3, Evo.refl _ _, Grew.refl w3.good, rfl, by simp, rfl, by simp -dsimp -implicitDefEqProofs only [↓STP, STQ, ne_eq, implies_true, forall_const, if_false, if_true, reduceCtorEq, ↓reduceIte, Nat.reduceEqDiff, Nat.reduceAdd, Int.reduceEq, Int.reduceLT, Int.reduceLE, Int.reduceNeg, Int.reduceAdd, Int.reduceSub, Int.reduceMul, Int.reduceToNat, Nat.reduceMul, Nat.reduceSub, Nat.reduceLT, Nat.reduceLeDiff] <;> rfl⟩ ?_ mono
  rintro k st ⟨j, h4, F4, g4, v4, rs, rfl, hj, b4, e4, w4, hrl, hrb, hrv, rfl⟩
  have n4 := w4.len
  by_cases hlt : j < lx.length
  · have hjz : j < zs.length := by omega
    obtain ⟨z1, z2⟩ := zv j hjz
    have hlen : (Xs rs).length < 4294967296 := by rw [Xs_len]; omega
    simp -dsimp -implicitDefEqProofs only [↓STP, STQ, ne_eq, implies_true, forall_const, if_false, if_true, reduceCtorEq, ↓reduceIte, Nat.reduceEqDiff, Nat.reduceAdd, Int.reduceEq, Int.reduceLT, Int.reduceLE, Int.reduceNeg, Int.reduceAdd, Int.reduceSub, Int.reduceMul, Int.reduceToNat, Nat.reduceMul, Nat.reduceSub, Nat.reduceLT, Nat.reduceLeDiff, Int.ofNat_lt, hlt, Xs_get hjz]
    refine mul_g ⟨b4, w4.good, by omega⟩ (ltr w4 (ltr w3 z1)) (ltr w4 l3) fun h5 F5 g5 v5 i5 b5 e5 w5 l5 x5 => ?_
    have n5 := w5.len
    simp -dsimp -implicitDefEqProofs only [↓STP, STQ, ne_eq, implies_true, forall_const, if_false, if_true, reduceCtorEq, ↓reduceIte, Nat.reduceEqDiff, Nat.reduceAdd, Int.reduceEq, Int.reduceLT, Int.reduceLE, Int.reduceNeg, Int.reduceAdd, Int.reduceSub, Int.reduceMul, Int.reduceToNat, Nat.reduceMul, Nat.reduceSub, Nat.reduceLT, Nat.reduceLeDiff]
    rw [app1_own (by simp) Xs_cells rfl (by decide) (by decide) hlen]
    simp -dsimp -implicitDefEqProofs only [↓STP, STQ, ne_eq, implies_true, forall_const, if_false, if_true, reduceCtorEq, ↓reduceIte, Nat.reduceEqDiff, Nat.reduceAdd, Int.reduceEq, Int.reduceLT, Int.reduceLE, Int.reduceNeg, Int.reduceAdd, Int.reduceSub, Int.reduceMul, Int.reduceToNat, Nat.reduceMul, Nat.reduceSub, Nat.reduceLT, Nat.reduceLeDiff, wi (show j < 9000000000000000000 by omega)]
    refine ⟨_, ?_, j + 1, h5, F5, g5, v5, rs ++ [i5], rfl, by omega, b5, e4.trans e5, w4.trans w5, by simp [hrl], fun x hx => ?_, ?_, by rw [← Xs_snoc]⟩
    · omega
    · rcases List.mem_append.1 hx with h | h
      · have := hrb x h; omega
      · simp at h; subst h; exact l5
    · rw [List.map_append, List.range_succ, List.map_append, ← hrv]
      congr 1
      · exact List.map_congr_left fun x hx => w5.pre x (hrb x hx)
      · simp only [List.map_cons, List.map_nil]
        rw [x5, w4.pre _ (ltr w3 z1), w3.pre _ z1, z2, w4.pre _ l3, x3, hxl, hyl, hB]
        have h1 := prZ_le fBorrow xv yv 0 j
        rw [Nat.mod_eq_of_lt]
        have : prZ fSum fBorrow xv yv 0 j * (1 - B) ≤ 1 * 1 := Nat.mul_le_mul h1 (by omega)
        omega
  · have hjl : j = lx.length := by omega
    subst hjl
    simp -dsimp -implicitDefEqProofs only [↓STP, STQ, ne_eq, implies_true, forall_const, if_false, if_true, reduceCtorEq, ↓reduceIte, Nat.reduceEqDiff, Nat.reduceAdd, Int.reduceEq, Int.reduceLT, Int.reduceLE, Int.reduceNeg, Int.reduceAdd, Int.reduceSub, Int.reduceMul, Int.reduceToNat, Nat.reduceMul, Nat.reduceSub, Nat.reduceLT, Nat.reduceLeDiff, Int.ofNat_lt, hlt]
    have hrv' : (rs.map fun x => v4.getD x 0) = subL xv yv := by rw [hrv, subL, hxl]
    refine hK h4 F4 g4 v4 e rs he b4 (((e1.trans e2).trans e3).trans e4) ?_ (bitsAt_of hrb ?_) hrv' hrl
    · have w := ((w1.trans w2).trans w3).trans w4
      have e1 : 0 + 2 * max lx.length ly.length + 0 + lx.length = 2 * max lx.length ly.length + lx.length := by omega
      have e2 : 1 + (11 * max lx.length ly.length + e) + 2 + lx.length = 11 * max lx.length ly.length + lx.length + e + 3 := by omega
      rw [e1, e2] at w
      exact w
    · rw [hrv']
      intro w hw
      obtain ⟨i, _, rfl⟩ := List.mem_map.1 hw
      have h1 := prZ_le fBorrow xv yv 0 i
      exact Nat.le_trans (Nat.mul_le_mul h1 (show 1 - _ ≤ 1 by omega)) (by decide)

end
end Go.Ab.Ytgfnhkedfmnijaa
