/- The reference's evaluation of circuits: inputs that fit. -/
import Derived.Test.YtgfnhkedfmnijaaC1
import Derived.Test.YtgfnhkedfmnijaaG2
set_option linter.unusedVariables false
set_option linter.unusedSimpArgs false
namespace Go.Ab.Ytgfnhkedfmnijaa

/-- How many inputs of a party there are. -/
def cnt (gs : List Gt) (f : Nat) : Nat := (gs.filter fun g => decide (g.kind = 1) && decide (g.frm = (f : Int))).length

theorem cnt_succ {gs : List Gt} {i f : Nat} (hi : i < gs.length) : cnt (gs.take (i + 1)) f = cnt (gs.take i) f + (if gs[i].kind = 1 ∧ gs[i].frm = f then 1 else 0) := by
  unfold cnt
  rw [List.take_add_one, List.getElem?_eq_getElem hi, List.filter_append, List.length_append]
  congr 1
  by_cases h1 : gs[i].kind = 1 <;> by_cases h2 : gs[i].frm = f <;> simp [h1, h2]

section
variable {h : H} {K : Out → H → Prop} {p q : Nat} {gs : List Gt} {outs : List Int} {ls : List (List Nat)} {v iv : V}

def InvCnt (p : Nat) (gs : List Gt) (outs : List Int) (f : Nat) (h : H) (k : Nat) (st : S) : Prop :=
  ∃ i : Nat, k = gs.length - i ∧ i ≤ gs.length ∧ st = ⟨upd (upd (upd (upd ρ0 1 (I f)) 2 (.lptr 0 3 0)) 5 (I (cnt (gs.take i) f))) 6 (I i), upd m0 0 (some (cbox p gs outs)), 1, [], h⟩

theorem cnt_le {gs : List Gt} {f i : Nat} : cnt (gs.take i) f ≤ i := by
  unfold cnt
  exact Nat.le_trans (List.length_filter_le _ _) (by simp; omega)

theorem count_spec {f : Nat} (hv : circF p gs outs v) (hl : gs.length ≤ 20000) (hK : K (.ret (I (cnt gs f))) h) : R 78 [v, I f] h K := by
  subst hv
  refine run78 (Nat.le_of_ble_eq_true rfl) ?_
  simp -dsimp -implicitDefEqProofs only [↓STP, STQ, ne_eq, implies_true, forall_const, if_false, if_true, reduceCtorEq, ↓reduceIte, Nat.reduceEqDiff, Nat.reduceAdd, Int.reduceEq, Int.reduceLT, Int.reduceLE, Int.reduceNeg, Int.reduceAdd, Int.reduceSub, Int.reduceMul, Int.reduceToNat, Nat.reduceMul, Nat.reduceSub, Nat.reduceLT, Nat.reduceLeDiff, circV, ir78]
  refine codeT_loop (InvCnt p gs outs f h) (i := gs.length) ⟨0, by omega, by omega, by simp -dsimp -implicitDefEqProofs only [↓STP, STQ, ne_eq, implies_true, forall_const, if_false, if_true, reduceCtorEq, ↓reduceIte, Nat.reduceEqDiff, Nat.reduceAdd, Int.reduceEq, Int.reduceLT, Int.reduceLE, Int.reduceNeg, Int.reduceAdd, Int.reduceSub, Int.reduceMul, Int.reduceToNat, Nat.reduceMul, Nat.reduceSub, Nat.reduceLT, Nat.reduceLeDiff, circV, cbox] <;> rfl⟩ ?_ mono
  rintro k st ⟨i, rfl, hi, rfl⟩
  by_cases hlt : i < gs.length
  · have hget : (gs.map Gt.v)[i]? = some gs[i].v := by rw [List.getElem?_map, List.getElem?_eq_getElem hlt]; rfl
    have hcs := cnt_succ (f := f) hlt
    have hcl := cnt_le (gs := gs) (f := f) (i := i)
    have w1 : IntKind.i64.wrap ((i : Int) + 1) = ((i + 1 : Nat) : Int) := by rw [wrap_i64] <;> omega
    have w2 : IntKind.i64.wrap ((cnt (gs.take i) f : Int) + 1) = ((cnt (gs.take i) f + 1 : Nat) : Int) := by rw [wrap_i64] <;> omega
    by_cases e1 : gs[i].kind = 1
    · by_cases e2 : gs[i].frm = f
      · simp -dsimp -implicitDefEqProofs only [↓STP, STQ, ne_eq, implies_true, forall_const, if_false, if_true, reduceCtorEq, ↓reduceIte, Nat.reduceEqDiff, Nat.reduceAdd, Int.reduceEq, Int.reduceLT, Int.reduceLE, Int.reduceNeg, Int.reduceAdd, Int.reduceSub, Int.reduceMul, Int.reduceToNat, Nat.reduceMul, Nat.reduceSub, Nat.reduceLT, Nat.reduceLeDiff, cbox, List.length_map, Int.ofNat_lt, hlt, hget, Gt.v, Gt.cells, eq_true e1, eq_true e2, w1, w2]
        refine ⟨_, by omega, i + 1, rfl, by omega, ?_⟩
        rw [hcs, if_pos ⟨e1, e2⟩]; rfl
      · simp -dsimp -implicitDefEqProofs only [↓STP, STQ, ne_eq, implies_true, forall_const, if_false, if_true, reduceCtorEq, ↓reduceIte, Nat.reduceEqDiff, Nat.reduceAdd, Int.reduceEq, Int.reduceLT, Int.reduceLE, Int.reduceNeg, Int.reduceAdd, Int.reduceSub, Int.reduceMul, Int.reduceToNat, Nat.reduceMul, Nat.reduceSub, Nat.reduceLT, Nat.reduceLeDiff, cbox, List.length_map, Int.ofNat_lt, hlt, hget, Gt.v, Gt.cells, eq_true e1, eq_false e2, w1]
        refine ⟨_, by omega, i + 1, rfl, by omega, ?_⟩
        rw [hcs, if_neg (fun h => e2 h.2)]; rfl
    · simp -dsimp -implicitDefEqProofs only [↓STP, STQ, ne_eq, implies_true, forall_const, if_false, if_true, reduceCtorEq, ↓reduceIte, Nat.reduceEqDiff, Nat.reduceAdd, Int.reduceEq, Int.reduceLT, Int.reduceLE, Int.reduceNeg, Int.reduceAdd, Int.reduceSub, Int.reduceMul, Int.reduceToNat, Nat.reduceMul, Nat.reduceSub, Nat.reduceLT, Nat.reduceLeDiff, cbox, List.length_map, Int.ofNat_lt, hlt, hget, Gt.v, Gt.cells, eq_false e1, w1]
      refine ⟨_, by omega, i + 1, rfl, by omega, ?_⟩
      rw [hcs, if_neg (fun h => e1 h.1)]; rfl
  · simp -dsimp -implicitDefEqProofs only [↓STP, STQ, ne_eq, implies_true, forall_const, if_false, if_true, reduceCtorEq, ↓reduceIte, Nat.reduceEqDiff, Nat.reduceAdd, Int.reduceEq, Int.reduceLT, Int.reduceLE, Int.reduceNeg, Int.reduceAdd, Int.reduceSub, Int.reduceMul, Int.reduceToNat, Nat.reduceMul, Nat.reduceSub, Nat.reduceLT, Nat.reduceLeDiff, cbox, List.length_map, Int.ofNat_lt, hlt]
    rw [List.take_of_length_le (by omega)]
    exact hK

/-- The inputs fit. -/
structure FitsC (p : Nat) (gs : List Gt) (ls : List (List Nat)) : Prop where
  ll : ls.length ≤ 100
  frm : ∀ g ∈ gs, g.kind = 1 → g.frm ≤ ls.length
  len : ∀ (j : Nat) (ws : List Nat), ls[j]? = some ws → ws.length = cnt gs (j + 1)
  lt : ∀ ws ∈ ls, ∀ w ∈ ws, w < p

def InvF1 (p : Nat) (gs : List Gt) (outs : List Int) (iv : V) (h : H) (k : Nat) (st : S) : Prop :=
  ∃ i : Nat, k = gs.length - i ∧ i ≤ gs.length ∧ st = ⟨upd (upd (upd ρ0 1 iv) 2 (.lptr 0 3 0)) 5 (I i), upd m0 0 (some (cbox p gs outs)), 1, [], h⟩
def InvF2 (p : Nat) (gs : List Gt) (outs : List Int) (iv : V) (n : Nat) (h : H) (k : Nat) (st : S) : Prop :=
  ∃ i : Nat, k = n - i ∧ i ≤ n ∧ st = ⟨upd (upd (upd ρ0 1 iv) 2 (.lptr 0 3 0)) 6 (I i), upd m0 0 (some (cbox p gs outs)), 1, [], h⟩
def InvF3 (p : Nat) (gs : List Gt) (outs : List Int) (iv : V) (j n : Nat) (h : H) (k : Nat) (st : S) : Prop :=
  ∃ i : Nat, k = n - i ∧ i ≤ n ∧ st = ⟨upd (upd (upd (upd ρ0 1 iv) 2 (.lptr 0 3 0)) 6 (I j)) 7 (I i), upd m0 0 (some (cbox p gs outs)), 1, [], h⟩

theorem fits_spec (hv : circF p gs outs v) (hl : gs.length ≤ 20000) (hf : FitsC p gs ls) (hi : ListsAt h iv ls) (hK : K (.ret (.bool true)) h) : R 74 [v, iv] h K := by
  have hv0 := hv
  subst hv
  have o := hi.out
  have hll := hf.ll
  refine run74 (Nat.le_of_ble_eq_true rfl) ?_
  simp -dsimp -implicitDefEqProofs only [↓STP, STQ, ne_eq, implies_true, forall_const, if_false, if_true, reduceCtorEq, ↓reduceIte, Nat.reduceEqDiff, Nat.reduceAdd, Int.reduceEq, Int.reduceLT, Int.reduceLE, Int.reduceNeg, Int.reduceAdd, Int.reduceSub, Int.reduceMul, Int.reduceToNat, Nat.reduceMul, Nat.reduceSub, Nat.reduceLT, Nat.reduceLeDiff, circV, ir74]
  refine codeT_loop (InvF1 p gs outs iv h) (i := gs.length) ⟨0, by omega, by omega, by simp -dsimp -implicitDefEqProofs only [↓STP, STQ, ne_eq, implies_true, forall_const, if_false, if_true, reduceCtorEq, ↓reduceIte, Nat.reduceEqDiff, Nat.reduceAdd, Int.reduceEq, Int.reduceLT, Int.reduceLE, Int.reduceNeg, Int.reduceAdd, Int.reduceSub, Int.reduceMul, Int.reduceToNat, Nat.reduceMul, Nat.reduceSub, Nat.reduceLT, Nat.reduceLeDiff, circV, cbox, o] <;> rfl⟩ ?_ mono
  rintro k st ⟨i, rfl, hi', rfl⟩
  have w1 : ∀ {i : Nat}, i < 30000 → IntKind.i64.wrap ((i : Int) + 1) = ((i + 1 : Nat) : Int) := fun hi => by rw [wrap_i64] <;> omega
  by_cases hlt : i < gs.length
  · have hget : (gs.map Gt.v)[i]? = some gs[i].v := by rw [List.getElem?_map, List.getElem?_eq_getElem hlt]; rfl
    by_cases e1 : gs[i].kind = 1
    · have e2 : ¬ ((ls.length : Int) < gs[i].frm) := by have := hf.frm _ (List.getElem_mem hlt) e1; omega
      simp -dsimp -implicitDefEqProofs only [↓STP, STQ, ne_eq, implies_true, forall_const, if_false, if_true, reduceCtorEq, ↓reduceIte, Nat.reduceEqDiff, Nat.reduceAdd, Int.reduceEq, Int.reduceLT, Int.reduceLE, Int.reduceNeg, Int.reduceAdd, Int.reduceSub, Int.reduceMul, Int.reduceToNat, Nat.reduceMul, Nat.reduceSub, Nat.reduceLT, Nat.reduceLeDiff, cbox, List.length_map, Int.ofNat_lt, hlt, hget, Gt.v, Gt.cells, eq_true e1, eq_false e2, w1 (show i < 30000 by omega), o]
      exact ⟨_, by omega, i + 1, rfl, by omega, rfl⟩
    · simp -dsimp -implicitDefEqProofs only [↓STP, STQ, ne_eq, implies_true, forall_const, if_false, if_true, reduceCtorEq, ↓reduceIte, Nat.reduceEqDiff, Nat.reduceAdd, Int.reduceEq, Int.reduceLT, Int.reduceLE, Int.reduceNeg, Int.reduceAdd, Int.reduceSub, Int.reduceMul, Int.reduceToNat, Nat.reduceMul, Nat.reduceSub, Nat.reduceLT, Nat.reduceLeDiff, cbox, List.length_map, Int.ofNat_lt, hlt, hget, Gt.v, Gt.cells, eq_false e1, w1 (show i < 30000 by omega), o]
      exact ⟨_, by omega, i + 1, rfl, by omega, rfl⟩
  · simp -dsimp -implicitDefEqProofs only [↓STP, STQ, ne_eq, implies_true, forall_const, if_false, if_true, reduceCtorEq, ↓reduceIte, Nat.reduceEqDiff, Nat.reduceAdd, Int.reduceEq, Int.reduceLT, Int.reduceLE, Int.reduceNeg, Int.reduceAdd, Int.reduceSub, Int.reduceMul, Int.reduceToNat, Nat.reduceMul, Nat.reduceSub, Nat.reduceLT, Nat.reduceLeDiff, cbox, List.length_map, Int.ofNat_lt, hlt]
    refine codeT_loop (InvF2 p gs outs iv ls.length h) (i := ls.length) ⟨0, by omega, by omega, by simp -dsimp -implicitDefEqProofs only [↓STP, STQ, ne_eq, implies_true, forall_const, if_false, if_true, reduceCtorEq, ↓reduceIte, Nat.reduceEqDiff, Nat.reduceAdd, Int.reduceEq, Int.reduceLT, Int.reduceLE, Int.reduceNeg, Int.reduceAdd, Int.reduceSub, Int.reduceMul, Int.reduceToNat, Nat.reduceMul, Nat.reduceSub, Nat.reduceLT, Nat.reduceLeDiff, circV, cbox, o] <;> rfl⟩ ?_ mono
    rintro k st ⟨j, rfl, hj, rfl⟩
    by_cases hlt2 : j < ls.length
    · obtain ⟨ptr, x, q1, q2, q3⟩ := hi.idx hlt2
      have qo := q3.out
      have hlen := hf.len j _ (List.getElem?_eq_getElem hlt2)
      simp -dsimp -implicitDefEqProofs only [↓STP, STQ, ne_eq, implies_true, forall_const, if_false, if_true, reduceCtorEq, ↓reduceIte, Nat.reduceEqDiff, Nat.reduceAdd, Int.reduceEq, Int.reduceLT, Int.reduceLE, Int.reduceNeg, Int.reduceAdd, Int.reduceSub, Int.reduceMul, Int.reduceToNat, Nat.reduceMul, Nat.reduceSub, Nat.reduceLT, Nat.reduceLeDiff, cbox, o, Int.ofNat_lt, hlt2, q1, q2, qo, w1 (show j < 30000 by omega)]
      refine count_spec (f := j + 1) hv0 hl ?_
      simp -dsimp -implicitDefEqProofs only [↓STP, STQ, ne_eq, implies_true, forall_const, if_false, if_true, reduceCtorEq, ↓reduceIte, Nat.reduceEqDiff, Nat.reduceAdd, Int.reduceEq, Int.reduceLT, Int.reduceLE, Int.reduceNeg, Int.reduceAdd, Int.reduceSub, Int.reduceMul, Int.reduceToNat, Nat.reduceMul, Nat.reduceSub, Nat.reduceLT, Nat.reduceLeDiff, cbox, o, Int.ofNat_lt, hlt2, q1, q2, qo, hlen]
      refine codeT_loop (InvF3 p gs outs iv j ls[j].length h) (i := ls[j].length) ⟨0, by omega, by omega, by simp -dsimp -implicitDefEqProofs only [↓STP, STQ, ne_eq, implies_true, forall_const, if_false, if_true, reduceCtorEq, ↓reduceIte, Nat.reduceEqDiff, Nat.reduceAdd, Int.reduceEq, Int.reduceLT, Int.reduceLE, Int.reduceNeg, Int.reduceAdd, Int.reduceSub, Int.reduceMul, Int.reduceToNat, Nat.reduceMul, Nat.reduceSub, Nat.reduceLT, Nat.reduceLeDiff, circV, cbox, o] <;> rfl⟩ ?_ mono
      rintro k st ⟨i, rfl, hi2, rfl⟩
      have hcl : cnt gs (j + 1) ≤ 20000 := by have := cnt_le (gs := gs) (f := j + 1) (i := gs.length); rw [List.take_length] at this; omega
      by_cases hlt3 : i < ls[j].length
      · obtain ⟨ptr2, r1, r2⟩ := q3.idx hlt3
        have hw : ¬ ((p : Int) ≤ ((ls[j][i] : Nat) : Int)) := by have := hf.lt _ (List.getElem_mem hlt2) _ (List.getElem_mem hlt3); omega
        simp -dsimp -implicitDefEqProofs only [↓STP, STQ, ne_eq, implies_true, forall_const, if_false, if_true, reduceCtorEq, ↓reduceIte, Nat.reduceEqDiff, Nat.reduceAdd, Int.reduceEq, Int.reduceLT, Int.reduceLE, Int.reduceNeg, Int.reduceAdd, Int.reduceSub, Int.reduceMul, Int.reduceToNat, Nat.reduceMul, Nat.reduceSub, Nat.reduceLT, Nat.reduceLeDiff, cbox, o, Int.ofNat_lt, hlt3, q1, q2, qo, r1, r2, eq_false hw, w1 (show i < 30000 by omega)]
        exact ⟨_, by omega, i + 1, rfl, by omega, rfl⟩
      · simp -dsimp -implicitDefEqProofs only [↓STP, STQ, ne_eq, implies_true, forall_const, if_false, if_true, reduceCtorEq, ↓reduceIte, Nat.reduceEqDiff, Nat.reduceAdd, Int.reduceEq, Int.reduceLT, Int.reduceLE, Int.reduceNeg, Int.reduceAdd, Int.reduceSub, Int.reduceMul, Int.reduceToNat, Nat.reduceMul, Nat.reduceSub, Nat.reduceLT, Nat.reduceLeDiff, cbox, o, Int.ofNat_lt, hlt3, q1, q2, qo, w1 (show j < 30000 by omega)]
        exact ⟨_, by omega, j + 1, rfl, by omega, rfl⟩
    · simp -dsimp -implicitDefEqProofs only [↓STP, STQ, ne_eq, implies_true, forall_const, if_false, if_true, reduceCtorEq, ↓reduceIte, Nat.reduceEqDiff, Nat.reduceAdd, Int.reduceEq, Int.reduceLT, Int.reduceLE, Int.reduceNeg, Int.reduceAdd, Int.reduceSub, Int.reduceMul, Int.reduceToNat, Nat.reduceMul, Nat.reduceSub, Nat.reduceLT, Nat.reduceLeDiff, o, Int.ofNat_lt, hlt2]
      exact hK

end
end Go.Ab.Ytgfnhkedfmnijaa
