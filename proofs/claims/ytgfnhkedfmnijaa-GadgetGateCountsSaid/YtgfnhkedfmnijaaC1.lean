/- The reference's circuits: valid gates, valid circuits. -/
import Derived.Test.YtgfnhkedfmnijaaB1
import Derived.Test.YtgfnhkedfmnijaaR1
import Derived.Test.YtgfnhkedfmnijaaR2
set_option linter.unusedVariables false
set_option linter.unusedSimpArgs false
namespace Go.Ab.Ytgfnhkedfmnijaa

inductive GateOK (p i : Nat) : Gt → Prop
  | inp (f k : Nat) (h1 : 1 ≤ f) (h2 : f ≤ 13) (h3 : k ≤ 1) : GateOK p i ⟨1, f, 0, 0, k⟩
  | const (k : Nat) (h : k < p) : GateOK p i ⟨2, 0, 0, 0, k⟩
  | add (a b : Nat) (h1 : a < i) (h2 : b < i) : GateOK p i ⟨3, 0, a, b, 0⟩
  | sub (a b : Nat) (h1 : a < i) (h2 : b < i) : GateOK p i ⟨4, 0, a, b, 0⟩
  | scale (k a : Nat) (h : k < p) (h1 : a < i) : GateOK p i ⟨5, 0, a, 0, k⟩
  | mul (a b : Nat) (h1 : a < i) (h2 : b < i) : GateOK p i ⟨6, 0, a, b, 0⟩

section
variable {h : H} {K : Out → H → Prop} {p i : Nat} {g : Gt} {gs : List Gt} {outs : List Int}

theorem rgate_spec (hg : GateOK p i g) (hK : K (.ret (.bool true)) h) : R 70 [W p, I i, g.v] h K := by
  refine run70 (Nat.le_of_ble_eq_true rfl) ?_
  cases hg with
  | inp f k h1 h2 h3 =>
    have f1 : (1 : Int) ≤ (f : Int) := by omega
    have f2 : (f : Int) ≤ 13 := by omega
    have f3 : (k : Int) ≤ 1 := by omega
    simp -dsimp -implicitDefEqProofs only [↓STP, STQ, ne_eq, implies_true, forall_const, if_false, if_true, reduceCtorEq, ↓reduceIte, Nat.reduceEqDiff, Nat.reduceAdd, Int.reduceEq, Int.reduceLT, Int.reduceLE, Int.reduceNeg, Int.reduceAdd, Int.reduceSub, Int.reduceMul, Int.reduceToNat, Nat.reduceMul, Nat.reduceSub, Nat.reduceLT, Nat.reduceLeDiff, circV, ir70, Gt.v, Gt.cells, storeV, eq_true f1, eq_true f2, eq_true f3]
    exact hK
  | const k hk =>
    have f1 : (k : Int) < (p : Int) := by omega
    simp -dsimp -implicitDefEqProofs only [↓STP, STQ, ne_eq, implies_true, forall_const, if_false, if_true, reduceCtorEq, ↓reduceIte, Nat.reduceEqDiff, Nat.reduceAdd, Int.reduceEq, Int.reduceLT, Int.reduceLE, Int.reduceNeg, Int.reduceAdd, Int.reduceSub, Int.reduceMul, Int.reduceToNat, Nat.reduceMul, Nat.reduceSub, Nat.reduceLT, Nat.reduceLeDiff, circV, ir70, Gt.v, Gt.cells, storeV, eq_true f1]
    exact hK
  | add a b h1 h2 =>
    have f1 : (0 : Int) ≤ (a : Int) := by omega
    have f2 : (a : Int) < (i : Int) := by omega
    have f3 : (0 : Int) ≤ (b : Int) := by omega
    have f4 : (b : Int) < (i : Int) := by omega
    simp -dsimp -implicitDefEqProofs only [↓STP, STQ, ne_eq, implies_true, forall_const, if_false, if_true, reduceCtorEq, ↓reduceIte, Nat.reduceEqDiff, Nat.reduceAdd, Int.reduceEq, Int.reduceLT, Int.reduceLE, Int.reduceNeg, Int.reduceAdd, Int.reduceSub, Int.reduceMul, Int.reduceToNat, Nat.reduceMul, Nat.reduceSub, Nat.reduceLT, Nat.reduceLeDiff, circV, ir70, Gt.v, Gt.cells, storeV, eq_true f1, eq_true f2, eq_true f3, eq_true f4]
    exact hK
  | sub a b h1 h2 =>
    have f1 : (0 : Int) ≤ (a : Int) := by omega
    have f2 : (a : Int) < (i : Int) := by omega
    have f3 : (0 : Int) ≤ (b : Int) := by omega
    have f4 : (b : Int) < (i : Int) := by omega
    simp -dsimp -implicitDefEqProofs only [↓STP, STQ, ne_eq, implies_true, forall_const, if_false, if_true, reduceCtorEq, ↓reduceIte, Nat.reduceEqDiff, Nat.reduceAdd, Int.reduceEq, Int.reduceLT, Int.reduceLE, Int.reduceNeg, Int.reduceAdd, Int.reduceSub, Int.reduceMul, Int.reduceToNat, Nat.reduceMul, Nat.reduceSub, Nat.reduceLT, Nat.reduceLeDiff, circV, ir70, Gt.v, Gt.cells, storeV, eq_true f1, eq_true f2, eq_true f3, eq_true f4]
    exact hK
  | scale k a hk h1 =>
    have f1 : (0 : Int) ≤ (a : Int) := by omega
    have f2 : (a : Int) < (i : Int) := by omega
    have f3 : (k : Int) < (p : Int) := by omega
    simp -dsimp -implicitDefEqProofs only [↓STP, STQ, ne_eq, implies_true, forall_const, if_false, if_true, reduceCtorEq, ↓reduceIte, Nat.reduceEqDiff, Nat.reduceAdd, Int.reduceEq, Int.reduceLT, Int.reduceLE, Int.reduceNeg, Int.reduceAdd, Int.reduceSub, Int.reduceMul, Int.reduceToNat, Nat.reduceMul, Nat.reduceSub, Nat.reduceLT, Nat.reduceLeDiff, circV, ir70, Gt.v, Gt.cells, storeV, eq_true f1, eq_true f2, eq_true f3]
    exact hK
  | mul a b h1 h2 =>
    have f1 : (0 : Int) ≤ (a : Int) := by omega
    have f2 : (a : Int) < (i : Int) := by omega
    have f3 : (0 : Int) ≤ (b : Int) := by omega
    have f4 : (b : Int) < (i : Int) := by omega
    simp -dsimp -implicitDefEqProofs only [↓STP, STQ, ne_eq, implies_true, forall_const, if_false, if_true, reduceCtorEq, ↓reduceIte, Nat.reduceEqDiff, Nat.reduceAdd, Int.reduceEq, Int.reduceLT, Int.reduceLE, Int.reduceNeg, Int.reduceAdd, Int.reduceSub, Int.reduceMul, Int.reduceToNat, Nat.reduceMul, Nat.reduceSub, Nat.reduceLT, Nat.reduceLeDiff, circV, ir70, Gt.v, Gt.cells, storeV, eq_true f1, eq_true f2, eq_true f3, eq_true f4]
    exact hK

/-- A valid circuit. -/
structure Circ (p q : Nat) (gs : List Gt) (outs : List Int) : Prop where
  sup : Supp p q
  lg : gs.length ≤ 20000
  lo : outs.length ≤ 1000
  gate : ∀ (i : Nat) (g : Gt), gs[i]? = some g → GateOK p i g
  out : ∀ o ∈ outs, 0 ≤ o ∧ o < gs.length

def cbox (p : Nat) (gs : List Gt) (outs : List Int) : List V := [W p, .vec (gs.map Gt.v) .any, .vec (outs.map I) .any]

def InvV1 (p : Nat) (gs : List Gt) (outs : List Int) (h : H) (k : Nat) (st : S) : Prop :=
  ∃ i : Nat, k = gs.length - i ∧ i ≤ gs.length ∧ st = ⟨upd (upd ρ0 1 (.lptr 0 3 0)) 3 (I i), upd m0 0 (some (cbox p gs outs)), 1, [], h⟩
def InvV2 (p : Nat) (gs : List Gt) (outs : List Int) (h : H) (k : Nat) (st : S) : Prop :=
  ∃ i : Nat, k = outs.length - i ∧ i ≤ outs.length ∧ st = ⟨upd (upd ρ0 1 (.lptr 0 3 0)) 4 (I i), upd m0 0 (some (cbox p gs outs)), 1, [], h⟩

theorem valid_spec {q : Nat} {v : V} (hv : circF p gs outs v) (hc : Circ p q gs outs) (hK : K (.ret (.bool true)) h) : R 53 [v] h K := by
  subst hv
  have hp := hc.sup.eq
  have lg := hc.lg
  have lo := hc.lo
  refine run53 (Nat.le_of_ble_eq_true rfl) ?_
  simp -dsimp -implicitDefEqProofs only [↓STP, STQ, ne_eq, implies_true, forall_const, if_false, if_true, reduceCtorEq, ↓reduceIte, Nat.reduceEqDiff, Nat.reduceAdd, Int.reduceEq, Int.reduceLT, Int.reduceLE, Int.reduceNeg, Int.reduceAdd, Int.reduceSub, Int.reduceMul, Int.reduceToNat, Nat.reduceMul, Nat.reduceSub, Nat.reduceLT, Nat.reduceLeDiff, circV, ir53]
  refine supported_spec hp.2.2.2 (fun _ => ?_) (fun hn => absurd hc.sup (hn q))
  have l1 : ¬ ((20000 : Int) < gs.length) := by omega
  have l2 : ¬ ((1000 : Int) < outs.length) := by omega
  simp -dsimp -implicitDefEqProofs only [↓STP, STQ, ne_eq, implies_true, forall_const, if_false, if_true, reduceCtorEq, ↓reduceIte, Nat.reduceEqDiff, Nat.reduceAdd, Int.reduceEq, Int.reduceLT, Int.reduceLE, Int.reduceNeg, Int.reduceAdd, Int.reduceSub, Int.reduceMul, Int.reduceToNat, Nat.reduceMul, Nat.reduceSub, Nat.reduceLT, Nat.reduceLeDiff, List.length_map, eq_false l1, eq_false l2]
  refine codeT_loop (InvV1 p gs outs h) (i := gs.length) ⟨0, by omega, by omega, by simp -dsimp -implicitDefEqProofs only [↓STP, STQ, ne_eq, implies_true, forall_const, if_false, if_true, reduceCtorEq, ↓reduceIte, Nat.reduceEqDiff, Nat.reduceAdd, Int.reduceEq, Int.reduceLT, Int.reduceLE, Int.reduceNeg, Int.reduceAdd, Int.reduceSub, Int.reduceMul, Int.reduceToNat, Nat.reduceMul, Nat.reduceSub, Nat.reduceLT, Nat.reduceLeDiff, circV, cbox] <;> rfl⟩ ?_ mono
  rintro k st ⟨i, rfl, hi, rfl⟩
  by_cases hlt : i < gs.length
  · have hget : (gs.map Gt.v)[i]? = some gs[i].v := by rw [List.getElem?_map, List.getElem?_eq_getElem hlt]; rfl
    simp -dsimp -implicitDefEqProofs only [↓STP, STQ, ne_eq, implies_true, forall_const, if_false, if_true, reduceCtorEq, ↓reduceIte, Nat.reduceEqDiff, Nat.reduceAdd, Int.reduceEq, Int.reduceLT, Int.reduceLE, Int.reduceNeg, Int.reduceAdd, Int.reduceSub, Int.reduceMul, Int.reduceToNat, Nat.reduceMul, Nat.reduceSub, Nat.reduceLT, Nat.reduceLeDiff, cbox, List.length_map, Int.ofNat_lt, hlt, hget, Gt.v, Gt.cells]
    refine rgate_spec (g := gs[i]) (hc.gate i _ (List.getElem?_eq_getElem hlt)) ?_
    simp -dsimp -implicitDefEqProofs only [↓STP, STQ, ne_eq, implies_true, forall_const, if_false, if_true, reduceCtorEq, ↓reduceIte, Nat.reduceEqDiff, Nat.reduceAdd, Int.reduceEq, Int.reduceLT, Int.reduceLE, Int.reduceNeg, Int.reduceAdd, Int.reduceSub, Int.reduceMul, Int.reduceToNat, Nat.reduceMul, Nat.reduceSub, Nat.reduceLT, Nat.reduceLeDiff]
    exact ⟨_, by omega, i + 1, rfl, by omega, by rw [wrap_i64 (by omega) (by omega)]; rfl⟩
  · simp -dsimp -implicitDefEqProofs only [↓STP, STQ, ne_eq, implies_true, forall_const, if_false, if_true, reduceCtorEq, ↓reduceIte, Nat.reduceEqDiff, Nat.reduceAdd, Int.reduceEq, Int.reduceLT, Int.reduceLE, Int.reduceNeg, Int.reduceAdd, Int.reduceSub, Int.reduceMul, Int.reduceToNat, Nat.reduceMul, Nat.reduceSub, Nat.reduceLT, Nat.reduceLeDiff, cbox, List.length_map, Int.ofNat_lt, hlt]
    refine codeT_loop (InvV2 p gs outs h) (i := outs.length) ⟨0, by omega, by omega, by simp -dsimp -implicitDefEqProofs only [↓STP, STQ, ne_eq, implies_true, forall_const, if_false, if_true, reduceCtorEq, ↓reduceIte, Nat.reduceEqDiff, Nat.reduceAdd, Int.reduceEq, Int.reduceLT, Int.reduceLE, Int.reduceNeg, Int.reduceAdd, Int.reduceSub, Int.reduceMul, Int.reduceToNat, Nat.reduceMul, Nat.reduceSub, Nat.reduceLT, Nat.reduceLeDiff, circV, cbox] <;> rfl⟩ ?_ mono
    rintro k st ⟨i, rfl, hi, rfl⟩
    by_cases hlt : i < outs.length
    · have hget : (outs.map I)[i]? = some (I outs[i]) := by rw [List.getElem?_map, List.getElem?_eq_getElem hlt]; rfl
      have ho := hc.out outs[i] (List.getElem_mem hlt)
      have o1 : ¬ (outs[i] < 0) := by omega
      have o2 : ¬ ((gs.length : Int) ≤ outs[i]) := by omega
      simp -dsimp -implicitDefEqProofs only [↓STP, STQ, ne_eq, implies_true, forall_const, if_false, if_true, reduceCtorEq, ↓reduceIte, Nat.reduceEqDiff, Nat.reduceAdd, Int.reduceEq, Int.reduceLT, Int.reduceLE, Int.reduceNeg, Int.reduceAdd, Int.reduceSub, Int.reduceMul, Int.reduceToNat, Nat.reduceMul, Nat.reduceSub, Nat.reduceLT, Nat.reduceLeDiff, cbox, List.length_map, Int.ofNat_lt, hlt, hget, eq_false o1, eq_false o2]
      exact ⟨_, by omega, i + 1, rfl, by omega, by rw [wrap_i64 (by omega) (by omega)]; rfl⟩
    · simp -dsimp -implicitDefEqProofs only [↓STP, STQ, ne_eq, implies_true, forall_const, if_false, if_true, reduceCtorEq, ↓reduceIte, Nat.reduceEqDiff, Nat.reduceAdd, Int.reduceEq, Int.reduceLT, Int.reduceLE, Int.reduceNeg, Int.reduceAdd, Int.reduceSub, Int.reduceMul, Int.reduceToNat, Nat.reduceMul, Nat.reduceSub, Nat.reduceLT, Nat.reduceLeDiff, cbox, List.length_map, Int.ofNat_lt, hlt]
      exact hK

end
end Go.Ab.Ytgfnhkedfmnijaa
