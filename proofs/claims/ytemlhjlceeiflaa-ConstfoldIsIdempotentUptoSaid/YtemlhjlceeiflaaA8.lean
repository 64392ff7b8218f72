/- Constants: what a constant expression is worth, and the given program's table of operators. -/
import Derived.Test.YtemlhjlceeiflaaA7
import Derived.Test.YtemlhjlceeiflaaF4
set_option linter.unusedVariables false
set_option linter.unusedSimpArgs false
namespace Go.Ab

def KV (x : Nat × Int) : V := .agg [W x.1, I x.2]
theorem KV_eq {x : Nat × Int} : KV x = .agg [W x.1, I x.2] := rfl
theorem KV_out {x : Nat × Int} : (KV x).out = some (KV x) := rfl
theorem KV_cells {x : Nat × Int} : (KV x).cells = [W x.1, I x.2] := rfl
def bN (b : Bool) : Nat := if b then 1 else 0
def numK (n : Nat) : Nat × Int := if n < 1152921504606846976 then (n, 1) else (0, 0)
def truK (b : Bool) : Nat × Int := (bN b, 2)
/-- What an operator makes of two values of its kind. -/
def opDo (o : Int) (a b : Nat) : Nat × Int :=
  if o = 1 then numK (a + b) else if o = 2 then (a - b, 1) else if o = 3 then numK (a * b) else if o = 4 then truK (decide (a < b)) else if o = 5 then truK (decide (a = b))
  else if o = 6 then truK (decide (a + b = 2)) else truK (decide (0 < a + b))
def opSide (o : Int) : Int := if o ≤ 5 then 1 else 2
def nthK (l : List (Nat × Int)) (i : Nat) : Nat × Int := l.getD i (0, 0)
def opOf (o : Int) (x y : Nat × Int) : Nat × Int := if x.2 = opSide o ∧ y.2 = opSide o then opDo o x.1 y.1 else (0, 0)
def constOf (k o : Int) (n : Nat) (l : List (Nat × Int)) : Nat × Int :=
  if l.any (fun x => decide (x.2 = 0)) then (0, 0)
  else if k = 1 then (n, 1) else if k = 4 then opOf o (nthK l 0) (nthK l 1)
  else if k = 5 then (if (nthK l 0).2 = 2 then truK (decide ((nthK l 0).1 = 0)) else (0, 0))
  else if k = 6 then (if (nthK l 0).2 = 2 ∧ (nthK l 1).2 = (nthK l 2).2 then (if (nthK l 0).1 = 1 then nthK l 1 else nthK l 2) else (0, 0))
  else (0, 0)
mutual
def constE : Exp → Nat × Int
  | .mk k o n s ks => constOf k o n (constEs ks)
def constEs : List Exp → List (Nat × Int)
  | [] => []
  | e :: es => constE e :: constEs es
end
theorem constEs_map : ∀ l : List Exp, constEs l = l.map constE
  | [] => rfl
  | e :: es => by rw [constEs, constEs_map es]; rfl
theorem constE_mk {k o : Int} {n : Nat} {s : ByteArray} {ks : List Exp} : constE (.mk k o n s ks) = constOf k o n (ks.map constE) := by rw [constE, constEs_map]

/-- Values that are right for their kind. -/
def CK (x : Nat × Int) : Prop := (x.2 = 0 ∧ x.1 = 0) ∨ (x.2 = 1 ∧ x.1 < 1152921504606846976) ∨ (x.2 = 2 ∧ x.1 ≤ 1)
theorem ck_none : CK (0, 0) := .inl ⟨rfl, rfl⟩
theorem ck_num {n : Nat} : CK (numK n) := by unfold numK; split; exact .inr (.inl ⟨rfl, by assumption⟩); exact ck_none
theorem ck_tru {b : Bool} : CK (truK b) := .inr (.inr ⟨rfl, by cases b <;> decide⟩)
theorem ck_nth {l : List (Nat × Int)} {i : Nat} (h : ∀ x ∈ l, CK x) : CK (nthK l i) := by
  unfold nthK
  rw [List.getD_eq_getElem?_getD]
  cases hx : l[i]? with
  | none => exact ck_none
  | some x => exact h x (List.mem_of_getElem? hx)
theorem ck_const (e : Exp) : ∀ lv, VE e lv → CK (constE e) := by
  induction e using Exp.ind with
  | h k o n s ks ih =>
    intro lv hv
    obtain ⟨_, _, _, _, ho, _, hn, _, hks⟩ := VE_mk.1 hv
    have hl : ∀ x ∈ ks.map constE, CK x := fun x hx => by
      obtain ⟨e, he, rfl⟩ := List.mem_map.1 hx
      exact ih e he _ (hks e he)
    rw [constE_mk]
    unfold constOf
    have c0 := ck_nth (i := 0) hl
    have c1 := ck_nth (i := 1) hl
    have c2 := ck_nth (i := 2) hl
    split
    · exact ck_none
    · split
      · exact .inr (.inl ⟨rfl, by simp only; omega⟩)
      · split
        · unfold opOf opDo
          split
          · rename_i hs
            have := ho (by assumption)
            split
            · exact ck_num
            · split
              · refine .inr (.inl ⟨rfl, ?_⟩)
                have h1 : opSide o = 1 := by unfold opSide; rw [if_pos (by omega)]
                rcases c0 with c0 | c0 | c0 <;> simp only <;> omega
              · split
                · exact ck_num
                · split
                  · exact ck_tru
                  · split
                    · exact ck_tru
                    · split <;> exact ck_tru
          · exact ck_none
        · split
          · split
            · exact ck_tru
            · exact ck_none
          · split
            · split
              · split
                · exact c1
                · exact c2
              · exact ck_none
            · exact ck_none

namespace Ytemlhjlceeiflaa

/-- A step with a function value. -/
def withF (v : V) (f : FuncId → List V → List V → Prop) (F : Fix f) : Prop := match v with
  | .func (.func g) a b => f g a b
  | _ => False
theorem withF_func {g : FuncId} {a b : List V} {f : FuncId → List V → List V → Prop} {F : Fix f} : withF (.func (.func g) a b) f F = f g a b := rfl
theorem opT_callF {call : CallT} {ρ : Nat → V} {m : Nat → Option (List V)} {n : Nat} {u : List Nat} {h : H} {K : Ex → S → Prop} {next : S → Prop} {d : Option Nat} {f : Arg} {args : List Arg} : opT call d (.callv f args) ⟨ρ, m, n, u, h⟩ next K ⟨⟩ =
    withF (evA ρ f) (fun g a b => withVs (outs (args.map (evA ρ))) (fun vs => callT call g (a ++ vs ++ b) h (fun o h' => match o with
      | .ret v => next (S.put ⟨ρ, m, n, u, h'⟩ d (landV n v))
      | .pan v => K (.pan v) (.blank h')) ⟨⟩) ⟨⟩) ⟨⟩ := by
  cases hf : evA ρ f with
  | func fn a b =>
    cases fn with
    | func g => rw [opT_callv hf]; rfl
    | _ => simp only [opT, op1, isRd, eff, hf, withF, Bool.false_eq_true, if_false]
  | _ => simp only [opT, op1, isRd, eff, hf, withF, Bool.false_eq_true, if_false]

section
variable {h : H} {K : Out → H → Prop}

theorem number31 {n : Nat} {b : Bool} (hn : n < 18446744073709551616) (hK : K (.ret (KV (if b = true then numK n else (0, 0)))) h) : R 60 [W n, .bool b] h K := by
  refine run60 (Nat.le_of_ble_eq_true rfl) ?_
  cases b with
  | false =>
    simp -dsimp -implicitDefEqProofs only [↓STP, STQ, ne_eq, implies_true, forall_const, if_false, if_true, reduceCtorEq, ↓reduceIte, Nat.reduceEqDiff, Nat.reduceAdd, Int.reduceEq, Int.reduceLT, Int.reduceLE, Int.reduceNeg, Int.reduceAdd, Int.reduceSub, Int.reduceMul, Int.reduceToNat, Nat.reduceMul, Nat.reduceSub, Nat.reduceLT, Nat.reduceLeDiff, ir60]
    exact hK
  | true =>
    simp -dsimp -implicitDefEqProofs only [↓STP, STQ, ne_eq, implies_true, forall_const, if_false, if_true, reduceCtorEq, ↓reduceIte, Nat.reduceEqDiff, Nat.reduceAdd, Int.reduceEq, Int.reduceLT, Int.reduceLE, Int.reduceNeg, Int.reduceAdd, Int.reduceSub, Int.reduceMul, Int.reduceToNat, Nat.reduceMul, Nat.reduceSub, Nat.reduceLT, Nat.reduceLeDiff, ir60]
    refine width_full hn ?_
    by_cases c : (60 : Int) < (max (blen n) 1 : Nat)
    · simp -dsimp -implicitDefEqProofs only [↓STP, STQ, ne_eq, implies_true, forall_const, if_false, if_true, reduceCtorEq, ↓reduceIte, Nat.reduceEqDiff, Nat.reduceAdd, Int.reduceEq, Int.reduceLT, Int.reduceLE, Int.reduceNeg, Int.reduceAdd, Int.reduceSub, Int.reduceMul, Int.reduceToNat, Nat.reduceMul, Nat.reduceSub, Nat.reduceLT, Nat.reduceLeDiff, eq_true c]
      have : ¬ n < 1152921504606846976 := fun h => by have := (blen_le (k := 60)).2 (by omega); omega
      rw [if_pos rfl, numK, if_neg this] at hK
      exact hK
    · simp -dsimp -implicitDefEqProofs only [↓STP, STQ, ne_eq, implies_true, forall_const, if_false, if_true, reduceCtorEq, ↓reduceIte, Nat.reduceEqDiff, Nat.reduceAdd, Int.reduceEq, Int.reduceLT, Int.reduceLE, Int.reduceNeg, Int.reduceAdd, Int.reduceSub, Int.reduceMul, Int.reduceToNat, Nat.reduceMul, Nat.reduceSub, Nat.reduceLT, Nat.reduceLeDiff, eq_false c]
      have : n < 1152921504606846976 := by have := (blen_le (k := 60) (n := n)).1 (by omega); omega
      rw [if_pos rfl, numK, if_pos this] at hK
      exact hK

theorem truth31 {b : Bool} (hK : K (.ret (KV (truK b))) h) : R 40 [.bool b] h K := by
  refine run40 (Nat.le_of_ble_eq_true rfl) ?_
  cases b with
  | false =>
    simp -dsimp -implicitDefEqProofs only [↓STP, STQ, ne_eq, implies_true, forall_const, if_false, if_true, reduceCtorEq, ↓reduceIte, Nat.reduceEqDiff, Nat.reduceAdd, Int.reduceEq, Int.reduceLT, Int.reduceLE, Int.reduceNeg, Int.reduceAdd, Int.reduceSub, Int.reduceMul, Int.reduceToNat, Nat.reduceMul, Nat.reduceSub, Nat.reduceLT, Nat.reduceLeDiff, ir40]
    exact hK
  | true =>
    simp -dsimp -implicitDefEqProofs only [↓STP, STQ, ne_eq, implies_true, forall_const, if_false, if_true, reduceCtorEq, ↓reduceIte, Nat.reduceEqDiff, Nat.reduceAdd, Int.reduceEq, Int.reduceLT, Int.reduceLE, Int.reduceNeg, Int.reduceAdd, Int.reduceSub, Int.reduceMul, Int.reduceToNat, Nat.reduceMul, Nat.reduceSub, Nat.reduceLT, Nat.reduceLeDiff, ir40]
    exact hK

def opTab : List V := [I 0, .nilfunc, I 1, .func (.func 59) [] [], I 1, .func (.func 61) [] [], I 1, .func (.func 62) [] [],
  I 1, .func (.func 63) [] [], I 1, .func (.func 64) [] [], I 2, .func (.func 65) [] [], I 2, .func (.func 66) [] []]

theorem operations31 (hK : K (.ret (.agg opTab)) h) : R 39 [] h K := by
  refine runs_fn (F := ir39) ext2 rfl (by kernel_rfl) (Nat.le_of_ble_eq_true rfl) ?_
  simp -dsimp -implicitDefEqProofs only [↓STP, STQ, ne_eq, implies_true, forall_const, if_false, if_true, reduceCtorEq, ↓reduceIte, Nat.reduceEqDiff, Nat.reduceAdd, Int.reduceEq, Int.reduceLT, Int.reduceLE, Int.reduceNeg, Int.reduceAdd, Int.reduceSub, Int.reduceMul, Int.reduceToNat, Nat.reduceMul, Nat.reduceSub, Nat.reduceLT, Nat.reduceLeDiff, ir39]
  exact hK

theorem wudiv {x a : Nat} (hx : x < 18446744073709551616) : IntKind.u64.wrap ((x : Int).tdiv (a : Int)) = ((x / a : Nat) : Int) := by
  have := Nat.div_le_self x a
  rw [← Int.ofNat_tdiv]
  generalize x / a = y at *
  rw [wrap_u64_self] <;> omega
theorem do1 {a b : Nat} (ha : a < 1152921504606846976) (hb : b < 1152921504606846976) (hK : K (.ret (KV (opDo 1 a b))) h) : R 59 [W a, W b] h K := by
  refine run59 (Nat.le_of_ble_eq_true rfl) ?_
  simp -dsimp -implicitDefEqProofs only [↓STP, STQ, ne_eq, implies_true, forall_const, if_false, if_true, reduceCtorEq, ↓reduceIte, Nat.reduceEqDiff, Nat.reduceAdd, Int.reduceEq, Int.reduceLT, Int.reduceLE, Int.reduceNeg, Int.reduceAdd, Int.reduceSub, Int.reduceMul, Int.reduceToNat, Nat.reduceMul, Nat.reduceSub, Nat.reduceLT, Nat.reduceLeDiff, ir59, wuadd (show a + b < 18446744073709551616 by omega)]
  refine number31 (by omega) ?_
  simp -dsimp -implicitDefEqProofs only [↓STP, STQ, ne_eq, implies_true, forall_const, if_false, if_true, reduceCtorEq, ↓reduceIte, Nat.reduceEqDiff, Nat.reduceAdd, Int.reduceEq, Int.reduceLT, Int.reduceLE, Int.reduceNeg, Int.reduceAdd, Int.reduceSub, Int.reduceMul, Int.reduceToNat, Nat.reduceMul, Nat.reduceSub, Nat.reduceLT, Nat.reduceLeDiff, KV_eq]
  exact hK
theorem do2 {a b : Nat} (ha : a < 1152921504606846976) (hb : b < 1152921504606846976) (hK : K (.ret (KV (opDo 2 a b))) h) : R 61 [W a, W b] h K := by
  refine run61 (Nat.le_of_ble_eq_true rfl) ?_
  by_cases c : (b : Int) < (a : Int)
  · have w : IntKind.u64.wrap ((a : Int) - (b : Int)) = ((a - b : Nat) : Int) := by rw [wrap_u64_self] <;> omega
    simp -dsimp -implicitDefEqProofs only [↓STP, STQ, ne_eq, implies_true, forall_const, if_false, if_true, reduceCtorEq, ↓reduceIte, Nat.reduceEqDiff, Nat.reduceAdd, Int.reduceEq, Int.reduceLT, Int.reduceLE, Int.reduceNeg, Int.reduceAdd, Int.reduceSub, Int.reduceMul, Int.reduceToNat, Nat.reduceMul, Nat.reduceSub, Nat.reduceLT, Nat.reduceLeDiff, ir61, minV_two, minsV, if_pos c, w]
    refine number31 (by omega) ?_
    rw [if_pos rfl, numK, if_pos (by omega)]
    simp -dsimp -implicitDefEqProofs only [↓STP, STQ, ne_eq, implies_true, forall_const, if_false, if_true, reduceCtorEq, ↓reduceIte, Nat.reduceEqDiff, Nat.reduceAdd, Int.reduceEq, Int.reduceLT, Int.reduceLE, Int.reduceNeg, Int.reduceAdd, Int.reduceSub, Int.reduceMul, Int.reduceToNat, Nat.reduceMul, Nat.reduceSub, Nat.reduceLT, Nat.reduceLeDiff, KV_eq]
    exact hK
  · have w : IntKind.u64.wrap ((a : Int) - (a : Int)) = ((0 : Nat) : Int) := by rw [wrap_u64_self] <;> omega
    simp -dsimp -implicitDefEqProofs only [↓STP, STQ, ne_eq, implies_true, forall_const, if_false, if_true, reduceCtorEq, ↓reduceIte, Nat.reduceEqDiff, Nat.reduceAdd, Int.reduceEq, Int.reduceLT, Int.reduceLE, Int.reduceNeg, Int.reduceAdd, Int.reduceSub, Int.reduceMul, Int.reduceToNat, Nat.reduceMul, Nat.reduceSub, Nat.reduceLT, Nat.reduceLeDiff, ir61, minV_two, minsV, if_neg c, w]
    refine number31 (n := 0) (by omega) ?_
    rw [if_pos rfl, numK, if_pos (by omega)]
    simp -dsimp -implicitDefEqProofs only [↓STP, STQ, ne_eq, implies_true, forall_const, if_false, if_true, reduceCtorEq, ↓reduceIte, Nat.reduceEqDiff, Nat.reduceAdd, Int.reduceEq, Int.reduceLT, Int.reduceLE, Int.reduceNeg, Int.reduceAdd, Int.reduceSub, Int.reduceMul, Int.reduceToNat, Nat.reduceMul, Nat.reduceSub, Nat.reduceLT, Nat.reduceLeDiff, KV_eq]
    have e : opDo 2 a b = (0, 1) := by
      show (a - b, (1 : Int)) = _
      rw [show a - b = 0 by omega]
    rw [e] at hK
    exact hK
theorem do3 {a b : Nat} (ha : a < 1152921504606846976) (hb : b < 1152921504606846976) (hK : K (.ret (KV (opDo 3 a b))) h) : R 62 [W a, W b] h K := by
  refine run62 (Nat.le_of_ble_eq_true rfl) ?_
  have w : IntKind.u64.wrap ((a : Int) * (b : Int)) = ((a * b % 18446744073709551616 : Nat) : Int) := by rw [wrap_u64, ← Int.natCast_mul]; exact (Int.natCast_emod _ _).symm
  by_cases c : (a : Int) = 0
  · simp -dsimp -implicitDefEqProofs only [↓STP, STQ, ne_eq, implies_true, forall_const, if_false, if_true, reduceCtorEq, ↓reduceIte, Nat.reduceEqDiff, Nat.reduceAdd, Int.reduceEq, Int.reduceLT, Int.reduceLE, Int.reduceNeg, Int.reduceAdd, Int.reduceSub, Int.reduceMul, Int.reduceToNat, Nat.reduceMul, Nat.reduceSub, Nat.reduceLT, Nat.reduceLeDiff, ir62, w, eq_true c]
    refine number31 (by omega) ?_
    have e : a = 0 := by omega
    subst e
    rw [if_pos rfl]
    rw [Nat.zero_mul] at *
    simp -dsimp -implicitDefEqProofs only [↓STP, STQ, ne_eq, implies_true, forall_const, if_false, if_true, reduceCtorEq, ↓reduceIte, Nat.reduceEqDiff, Nat.reduceAdd, Int.reduceEq, Int.reduceLT, Int.reduceLE, Int.reduceNeg, Int.reduceAdd, Int.reduceSub, Int.reduceMul, Int.reduceToNat, Nat.reduceMul, Nat.reduceSub, Nat.reduceLT, Nat.reduceLeDiff, KV_eq, storeV]
    simpa [opDo, KV_eq] using hK
  · simp -dsimp -implicitDefEqProofs only [↓STP, STQ, ne_eq, implies_true, forall_const, if_false, if_true, reduceCtorEq, ↓reduceIte, Nat.reduceEqDiff, Nat.reduceAdd, Int.reduceEq, Int.reduceLT, Int.reduceLE, Int.reduceNeg, Int.reduceAdd, Int.reduceSub, Int.reduceMul, Int.reduceToNat, Nat.reduceMul, Nat.reduceSub, Nat.reduceLT, Nat.reduceLeDiff, ir62, w, eq_false c]
    have hx : a * b % 18446744073709551616 < 18446744073709551616 := Nat.mod_lt _ (by decide)
    have w2 : IntKind.u64.wrap (((a * b % 18446744073709551616 : Nat) : Int).tdiv (a : Int)) = ((a * b % 18446744073709551616 / a : Nat) : Int) := wudiv hx
    rw [w2]
    have e : decide (((a * b % 18446744073709551616 / a : Nat) : Int) = (b : Int)) = decide (a * b % 18446744073709551616 / a = b) := decide_eq_decide.2 (by omega)
    rw [e]
    refine number31 hx ?_
    have ha0 : 0 < a := by omega
    have fin : (if decide (a * b % 18446744073709551616 / a = b) = true then numK (a * b % 18446744073709551616) else ((0, 0) : Nat × Int)) = opDo 3 a b := by
      show _ = numK (a * b)
      have hle := Nat.mod_le (a * b) 18446744073709551616
      by_cases d : a * b % 18446744073709551616 / a = b
      · rw [if_pos (by simpa using d)]
        have h1 := Nat.div_mul_le_self (a * b % 18446744073709551616) a
        rw [d, Nat.mul_comm] at h1
        rw [show a * b % 18446744073709551616 = a * b by omega]
      · rw [if_neg (by simpa using d)]
        have : ¬ a * b < 18446744073709551616 := fun h => d (by rw [Nat.mod_eq_of_lt h]; exact Nat.mul_div_cancel_left b ha0)
        unfold numK
        rw [if_neg (by omega)]
    rw [fin]
    simp -dsimp -implicitDefEqProofs only [↓STP, STQ, ne_eq, implies_true, forall_const, if_false, if_true, reduceCtorEq, ↓reduceIte, Nat.reduceEqDiff, Nat.reduceAdd, Int.reduceEq, Int.reduceLT, Int.reduceLE, Int.reduceNeg, Int.reduceAdd, Int.reduceSub, Int.reduceMul, Int.reduceToNat, Nat.reduceMul, Nat.reduceSub, Nat.reduceLT, Nat.reduceLeDiff, KV_eq, storeV]
    exact hK
theorem do4 {a b : Nat} (hK : K (.ret (KV (opDo 4 a b))) h) : R 63 [W a, W b] h K := by
  refine run63 (Nat.le_of_ble_eq_true rfl) ?_
  simp -dsimp -implicitDefEqProofs only [↓STP, STQ, ne_eq, implies_true, forall_const, if_false, if_true, reduceCtorEq, ↓reduceIte, Nat.reduceEqDiff, Nat.reduceAdd, Int.reduceEq, Int.reduceLT, Int.reduceLE, Int.reduceNeg, Int.reduceAdd, Int.reduceSub, Int.reduceMul, Int.reduceToNat, Nat.reduceMul, Nat.reduceSub, Nat.reduceLT, Nat.reduceLeDiff, ir63]
  refine truth31 ?_
  simp -dsimp -implicitDefEqProofs only [↓STP, STQ, ne_eq, implies_true, forall_const, if_false, if_true, reduceCtorEq, ↓reduceIte, Nat.reduceEqDiff, Nat.reduceAdd, Int.reduceEq, Int.reduceLT, Int.reduceLE, Int.reduceNeg, Int.reduceAdd, Int.reduceSub, Int.reduceMul, Int.reduceToNat, Nat.reduceMul, Nat.reduceSub, Nat.reduceLT, Nat.reduceLeDiff, KV_eq, Int.ofNat_lt]
  exact hK
theorem do5 {a b : Nat} (hK : K (.ret (KV (opDo 5 a b))) h) : R 64 [W a, W b] h K := by
  refine run64 (Nat.le_of_ble_eq_true rfl) ?_
  simp -dsimp -implicitDefEqProofs only [↓STP, STQ, ne_eq, implies_true, forall_const, if_false, if_true, reduceCtorEq, ↓reduceIte, Nat.reduceEqDiff, Nat.reduceAdd, Int.reduceEq, Int.reduceLT, Int.reduceLE, Int.reduceNeg, Int.reduceAdd, Int.reduceSub, Int.reduceMul, Int.reduceToNat, Nat.reduceMul, Nat.reduceSub, Nat.reduceLT, Nat.reduceLeDiff, ir64]
  refine truth31 ?_
  simp -dsimp -implicitDefEqProofs only [↓STP, STQ, ne_eq, implies_true, forall_const, if_false, if_true, reduceCtorEq, ↓reduceIte, Nat.reduceEqDiff, Nat.reduceAdd, Int.reduceEq, Int.reduceLT, Int.reduceLE, Int.reduceNeg, Int.reduceAdd, Int.reduceSub, Int.reduceMul, Int.reduceToNat, Nat.reduceMul, Nat.reduceSub, Nat.reduceLT, Nat.reduceLeDiff, KV_eq, Int.ofNat_inj]
  exact hK
theorem do6 {a b : Nat} (ha : a ≤ 1) (hb : b ≤ 1) (hK : K (.ret (KV (opDo 6 a b))) h) : R 65 [W a, W b] h K := by
  refine run65 (Nat.le_of_ble_eq_true rfl) ?_
  simp -dsimp -implicitDefEqProofs only [↓STP, STQ, ne_eq, implies_true, forall_const, if_false, if_true, reduceCtorEq, ↓reduceIte, Nat.reduceEqDiff, Nat.reduceAdd, Int.reduceEq, Int.reduceLT, Int.reduceLE, Int.reduceNeg, Int.reduceAdd, Int.reduceSub, Int.reduceMul, Int.reduceToNat, Nat.reduceMul, Nat.reduceSub, Nat.reduceLT, Nat.reduceLeDiff, ir65, wuadd (show a + b < 18446744073709551616 by omega)]
  refine truth31 ?_
  have e : decide (((a + b : Nat) : Int) = 2) = decide (a + b = 2) := decide_eq_decide.2 (by omega)
  simp -dsimp -implicitDefEqProofs only [↓STP, STQ, ne_eq, implies_true, forall_const, if_false, if_true, reduceCtorEq, ↓reduceIte, Nat.reduceEqDiff, Nat.reduceAdd, Int.reduceEq, Int.reduceLT, Int.reduceLE, Int.reduceNeg, Int.reduceAdd, Int.reduceSub, Int.reduceMul, Int.reduceToNat, Nat.reduceMul, Nat.reduceSub, Nat.reduceLT, Nat.reduceLeDiff, KV_eq, e]
  exact hK
theorem do7 {a b : Nat} (ha : a ≤ 1) (hb : b ≤ 1) (hK : K (.ret (KV (opDo 7 a b))) h) : R 66 [W a, W b] h K := by
  refine run66 (Nat.le_of_ble_eq_true rfl) ?_
  simp -dsimp -implicitDefEqProofs only [↓STP, STQ, ne_eq, implies_true, forall_const, if_false, if_true, reduceCtorEq, ↓reduceIte, Nat.reduceEqDiff, Nat.reduceAdd, Int.reduceEq, Int.reduceLT, Int.reduceLE, Int.reduceNeg, Int.reduceAdd, Int.reduceSub, Int.reduceMul, Int.reduceToNat, Nat.reduceMul, Nat.reduceSub, Nat.reduceLT, Nat.reduceLeDiff, ir66, wuadd (show a + b < 18446744073709551616 by omega)]
  refine truth31 ?_
  have e : decide ((0 : Int) < ((a + b : Nat) : Int)) = decide (0 < a + b) := decide_eq_decide.2 (by omega)
  simp -dsimp -implicitDefEqProofs only [↓STP, STQ, ne_eq, implies_true, forall_const, if_false, if_true, reduceCtorEq, ↓reduceIte, Nat.reduceEqDiff, Nat.reduceAdd, Int.reduceEq, Int.reduceLT, Int.reduceLE, Int.reduceNeg, Int.reduceAdd, Int.reduceSub, Int.reduceMul, Int.reduceToNat, Nat.reduceMul, Nat.reduceSub, Nat.reduceLT, Nat.reduceLeDiff, KV_eq, e]
  exact hK

end
end Ytemlhjlceeiflaa
end Go.Ab
