/- Constants (3): EvalConst of the given program and of the reference. -/
import Derived.Test.YtemlhjlceeiflaaA9
set_option linter.unusedVariables false
set_option linter.unusedSimpArgs false
namespace Go.Ab
def T3 (x : Nat × Int) : V := .tuple [W x.1, I x.2, .bool (!decide (x.2 = 0))]
theorem T3_eq {x : Nat × Int} : T3 x = .tuple [W x.1, I x.2, .bool (!decide (x.2 = 0))] := rfl
end Go.Ab
namespace Go.Ab.Ytemlhjlceeiflaa
section
variable {h : H} {K : Out → H → Prop}

theorem evalG {e : Exp} {lv : Nat} (hv : VE e lv) (ok : EOk e) (hK : K (.ret (T3 (constE e))) h) : R 13 [e.v] h K := by
  refine run13 (Nat.le_of_ble_eq_true rfl) ?_
  obtain ⟨k, o, n, s, ks⟩ := e
  simp -dsimp -implicitDefEqProofs only [↓STP, STQ, ne_eq, implies_true, forall_const, if_false, if_true, reduceCtorEq, ↓reduceIte, Nat.reduceEqDiff, Nat.reduceAdd, Int.reduceEq, Int.reduceLT, Int.reduceLE, Int.reduceNeg, Int.reduceAdd, Int.reduceSub, Int.reduceMul, Int.reduceToNat, Nat.reduceMul, Nat.reduceSub, Nat.reduceLT, Nat.reduceLeDiff, ir13, Exp.v_mk]
  rw [← Exp.v_mk]
  refine of31 _ lv _ _ hv ok ?_
  simp -dsimp -implicitDefEqProofs only [↓STP, STQ, ne_eq, implies_true, forall_const, if_false, if_true, reduceCtorEq, ↓reduceIte, Nat.reduceEqDiff, Nat.reduceAdd, Int.reduceEq, Int.reduceLT, Int.reduceLE, Int.reduceNeg, Int.reduceAdd, Int.reduceSub, Int.reduceMul, Int.reduceToNat, Nat.reduceMul, Nat.reduceSub, Nat.reduceLT, Nat.reduceLeDiff, KV_eq, storeV]
  exact hK

theorem truthR {b : Bool} (hK : K (.ret (W (bN b))) h) : R 41 [.bool b] h K := by
  refine run41 (Nat.le_of_ble_eq_true rfl) ?_
  cases b with
  | false =>
    simp -dsimp -implicitDefEqProofs only [↓STP, STQ, ne_eq, implies_true, forall_const, if_false, if_true, reduceCtorEq, ↓reduceIte, Nat.reduceEqDiff, Nat.reduceAdd, Int.reduceEq, Int.reduceLT, Int.reduceLE, Int.reduceNeg, Int.reduceAdd, Int.reduceSub, Int.reduceMul, Int.reduceToNat, Nat.reduceMul, Nat.reduceSub, Nat.reduceLT, Nat.reduceLeDiff, ir41]
    exact hK
  | true =>
    simp -dsimp -implicitDefEqProofs only [↓STP, STQ, ne_eq, implies_true, forall_const, if_false, if_true, reduceCtorEq, ↓reduceIte, Nat.reduceEqDiff, Nat.reduceAdd, Int.reduceEq, Int.reduceLT, Int.reduceLE, Int.reduceNeg, Int.reduceAdd, Int.reduceSub, Int.reduceMul, Int.reduceToNat, Nat.reduceMul, Nat.reduceSub, Nat.reduceLT, Nat.reduceLeDiff, ir41]
    exact hK

def opRef (o : Int) (a b : Nat) : Nat × Int := if o ≤ 5 then opDo o a b else (0, 0)

theorem opR {o : Int} {a b : Nat} (o1 : 1 ≤ o) (o2 : o ≤ 7) (ha : a < 1152921504606846976) (hb : b < 1152921504606846976) (hK : K (.ret (T3 (opRef o a b))) h) : R 25 [I o, W a, W b] h K := by
  refine run25 (Nat.le_of_ble_eq_true rfl) ?_
  have oo : o = 1 ∨ o = 2 ∨ o = 3 ∨ o = 4 ∨ o = 5 ∨ o = 6 ∨ o = 7 := by omega
  rcases oo with rfl | rfl | rfl | rfl | rfl | rfl | rfl
  · have w := wuadd (show a + b < 18446744073709551616 by omega)
    have e : opRef 1 a b = numK (a + b) := rfl
    rw [e, numK] at hK
    by_cases c : ((a + b : Nat) : Int) ≤ 1152921504606846975
    · simp -dsimp -implicitDefEqProofs only [↓STP, STQ, ne_eq, implies_true, forall_const, if_false, if_true, reduceCtorEq, ↓reduceIte, Nat.reduceEqDiff, Nat.reduceAdd, Int.reduceEq, Int.reduceLT, Int.reduceLE, Int.reduceNeg, Int.reduceAdd, Int.reduceSub, Int.reduceMul, Int.reduceToNat, Nat.reduceMul, Nat.reduceSub, Nat.reduceLT, Nat.reduceLeDiff, ir25, w, eq_true c]
      rw [if_pos (by omega)] at hK
      exact hK
    · simp -dsimp -implicitDefEqProofs only [↓STP, STQ, ne_eq, implies_true, forall_const, if_false, if_true, reduceCtorEq, ↓reduceIte, Nat.reduceEqDiff, Nat.reduceAdd, Int.reduceEq, Int.reduceLT, Int.reduceLE, Int.reduceNeg, Int.reduceAdd, Int.reduceSub, Int.reduceMul, Int.reduceToNat, Nat.reduceMul, Nat.reduceSub, Nat.reduceLT, Nat.reduceLeDiff, ir25, w, eq_false c]
      rw [if_neg (by omega)] at hK
      exact hK
  · have e : opRef 2 a b = (a - b, 1) := rfl
    rw [e] at hK
    by_cases c : (a : Int) < (b : Int)
    · simp -dsimp -implicitDefEqProofs only [↓STP, STQ, ne_eq, implies_true, forall_const, if_false, if_true, reduceCtorEq, ↓reduceIte, Nat.reduceEqDiff, Nat.reduceAdd, Int.reduceEq, Int.reduceLT, Int.reduceLE, Int.reduceNeg, Int.reduceAdd, Int.reduceSub, Int.reduceMul, Int.reduceToNat, Nat.reduceMul, Nat.reduceSub, Nat.reduceLT, Nat.reduceLeDiff, ir25, eq_true c]
      rw [show a - b = 0 by omega] at hK
      exact hK
    · have w : IntKind.u64.wrap ((a : Int) - (b : Int)) = ((a - b : Nat) : Int) := by rw [wrap_u64_self] <;> omega
      simp -dsimp -implicitDefEqProofs only [↓STP, STQ, ne_eq, implies_true, forall_const, if_false, if_true, reduceCtorEq, ↓reduceIte, Nat.reduceEqDiff, Nat.reduceAdd, Int.reduceEq, Int.reduceLT, Int.reduceLE, Int.reduceNeg, Int.reduceAdd, Int.reduceSub, Int.reduceMul, Int.reduceToNat, Nat.reduceMul, Nat.reduceSub, Nat.reduceLT, Nat.reduceLeDiff, ir25, w, eq_false c]
      exact hK
  · have e : opRef 3 a b = numK (a * b) := rfl
    rw [e] at hK
    have w : IntKind.u64.wrap ((a : Int) * (b : Int)) = ((a * b % 18446744073709551616 : Nat) : Int) := by rw [wrap_u64, ← Int.natCast_mul]; exact (Int.natCast_emod _ _).symm
    by_cases c : (b : Int) = 0
    · have hb0 : b = 0 := by omega
      subst hb0
      rw [Nat.mul_zero] at *
      simp -dsimp -implicitDefEqProofs only [↓STP, STQ, ne_eq, implies_true, forall_const, if_false, if_true, reduceCtorEq, ↓reduceIte, Nat.reduceEqDiff, Nat.reduceAdd, Int.reduceEq, Int.reduceLT, Int.reduceLE, Int.reduceNeg, Int.reduceAdd, Int.reduceSub, Int.reduceMul, Int.reduceToNat, Nat.reduceMul, Nat.reduceSub, Nat.reduceLT, Nat.reduceLeDiff, ir25, w]
      exact hK
    · have w2 : IntKind.u64.wrap ((1152921504606846975 : Int).tdiv (b : Int)) = ((1152921504606846975 / b : Nat) : Int) := wudiv (x := 1152921504606846975) (by decide)
      have hb0 : 0 < b := by omega
      by_cases d : a ≤ 1152921504606846975 / b
      · have d' : (a : Int) ≤ ((1152921504606846975 / b : Nat) : Int) := Int.ofNat_le.2 d
        have hle : a * b ≤ 1152921504606846975 := (Nat.le_div_iff_mul_le hb0).1 d
        rw [Nat.mod_eq_of_lt (by omega)] at w
        simp -dsimp -implicitDefEqProofs only [↓STP, STQ, ne_eq, implies_true, forall_const, if_false, if_true, reduceCtorEq, ↓reduceIte, Nat.reduceEqDiff, Nat.reduceAdd, Int.reduceEq, Int.reduceLT, Int.reduceLE, Int.reduceNeg, Int.reduceAdd, Int.reduceSub, Int.reduceMul, Int.reduceToNat, Nat.reduceMul, Nat.reduceSub, Nat.reduceLT, Nat.reduceLeDiff, ir25, eq_false c, w2, eq_true d', w]
        rw [numK, if_pos (by omega)] at hK
        exact hK
      · have d' : ¬ (a : Int) ≤ ((1152921504606846975 / b : Nat) : Int) := fun h => d (Int.ofNat_le.1 h)
        have hle : ¬ a * b ≤ 1152921504606846975 := fun h => d ((Nat.le_div_iff_mul_le hb0).2 h)
        simp -dsimp -implicitDefEqProofs only [↓STP, STQ, ne_eq, implies_true, forall_const, if_false, if_true, reduceCtorEq, ↓reduceIte, Nat.reduceEqDiff, Nat.reduceAdd, Int.reduceEq, Int.reduceLT, Int.reduceLE, Int.reduceNeg, Int.reduceAdd, Int.reduceSub, Int.reduceMul, Int.reduceToNat, Nat.reduceMul, Nat.reduceSub, Nat.reduceLT, Nat.reduceLeDiff, ir25, eq_false c, w2, eq_false d', w]
        rw [numK, if_neg (by omega)] at hK
        exact hK
  · simp -dsimp -implicitDefEqProofs only [↓STP, STQ, ne_eq, implies_true, forall_const, if_false, if_true, reduceCtorEq, ↓reduceIte, Nat.reduceEqDiff, Nat.reduceAdd, Int.reduceEq, Int.reduceLT, Int.reduceLE, Int.reduceNeg, Int.reduceAdd, Int.reduceSub, Int.reduceMul, Int.reduceToNat, Nat.reduceMul, Nat.reduceSub, Nat.reduceLT, Nat.reduceLeDiff, ir25]
    refine truthR ?_
    simp -dsimp -implicitDefEqProofs only [↓STP, STQ, ne_eq, implies_true, forall_const, if_false, if_true, reduceCtorEq, ↓reduceIte, Nat.reduceEqDiff, Nat.reduceAdd, Int.reduceEq, Int.reduceLT, Int.reduceLE, Int.reduceNeg, Int.reduceAdd, Int.reduceSub, Int.reduceMul, Int.reduceToNat, Nat.reduceMul, Nat.reduceSub, Nat.reduceLT, Nat.reduceLeDiff, Int.ofNat_lt]
    exact hK
  · simp -dsimp -implicitDefEqProofs only [↓STP, STQ, ne_eq, implies_true, forall_const, if_false, if_true, reduceCtorEq, ↓reduceIte, Nat.reduceEqDiff, Nat.reduceAdd, Int.reduceEq, Int.reduceLT, Int.reduceLE, Int.reduceNeg, Int.reduceAdd, Int.reduceSub, Int.reduceMul, Int.reduceToNat, Nat.reduceMul, Nat.reduceSub, Nat.reduceLT, Nat.reduceLeDiff, ir25]
    refine truthR ?_
    simp -dsimp -implicitDefEqProofs only [↓STP, STQ, ne_eq, implies_true, forall_const, if_false, if_true, reduceCtorEq, ↓reduceIte, Nat.reduceEqDiff, Nat.reduceAdd, Int.reduceEq, Int.reduceLT, Int.reduceLE, Int.reduceNeg, Int.reduceAdd, Int.reduceSub, Int.reduceMul, Int.reduceToNat, Nat.reduceMul, Nat.reduceSub, Nat.reduceLT, Nat.reduceLeDiff, Int.ofNat_inj]
    exact hK
  · simp -dsimp -implicitDefEqProofs only [↓STP, STQ, ne_eq, implies_true, forall_const, if_false, if_true, reduceCtorEq, ↓reduceIte, Nat.reduceEqDiff, Nat.reduceAdd, Int.reduceEq, Int.reduceLT, Int.reduceLE, Int.reduceNeg, Int.reduceAdd, Int.reduceSub, Int.reduceMul, Int.reduceToNat, Nat.reduceMul, Nat.reduceSub, Nat.reduceLT, Nat.reduceLeDiff, ir25]
    exact hK
  · simp -dsimp -implicitDefEqProofs only [↓STP, STQ, ne_eq, implies_true, forall_const, if_false, if_true, reduceCtorEq, ↓reduceIte, Nat.reduceEqDiff, Nat.reduceAdd, Int.reduceEq, Int.reduceLT, Int.reduceLE, Int.reduceNeg, Int.reduceAdd, Int.reduceSub, Int.reduceMul, Int.reduceToNat, Nat.reduceMul, Nat.reduceSub, Nat.reduceLT, Nat.reduceLeDiff, ir25]
    exact hK

theorem evalR (e : Exp) : ∀ (lv : Nat) (h : H) (K : Out → H → Prop), VE e lv → EOk e → K (.ret (T3 (constE e))) h → R 14 [e.v] h K := by
  induction e using Exp.ind with
  | h k o n s ks ih =>
    intro lv h K hv ok hK
    obtain ⟨v1, v2, v3, v4, v5, v6, v7, v8, v9⟩ := VE_mk.1 hv
    obtain ⟨hk, ho, hn, hs, hl, hks⟩ := EOk_mk ok
    have hm := maxLen_eq
    have cmk := @constE_mk k o n s ks
    have w0 : IntKind.u64.wrap 0 = 0 := rfl
    have w1' : IntKind.u64.wrap 1 = 1 := rfl
    have w2' : IntKind.u64.wrap 2 = 2 := rfl
    have ck : ∀ x ∈ ks, CK (constE x) := fun x hx => ck_const x _ (v9 x hx)
    refine run14 (Nat.le_of_ble_eq_true rfl) ?_
    rcases kidsN_cases v2 with rfl | rfl | rfl | rfl | rfl | rfl
    · have hk0 : ks.length = 0 := by have : kidsN 1 = 0 := rfl; omega
      have : ks = [] := List.length_eq_zero_iff.1 hk0
      subst this
      simp -dsimp -implicitDefEqProofs only [↓STP, STQ, ne_eq, implies_true, forall_const, if_false, if_true, reduceCtorEq, ↓reduceIte, Nat.reduceEqDiff, Nat.reduceAdd, Int.reduceEq, Int.reduceLT, Int.reduceLE, Int.reduceNeg, Int.reduceAdd, Int.reduceSub, Int.reduceMul, Int.reduceToNat, Nat.reduceMul, Nat.reduceSub, Nat.reduceLT, Nat.reduceLeDiff, Exp.v_mk, ir14]
      rw [cmk] at hK
      exact hK
    · have hk0 : ks.length = 0 := by have : kidsN 2 = 0 := rfl; omega
      have : ks = [] := List.length_eq_zero_iff.1 hk0
      subst this
      simp -dsimp -implicitDefEqProofs only [↓STP, STQ, ne_eq, implies_true, forall_const, if_false, if_true, reduceCtorEq, ↓reduceIte, Nat.reduceEqDiff, Nat.reduceAdd, Int.reduceEq, Int.reduceLT, Int.reduceLE, Int.reduceNeg, Int.reduceAdd, Int.reduceSub, Int.reduceMul, Int.reduceToNat, Nat.reduceMul, Nat.reduceSub, Nat.reduceLT, Nat.reduceLeDiff, Exp.v_mk, ir14]
      rw [cmk] at hK
      exact hK
    · have e : constE (.mk 3 o n s ks) = (0, 0) := by
        rw [cmk, constOf]
        split <;> rfl
      simp -dsimp -implicitDefEqProofs only [↓STP, STQ, ne_eq, implies_true, forall_const, if_false, if_true, reduceCtorEq, ↓reduceIte, Nat.reduceEqDiff, Nat.reduceAdd, Int.reduceEq, Int.reduceLT, Int.reduceLE, Int.reduceNeg, Int.reduceAdd, Int.reduceSub, Int.reduceMul, Int.reduceToNat, Nat.reduceMul, Nat.reduceSub, Nat.reduceLT, Nat.reduceLeDiff, Exp.v_mk, ir14]
      rw [e] at hK
      exact hK
    · have hkn : ks.length = 2 := by have : kidsN 4 = 2 := rfl; omega
      simp -dsimp -implicitDefEqProofs only [↓STP, STQ, ne_eq, implies_true, forall_const, if_false, if_true, reduceCtorEq, ↓reduceIte, Nat.reduceEqDiff, Nat.reduceAdd, Int.reduceEq, Int.reduceLT, Int.reduceLE, Int.reduceNeg, Int.reduceAdd, Int.reduceSub, Int.reduceMul, Int.reduceToNat, Nat.reduceMul, Nat.reduceSub, Nat.reduceLT, Nat.reduceLeDiff, Exp.v_mk, ir14]
      refine codeT_for (N := ks.length) (fun i => ⟨upd (upd (upd (upd ρ0 1 (.lptr 0 5 0)) 5 (.vec ((ks.take i).map fun x => W (constE x).1) (.own 1))) 6 (.vec ((ks.take i).map fun x => I (constE x).2) (.own 2))) 7 (I i),
        upd m0 0 (some [I 4, I o, W n, .str s, .vec (ks.map Exp.v) .any]), 3, [], h⟩) (fun i => (ks.take i).any (fun x => decide ((constE x).2 = 0)) = false) (by simp -dsimp -implicitDefEqProofs only [↓STP, STQ, ne_eq, implies_true, forall_const, if_false, if_true, reduceCtorEq, ↓reduceIte, Nat.reduceEqDiff, Nat.reduceAdd, Int.reduceEq, Int.reduceLT, Int.reduceLE, Int.reduceNeg, Int.reduceAdd, Int.reduceSub, Int.reduceMul, Int.reduceToNat, Nat.reduceMul, Nat.reduceSub, Nat.reduceLT, Nat.reduceLeDiff] <;> rfl) (by simp) (fun i hi hp => ?_) (fun hp => ?_) mono
      · have hget := get_map (f := Exp.v) hi
        have hx := ih _ (List.getElem_mem hi) (lv + 1) h
        have hvx := v9 _ (List.getElem_mem hi)
        have okx := hks _ (List.getElem_mem hi)
        have w1 := wiM (show i < 9223372036854775807 by omega)
        have htk : ks.take (i + 1) = ks.take i ++ [ks[i]] := by rw [List.take_add_one, List.getElem?_eq_getElem hi]; rfl
        have hmem : ks[i] ∈ ks := List.getElem_mem hi
        rw [htk]
        generalize ks[i] = x at *
        simp -dsimp -implicitDefEqProofs only [↓STP, STQ, ne_eq, implies_true, forall_const, if_false, if_true, reduceCtorEq, ↓reduceIte, Nat.reduceEqDiff, Nat.reduceAdd, Int.reduceEq, Int.reduceLT, Int.reduceLE, Int.reduceNeg, Int.reduceAdd, Int.reduceSub, Int.reduceMul, Int.reduceToNat, Nat.reduceMul, Nat.reduceSub, Nat.reduceLT, Nat.reduceLeDiff, List.length_map, Int.ofNat_lt, hi, hget, storeE, Exp.v_outs, Exp.v_clen, Exp.v_tk, Exp.v_ag, Exp.v_out, eq_self]
        refine hx _ hvx okx ?_
        by_cases c : (constE x).2 = 0
        · simp -dsimp -implicitDefEqProofs only [↓STP, STQ, ne_eq, implies_true, forall_const, if_false, if_true, reduceCtorEq, ↓reduceIte, Nat.reduceEqDiff, Nat.reduceAdd, Int.reduceEq, Int.reduceLT, Int.reduceLE, Int.reduceNeg, Int.reduceAdd, Int.reduceSub, Int.reduceMul, Int.reduceToNat, Nat.reduceMul, Nat.reduceSub, Nat.reduceLT, Nat.reduceLeDiff, T3_eq, eq_true c]
          have e : constE (.mk 4 o n s ks) = (0, 0) := by
            rw [cmk]
            unfold constOf
            rw [if_pos]
            rw [List.any_map, List.any_eq_true]
            exact ⟨x, hmem, by simpa using c⟩
          rw [e] at hK
          exact hK
        · simp -dsimp -implicitDefEqProofs only [↓STP, STQ, ne_eq, implies_true, forall_const, if_false, if_true, reduceCtorEq, ↓reduceIte, Nat.reduceEqDiff, Nat.reduceAdd, Int.reduceEq, Int.reduceLT, Int.reduceLE, Int.reduceNeg, Int.reduceAdd, Int.reduceSub, Int.reduceMul, Int.reduceToNat, Nat.reduceMul, Nat.reduceSub, Nat.reduceLT, Nat.reduceLeDiff, T3_eq, eq_false c]
          rw [app1_own (sz := 1) (by simp) (by intro e he; obtain ⟨y, _, rfl⟩ := List.mem_map.1 he; rfl) rfl (by decide) (by decide) (by rw [List.length_map, List.length_take]; omega)]
          simp -dsimp -implicitDefEqProofs only [↓STP, STQ, ne_eq, implies_true, forall_const, if_false, if_true, reduceCtorEq, ↓reduceIte, Nat.reduceEqDiff, Nat.reduceAdd, Int.reduceEq, Int.reduceLT, Int.reduceLE, Int.reduceNeg, Int.reduceAdd, Int.reduceSub, Int.reduceMul, Int.reduceToNat, Nat.reduceMul, Nat.reduceSub, Nat.reduceLT, Nat.reduceLeDiff]
          rw [app1_own (sz := 1) (by simp) (by intro e he; obtain ⟨y, _, rfl⟩ := List.mem_map.1 he; rfl) rfl (by decide) (by decide) (by rw [List.length_map, List.length_take]; omega)]
          simp -dsimp -implicitDefEqProofs only [↓STP, STQ, ne_eq, implies_true, forall_const, if_false, if_true, reduceCtorEq, ↓reduceIte, Nat.reduceEqDiff, Nat.reduceAdd, Int.reduceEq, Int.reduceLT, Int.reduceLE, Int.reduceNeg, Int.reduceAdd, Int.reduceSub, Int.reduceMul, Int.reduceToNat, Nat.reduceMul, Nat.reduceSub, Nat.reduceLT, Nat.reduceLeDiff, w1, List.map_append, eq_self]
          simpa [hp] using c
      · rw [List.take_length] at *
        have ha : (ks.map constE).any (fun x => decide (x.2 = 0)) = false := by rw [List.any_map]; exact hp
        have kinds : ∀ x ∈ ks, (constE x).2 = 1 ∨ (constE x).2 = 2 := fun x hx => by
          have h1 : ¬ (constE x).2 = 0 := by
            have := List.any_eq_false.1 hp x hx
            simpa using this
          rcases ck x hx with c | c | c <;> omega
        rw [cmk, constOf, ha] at hK
        obtain ⟨a, b, rfl⟩ := len2 hkn
        have hK : K (.ret (T3 (opOf o (constE a) (constE b)))) h := hK
        have ca := ck a (by simp)
        have cb := ck b (by simp)
        obtain ⟨o1, o2⟩ := v5 rfl
        have z : (2 : Int) ≠ 0 := by decide
        rcases kinds a (by simp) with ka | ka <;> rcases kinds b (by simp) with kb | kb
        · simp -dsimp -implicitDefEqProofs only [↓STP, STQ, ne_eq, implies_true, forall_const, if_false, if_true, reduceCtorEq, ↓reduceIte, Nat.reduceEqDiff, Nat.reduceAdd, Int.reduceEq, Int.reduceLT, Int.reduceLE, Int.reduceNeg, Int.reduceAdd, Int.reduceSub, Int.reduceMul, Int.reduceToNat, Nat.reduceMul, Nat.reduceSub, Nat.reduceLT, Nat.reduceLeDiff, List.length_map, Int.lt_irrefl, ka, kb]
          refine opR o1 o2 (by rcases ca with ca | ca | ca <;> omega) (by rcases cb with cb | cb | cb <;> omega) ?_
          simp -dsimp -implicitDefEqProofs only [↓STP, STQ, ne_eq, implies_true, forall_const, if_false, if_true, reduceCtorEq, ↓reduceIte, Nat.reduceEqDiff, Nat.reduceAdd, Int.reduceEq, Int.reduceLT, Int.reduceLE, Int.reduceNeg, Int.reduceAdd, Int.reduceSub, Int.reduceMul, Int.reduceToNat, Nat.reduceMul, Nat.reduceSub, Nat.reduceLT, Nat.reduceLeDiff, T3_eq]
          have e : opOf o (constE a) (constE b) = opRef o (constE a).1 (constE b).1 := by
            unfold opOf opRef opSide
            rw [ka, kb]
            by_cases c : o ≤ 5
            · rw [if_pos c, if_pos c, if_pos ⟨rfl, rfl⟩]
            · rw [if_neg c, if_neg c, if_neg (by decide)]
          rw [e] at hK
          exact hK
        · simp -dsimp -implicitDefEqProofs only [↓STP, STQ, ne_eq, implies_true, forall_const, if_false, if_true, reduceCtorEq, ↓reduceIte, Nat.reduceEqDiff, Nat.reduceAdd, Int.reduceEq, Int.reduceLT, Int.reduceLE, Int.reduceNeg, Int.reduceAdd, Int.reduceSub, Int.reduceMul, Int.reduceToNat, Nat.reduceMul, Nat.reduceSub, Nat.reduceLT, Nat.reduceLeDiff, List.length_map, Int.lt_irrefl, ka, kb]
          rw [show opOf o (constE a) (constE b) = (0, 0) from if_neg fun h => by rw [ka, kb] at h; omega] at hK
          exact hK
        · simp -dsimp -implicitDefEqProofs only [↓STP, STQ, ne_eq, implies_true, forall_const, if_false, if_true, reduceCtorEq, ↓reduceIte, Nat.reduceEqDiff, Nat.reduceAdd, Int.reduceEq, Int.reduceLT, Int.reduceLE, Int.reduceNeg, Int.reduceAdd, Int.reduceSub, Int.reduceMul, Int.reduceToNat, Nat.reduceMul, Nat.reduceSub, Nat.reduceLT, Nat.reduceLeDiff, List.length_map, Int.lt_irrefl, ka, kb]
          rw [show opOf o (constE a) (constE b) = (0, 0) from if_neg fun h => by rw [ka, kb] at h; omega] at hK
          exact hK
        · by_cases c6 : o = 6
          · subst c6
            rw [show opOf 6 (constE a) (constE b) = opDo 6 (constE a).1 (constE b).1 from if_pos ⟨ka, kb⟩] at hK
            have na : (constE a).1 = 0 ∨ (constE a).1 = 1 := by rcases ca with ca | ca | ca <;> omega
            have nb : (constE b).1 = 0 ∨ (constE b).1 = 1 := by rcases cb with cb | cb | cb <;> omega
            rcases na with na | na <;> rcases nb with nb | nb
            all_goals
              simp -dsimp -implicitDefEqProofs only [↓STP, STQ, ne_eq, implies_true, forall_const, if_false, if_true, reduceCtorEq, ↓reduceIte, Nat.reduceEqDiff, Nat.reduceAdd, Int.reduceEq, Int.reduceLT, Int.reduceLE, Int.reduceNeg, Int.reduceAdd, Int.reduceSub, Int.reduceMul, Int.reduceToNat, Nat.reduceMul, Nat.reduceSub, Nat.reduceLT, Nat.reduceLeDiff, List.length_map, Int.lt_irrefl, ka, kb, na, nb, w0, w1', w2']
              rw [na, nb] at hK
              exact hK
          by_cases c7 : o = 7
          · subst c7
            rw [show opOf 7 (constE a) (constE b) = opDo 7 (constE a).1 (constE b).1 from if_pos ⟨ka, kb⟩] at hK
            have na : (constE a).1 = 0 ∨ (constE a).1 = 1 := by rcases ca with ca | ca | ca <;> omega
            have nb : (constE b).1 = 0 ∨ (constE b).1 = 1 := by rcases cb with cb | cb | cb <;> omega
            rcases na with na | na <;> rcases nb with nb | nb
            all_goals
              simp -dsimp -implicitDefEqProofs only [↓STP, STQ, ne_eq, implies_true, forall_const, if_false, if_true, reduceCtorEq, ↓reduceIte, Nat.reduceEqDiff, Nat.reduceAdd, Int.reduceEq, Int.reduceLT, Int.reduceLE, Int.reduceNeg, Int.reduceAdd, Int.reduceSub, Int.reduceMul, Int.reduceToNat, Nat.reduceMul, Nat.reduceSub, Nat.reduceLT, Nat.reduceLeDiff, List.length_map, Int.lt_irrefl, ka, kb, na, nb, w0, w1', w2']
              rw [na, nb] at hK
              exact hK
          simp -dsimp -implicitDefEqProofs only [↓STP, STQ, ne_eq, implies_true, forall_const, if_false, if_true, reduceCtorEq, ↓reduceIte, Nat.reduceEqDiff, Nat.reduceAdd, Int.reduceEq, Int.reduceLT, Int.reduceLE, Int.reduceNeg, Int.reduceAdd, Int.reduceSub, Int.reduceMul, Int.reduceToNat, Nat.reduceMul, Nat.reduceSub, Nat.reduceLT, Nat.reduceLeDiff, List.length_map, Int.lt_irrefl, ka, kb, eq_false c6, eq_false c7]
          rw [show opOf o (constE a) (constE b) = (0, 0) from if_neg fun h => by
            have h1 := h.1
            rw [ka] at h1
            unfold opSide at h1
            split at h1 <;> omega] at hK
          exact hK
    · have hkn : ks.length = 1 := by have : kidsN 5 = 1 := rfl; omega
      simp -dsimp -implicitDefEqProofs only [↓STP, STQ, ne_eq, implies_true, forall_const, if_false, if_true, reduceCtorEq, ↓reduceIte, Nat.reduceEqDiff, Nat.reduceAdd, Int.reduceEq, Int.reduceLT, Int.reduceLE, Int.reduceNeg, Int.reduceAdd, Int.reduceSub, Int.reduceMul, Int.reduceToNat, Nat.reduceMul, Nat.reduceSub, Nat.reduceLT, Nat.reduceLeDiff, Exp.v_mk, ir14]
      refine codeT_for (N := ks.length) (fun i => ⟨upd (upd (upd (upd ρ0 1 (.lptr 0 5 0)) 5 (.vec ((ks.take i).map fun x => W (constE x).1) (.own 1))) 6 (.vec ((ks.take i).map fun x => I (constE x).2) (.own 2))) 7 (I i),
        upd m0 0 (some [I 5, I o, W n, .str s, .vec (ks.map Exp.v) .any]), 3, [], h⟩) (fun i => (ks.take i).any (fun x => decide ((constE x).2 = 0)) = false) (by simp -dsimp -implicitDefEqProofs only [↓STP, STQ, ne_eq, implies_true, forall_const, if_false, if_true, reduceCtorEq, ↓reduceIte, Nat.reduceEqDiff, Nat.reduceAdd, Int.reduceEq, Int.reduceLT, Int.reduceLE, Int.reduceNeg, Int.reduceAdd, Int.reduceSub, Int.reduceMul, Int.reduceToNat, Nat.reduceMul, Nat.reduceSub, Nat.reduceLT, Nat.reduceLeDiff] <;> rfl) (by simp) (fun i hi hp => ?_) (fun hp => ?_) mono
      · have hget := get_map (f := Exp.v) hi
        have hx := ih _ (List.getElem_mem hi) (lv + 1) h
        have hvx := v9 _ (List.getElem_mem hi)
        have okx := hks _ (List.getElem_mem hi)
        have w1 := wiM (show i < 9223372036854775807 by omega)
        have htk : ks.take (i + 1) = ks.take i ++ [ks[i]] := by rw [List.take_add_one, List.getElem?_eq_getElem hi]; rfl
        have hmem : ks[i] ∈ ks := List.getElem_mem hi
        rw [htk]
        generalize ks[i] = x at *
        simp -dsimp -implicitDefEqProofs only [↓STP, STQ, ne_eq, implies_true, forall_const, if_false, if_true, reduceCtorEq, ↓reduceIte, Nat.reduceEqDiff, Nat.reduceAdd, Int.reduceEq, Int.reduceLT, Int.reduceLE, Int.reduceNeg, Int.reduceAdd, Int.reduceSub, Int.reduceMul, Int.reduceToNat, Nat.reduceMul, Nat.reduceSub, Nat.reduceLT, Nat.reduceLeDiff, List.length_map, Int.ofNat_lt, hi, hget, storeE, Exp.v_outs, Exp.v_clen, Exp.v_tk, Exp.v_ag, Exp.v_out, eq_self]
        refine hx _ hvx okx ?_
        by_cases c : (constE x).2 = 0
        · simp -dsimp -implicitDefEqProofs only [↓STP, STQ, ne_eq, implies_true, forall_const, if_false, if_true, reduceCtorEq, ↓reduceIte, Nat.reduceEqDiff, Nat.reduceAdd, Int.reduceEq, Int.reduceLT, Int.reduceLE, Int.reduceNeg, Int.reduceAdd, Int.reduceSub, Int.reduceMul, Int.reduceToNat, Nat.reduceMul, Nat.reduceSub, Nat.reduceLT, Nat.reduceLeDiff, T3_eq, eq_true c]
          have e : constE (.mk 5 o n s ks) = (0, 0) := by
            rw [cmk]
            unfold constOf
            rw [if_pos]
            rw [List.any_map, List.any_eq_true]
            exact ⟨x, hmem, by simpa using c⟩
          rw [e] at hK
          exact hK
        · simp -dsimp -implicitDefEqProofs only [↓STP, STQ, ne_eq, implies_true, forall_const, if_false, if_true, reduceCtorEq, ↓reduceIte, Nat.reduceEqDiff, Nat.reduceAdd, Int.reduceEq, Int.reduceLT, Int.reduceLE, Int.reduceNeg, Int.reduceAdd, Int.reduceSub, Int.reduceMul, Int.reduceToNat, Nat.reduceMul, Nat.reduceSub, Nat.reduceLT, Nat.reduceLeDiff, T3_eq, eq_false c]
          rw [app1_own (sz := 1) (by simp) (by intro e he; obtain ⟨y, _, rfl⟩ := List.mem_map.1 he; rfl) rfl (by decide) (by decide) (by rw [List.length_map, List.length_take]; omega)]
          simp -dsimp -implicitDefEqProofs only [↓STP, STQ, ne_eq, implies_true, forall_const, if_false, if_true, reduceCtorEq, ↓reduceIte, Nat.reduceEqDiff, Nat.reduceAdd, Int.reduceEq, Int.reduceLT, Int.reduceLE, Int.reduceNeg, Int.reduceAdd, Int.reduceSub, Int.reduceMul, Int.reduceToNat, Nat.reduceMul, Nat.reduceSub, Nat.reduceLT, Nat.reduceLeDiff]
          rw [app1_own (sz := 1) (by simp) (by intro e he; obtain ⟨y, _, rfl⟩ := List.mem_map.1 he; rfl) rfl (by decide) (by decide) (by rw [List.length_map, List.length_take]; omega)]
          simp -dsimp -implicitDefEqProofs only [↓STP, STQ, ne_eq, implies_true, forall_const, if_false, if_true, reduceCtorEq, ↓reduceIte, Nat.reduceEqDiff, Nat.reduceAdd, Int.reduceEq, Int.reduceLT, Int.reduceLE, Int.reduceNeg, Int.reduceAdd, Int.reduceSub, Int.reduceMul, Int.reduceToNat, Nat.reduceMul, Nat.reduceSub, Nat.reduceLT, Nat.reduceLeDiff, w1, List.map_append, eq_self]
          simpa [hp] using c
      · rw [List.take_length] at *
        have ha : (ks.map constE).any (fun x => decide (x.2 = 0)) = false := by rw [List.any_map]; exact hp
        have kinds : ∀ x ∈ ks, (constE x).2 = 1 ∨ (constE x).2 = 2 := fun x hx => by
          have h1 : ¬ (constE x).2 = 0 := by
            have := List.any_eq_false.1 hp x hx
            simpa using this
          rcases ck x hx with c | c | c <;> omega
        rw [cmk, constOf, ha] at hK
        obtain ⟨a, rfl⟩ := len1 hkn
        have hK : K (.ret (T3 (if (constE a).2 = 2 then truK (decide ((constE a).1 = 0)) else (0, 0)))) h := hK
        have ca := ck a (by simp)
        rcases kinds a (by simp) with ka | ka
        · simp -dsimp -implicitDefEqProofs only [↓STP, STQ, ne_eq, implies_true, forall_const, if_false, if_true, reduceCtorEq, ↓reduceIte, Nat.reduceEqDiff, Nat.reduceAdd, Int.reduceEq, Int.reduceLT, Int.reduceLE, Int.reduceNeg, Int.reduceAdd, Int.reduceSub, Int.reduceMul, Int.reduceToNat, Nat.reduceMul, Nat.reduceSub, Nat.reduceLT, Nat.reduceLeDiff, List.length_map, Int.lt_irrefl, ka]
          rw [if_neg (by omega)] at hK
          exact hK
        · rw [if_pos ka] at hK
          have na : (constE a).1 = 0 ∨ (constE a).1 = 1 := by rcases ca with ca | ca | ca <;> omega
          rcases na with na | na
          all_goals
            simp -dsimp -implicitDefEqProofs only [↓STP, STQ, ne_eq, implies_true, forall_const, if_false, if_true, reduceCtorEq, ↓reduceIte, Nat.reduceEqDiff, Nat.reduceAdd, Int.reduceEq, Int.reduceLT, Int.reduceLE, Int.reduceNeg, Int.reduceAdd, Int.reduceSub, Int.reduceMul, Int.reduceToNat, Nat.reduceMul, Nat.reduceSub, Nat.reduceLT, Nat.reduceLeDiff, List.length_map, Int.lt_irrefl, ka, na, w0, w1']
            rw [na] at hK
            exact hK
    · have hkn : ks.length = 3 := by have : kidsN 6 = 3 := rfl; omega
      simp -dsimp -implicitDefEqProofs only [↓STP, STQ, ne_eq, implies_true, forall_const, if_false, if_true, reduceCtorEq, ↓reduceIte, Nat.reduceEqDiff, Nat.reduceAdd, Int.reduceEq, Int.reduceLT, Int.reduceLE, Int.reduceNeg, Int.reduceAdd, Int.reduceSub, Int.reduceMul, Int.reduceToNat, Nat.reduceMul, Nat.reduceSub, Nat.reduceLT, Nat.reduceLeDiff, Exp.v_mk, ir14]
      refine codeT_for (N := ks.length) (fun i => ⟨upd (upd (upd (upd ρ0 1 (.lptr 0 5 0)) 5 (.vec ((ks.take i).map fun x => W (constE x).1) (.own 1))) 6 (.vec ((ks.take i).map fun x => I (constE x).2) (.own 2))) 7 (I i),
        upd m0 0 (some [I 6, I o, W n, .str s, .vec (ks.map Exp.v) .any]), 3, [], h⟩) (fun i => (ks.take i).any (fun x => decide ((constE x).2 = 0)) = false) (by simp -dsimp -implicitDefEqProofs only [↓STP, STQ, ne_eq, implies_true, forall_const, if_false, if_true, reduceCtorEq, ↓reduceIte, Nat.reduceEqDiff, Nat.reduceAdd, Int.reduceEq, Int.reduceLT, Int.reduceLE, Int.reduceNeg, Int.reduceAdd, Int.reduceSub, Int.reduceMul, Int.reduceToNat, Nat.reduceMul, Nat.reduceSub, Nat.reduceLT, Nat.reduceLeDiff] <;> rfl) (by simp) (fun i hi hp => ?_) (fun hp => ?_) mono
      · have hget := get_map (f := Exp.v) hi
        have hx := ih _ (List.getElem_mem hi) (lv + 1) h
        have hvx := v9 _ (List.getElem_mem hi)
        have okx := hks _ (List.getElem_mem hi)
        have w1 := wiM (show i < 9223372036854775807 by omega)
        have htk : ks.take (i + 1) = ks.take i ++ [ks[i]] := by rw [List.take_add_one, List.getElem?_eq_getElem hi]; rfl
        have hmem : ks[i] ∈ ks := List.getElem_mem hi
        rw [htk]
        generalize ks[i] = x at *
        simp -dsimp -implicitDefEqProofs only [↓STP, STQ, ne_eq, implies_true, forall_const, if_false, if_true, reduceCtorEq, ↓reduceIte, Nat.reduceEqDiff, Nat.reduceAdd, Int.reduceEq, Int.reduceLT, Int.reduceLE, Int.reduceNeg, Int.reduceAdd, Int.reduceSub, Int.reduceMul, Int.reduceToNat, Nat.reduceMul, Nat.reduceSub, Nat.reduceLT, Nat.reduceLeDiff, List.length_map, Int.ofNat_lt, hi, hget, storeE, Exp.v_outs, Exp.v_clen, Exp.v_tk, Exp.v_ag, Exp.v_out, eq_self]
        refine hx _ hvx okx ?_
        by_cases c : (constE x).2 = 0
        · simp -dsimp -implicitDefEqProofs only [↓STP, STQ, ne_eq, implies_true, forall_const, if_false, if_true, reduceCtorEq, ↓reduceIte, Nat.reduceEqDiff, Nat.reduceAdd, Int.reduceEq, Int.reduceLT, Int.reduceLE, Int.reduceNeg, Int.reduceAdd, Int.reduceSub, Int.reduceMul, Int.reduceToNat, Nat.reduceMul, Nat.reduceSub, Nat.reduceLT, Nat.reduceLeDiff, T3_eq, eq_true c]
          have e : constE (.mk 6 o n s ks) = (0, 0) := by
            rw [cmk]
            unfold constOf
            rw [if_pos]
            rw [List.any_map, List.any_eq_true]
            exact ⟨x, hmem, by simpa using c⟩
          rw [e] at hK
          exact hK
        · simp -dsimp -implicitDefEqProofs only [↓STP, STQ, ne_eq, implies_true, forall_const, if_false, if_true, reduceCtorEq, ↓reduceIte, Nat.reduceEqDiff, Nat.reduceAdd, Int.reduceEq, Int.reduceLT, Int.reduceLE, Int.reduceNeg, Int.reduceAdd, Int.reduceSub, Int.reduceMul, Int.reduceToNat, Nat.reduceMul, Nat.reduceSub, Nat.reduceLT, Nat.reduceLeDiff, T3_eq, eq_false c]
          rw [app1_own (sz := 1) (by simp) (by intro e he; obtain ⟨y, _, rfl⟩ := List.mem_map.1 he; rfl) rfl (by decide) (by decide) (by rw [List.length_map, List.length_take]; omega)]
          simp -dsimp -implicitDefEqProofs only [↓STP, STQ, ne_eq, implies_true, forall_const, if_false, if_true, reduceCtorEq, ↓reduceIte, Nat.reduceEqDiff, Nat.reduceAdd, Int.reduceEq, Int.reduceLT, Int.reduceLE, Int.reduceNeg, Int.reduceAdd, Int.reduceSub, Int.reduceMul, Int.reduceToNat, Nat.reduceMul, Nat.reduceSub, Nat.reduceLT, Nat.reduceLeDiff]
          rw [app1_own (sz := 1) (by simp) (by intro e he; obtain ⟨y, _, rfl⟩ := List.mem_map.1 he; rfl) rfl (by decide) (by decide) (by rw [List.length_map, List.length_take]; omega)]
          simp -dsimp -implicitDefEqProofs only [↓STP, STQ, ne_eq, implies_true, forall_const, if_false, if_true, reduceCtorEq, ↓reduceIte, Nat.reduceEqDiff, Nat.reduceAdd, Int.reduceEq, Int.reduceLT, Int.reduceLE, Int.reduceNeg, Int.reduceAdd, Int.reduceSub, Int.reduceMul, Int.reduceToNat, Nat.reduceMul, Nat.reduceSub, Nat.reduceLT, Nat.reduceLeDiff, w1, List.map_append, eq_self]
          simpa [hp] using c
      · rw [List.take_length] at *
        have ha : (ks.map constE).any (fun x => decide (x.2 = 0)) = false := by rw [List.any_map]; exact hp
        have kinds : ∀ x ∈ ks, (constE x).2 = 1 ∨ (constE x).2 = 2 := fun x hx => by
          have h1 : ¬ (constE x).2 = 0 := by
            have := List.any_eq_false.1 hp x hx
            simpa using this
          rcases ck x hx with c | c | c <;> omega
        rw [cmk, constOf, ha] at hK
        obtain ⟨a, b, c, rfl⟩ := len3 hkn
        have hK : K (.ret (T3 (if (constE a).2 = 2 ∧ (constE b).2 = (constE c).2 then (if (constE a).1 = 1 then constE b else constE c) else (0, 0)))) h := hK
        have ca := ck a (by simp)
        have nz : ∀ x ∈ [a, b, c], ¬ (constE x).2 = 0 := fun x hx => by rcases kinds x hx with h | h <;> omega
        have zb := nz b (by simp)
        have zc := nz c (by simp)
        rcases kinds a (by simp) with ka | ka
        · simp -dsimp -implicitDefEqProofs only [↓STP, STQ, ne_eq, implies_true, forall_const, if_false, if_true, reduceCtorEq, ↓reduceIte, Nat.reduceEqDiff, Nat.reduceAdd, Int.reduceEq, Int.reduceLT, Int.reduceLE, Int.reduceNeg, Int.reduceAdd, Int.reduceSub, Int.reduceMul, Int.reduceToNat, Nat.reduceMul, Nat.reduceSub, Nat.reduceLT, Nat.reduceLeDiff, List.length_map, Int.lt_irrefl, ka]
          rw [if_neg (by omega)] at hK
          exact hK
        by_cases c2 : (constE b).2 = (constE c).2
        rotate_left
        · simp -dsimp -implicitDefEqProofs only [↓STP, STQ, ne_eq, implies_true, forall_const, if_false, if_true, reduceCtorEq, ↓reduceIte, Nat.reduceEqDiff, Nat.reduceAdd, Int.reduceEq, Int.reduceLT, Int.reduceLE, Int.reduceNeg, Int.reduceAdd, Int.reduceSub, Int.reduceMul, Int.reduceToNat, Nat.reduceMul, Nat.reduceSub, Nat.reduceLT, Nat.reduceLeDiff, List.length_map, Int.lt_irrefl, ka, eq_false c2]
          rw [if_neg fun h => c2 h.2] at hK
          exact hK
        rw [if_pos ⟨ka, c2⟩] at hK
        have na : (constE a).1 = 0 ∨ (constE a).1 = 1 := by rcases ca with ca | ca | ca <;> omega
        rcases na with na | na
        · simp -dsimp -implicitDefEqProofs only [↓STP, STQ, ne_eq, implies_true, forall_const, if_false, if_true, reduceCtorEq, ↓reduceIte, Nat.reduceEqDiff, Nat.reduceAdd, Int.reduceEq, Int.reduceLT, Int.reduceLE, Int.reduceNeg, Int.reduceAdd, Int.reduceSub, Int.reduceMul, Int.reduceToNat, Nat.reduceMul, Nat.reduceSub, Nat.reduceLT, Nat.reduceLeDiff, List.length_map, Int.lt_irrefl, ka, eq_true c2, na]
          rw [if_neg (by omega)] at hK
          simpa [T3_eq, zc] using hK
        · simp -dsimp -implicitDefEqProofs only [↓STP, STQ, ne_eq, implies_true, forall_const, if_false, if_true, reduceCtorEq, ↓reduceIte, Nat.reduceEqDiff, Nat.reduceAdd, Int.reduceEq, Int.reduceLT, Int.reduceLE, Int.reduceNeg, Int.reduceAdd, Int.reduceSub, Int.reduceMul, Int.reduceToNat, Nat.reduceMul, Nat.reduceSub, Nat.reduceLT, Nat.reduceLeDiff, List.length_map, Int.lt_irrefl, ka, eq_true c2, na]
          rw [if_pos na] at hK
          simpa [T3_eq, zb] using hK
end
end Go.Ab.Ytemlhjlceeiflaa
