/- Chapter 11: what the functions of a tape do. -/
import Derived.Test.YtgnpliafpklfcaaEnv
import Derived.Test.YtgnpliafpklfcaaAb33
set_option linter.unusedVariables false
set_option linter.unusedSimpArgs false
namespace Go.Ab.Ytgnpliafpklfcaa

section
variable {h : H} {K : Out → H → Prop} {ws : List Nat} {c : Cap} {id p : Nat} {n : Int}

theorem out_sh {xs : List V} (hc : c.shared = true) : (V.vec xs c).out = some (.vec xs c) := by cases c <;> first | rfl | simp [Cap.shared] at hc

/-- A tape in the store. -/
def TapeAt (h : H) (id : Nat) (ws : List Nat) (p : Nat) : Prop := ∃ c, c.shared = true ∧ h.get id = some [.vec (Ws ws) c, I p]

theorem new9 (hc : c.shared = true) (hK : ∀ h', h' = h.new (.cells [.vec (Ws ws) c, I 0]) → K (.ret (.ptr h.next 0)) h') : R 9 [.vec (Ws ws) c] h K := by
  refine run9 (Nat.le_of_ble_eq_true rfl) ?_
  simp -dsimp -implicitDefEqProofs only [↓STP, STQ, ne_eq, implies_true, forall_const, if_false, if_true, reduceCtorEq, ↓reduceIte, Nat.reduceEqDiff, Nat.reduceAdd, Int.reduceEq, Int.reduceLT, Int.reduceLE, Int.reduceNeg, Int.reduceAdd, Int.reduceSub, Int.reduceMul, Int.reduceToNat, Nat.reduceMul, Nat.reduceSub, Nat.reduceLT, Nat.reduceLeDiff, ir9, out_sh hc]
  exact hK _ rfl

theorem new10 (hc : c.shared = true) (hl : ws.length ≤ 1000) (hK : ∀ h' c', c'.shared = true → h' = h.new (.cells [.vec (Ws ws) c', I 0]) → K (.ret (.ptr h.next 0)) h') : R 10 [.vec (Ws ws) c] h K := by
  refine run10 (Nat.le_of_ble_eq_true rfl) ?_
  by_cases h0 : ws = []
  · subst h0
    simp -dsimp -implicitDefEqProofs only [↓STP, STQ, ne_eq, implies_true, forall_const, if_false, if_true, reduceCtorEq, ↓reduceIte, Nat.reduceEqDiff, Nat.reduceAdd, Int.reduceEq, Int.reduceLT, Int.reduceLE, Int.reduceNeg, Int.reduceAdd, Int.reduceSub, Int.reduceMul, Int.reduceToNat, Nat.reduceMul, Nat.reduceSub, Nat.reduceLT, Nat.reduceLeDiff, ir10, out_sh hc]
    rw [Ws_nil, ← Ws_nil, app_ws_none (c := .full) (c2 := c) (a := []) (by simp)]
    simp -dsimp -implicitDefEqProofs only [↓STP, STQ, ne_eq, implies_true, forall_const, if_false, if_true, reduceCtorEq, ↓reduceIte, Nat.reduceEqDiff, Nat.reduceAdd, Int.reduceEq, Int.reduceLT, Int.reduceLE, Int.reduceNeg, Int.reduceAdd, Int.reduceSub, Int.reduceMul, Int.reduceToNat, Nat.reduceMul, Nat.reduceSub, Nat.reduceLT, Nat.reduceLeDiff]
    exact hK _ .full rfl rfl
  · simp -dsimp -implicitDefEqProofs only [↓STP, STQ, ne_eq, implies_true, forall_const, if_false, if_true, reduceCtorEq, ↓reduceIte, Nat.reduceEqDiff, Nat.reduceAdd, Int.reduceEq, Int.reduceLT, Int.reduceLE, Int.reduceNeg, Int.reduceAdd, Int.reduceSub, Int.reduceMul, Int.reduceToNat, Nat.reduceMul, Nat.reduceSub, Nat.reduceLT, Nat.reduceLeDiff, ir10, out_sh hc]
    rw [← Ws_nil, app_ws_full h0 (by simp; omega)]
    simp -dsimp -implicitDefEqProofs only [↓STP, STQ, ne_eq, implies_true, forall_const, if_false, if_true, reduceCtorEq, ↓reduceIte, Nat.reduceEqDiff, Nat.reduceAdd, Int.reduceEq, Int.reduceLT, Int.reduceLE, Int.reduceNeg, Int.reduceAdd, Int.reduceSub, Int.reduceMul, Int.reduceToNat, Nat.reduceMul, Nat.reduceSub, Nat.reduceLT, Nat.reduceLeDiff]
    exact hK _ .any rfl rfl

theorem remaining14 (hg : TapeAt h id ws p) (hp : p ≤ ws.length) (hl : ws.length ≤ 1000) (hK : K (.ret (I ((ws.length : Int) - p))) h) : R 14 [.ptr id 0] h K := by
  obtain ⟨c, hc, hg⟩ := hg
  refine run14 (Nat.le_of_ble_eq_true rfl) ?_
  simp -dsimp -implicitDefEqProofs only [↓STP, STQ, ne_eq, implies_true, forall_const, if_false, if_true, reduceCtorEq, ↓reduceIte, Nat.reduceEqDiff, Nat.reduceAdd, Int.reduceEq, Int.reduceLT, Int.reduceLE, Int.reduceNeg, Int.reduceAdd, Int.reduceSub, Int.reduceMul, Int.reduceToNat, Nat.reduceMul, Nat.reduceSub, Nat.reduceLT, Nat.reduceLeDiff, ir14, hg, Ws_length, wrap_i64 (n := (ws.length : Int) - p) (by omega) (by omega)]
  exact hK

theorem remaining15 (hg : TapeAt h id ws p) (hp : p ≤ ws.length) (hl : ws.length ≤ 1000) (hK : K (.ret (I ((ws.length : Int) - p))) h) : R 15 [.ptr id 0] h K := by
  obtain ⟨c, hc, hg⟩ := hg
  refine run15 (Nat.le_of_ble_eq_true rfl) ?_
  simp -dsimp -implicitDefEqProofs only [↓STP, STQ, ne_eq, implies_true, forall_const, if_false, if_true, reduceCtorEq, ↓reduceIte, Nat.reduceEqDiff, Nat.reduceAdd, Int.reduceEq, Int.reduceLT, Int.reduceLE, Int.reduceNeg, Int.reduceAdd, Int.reduceSub, Int.reduceMul, Int.reduceToNat, Nat.reduceMul, Nat.reduceSub, Nat.reduceLT, Nat.reduceLeDiff, ir15, hg, Ws_length, wrap_i64 (n := (ws.length : Int) - p) (by omega) (by omega)]
  exact hK

theorem consumed16 (hg : TapeAt h id ws p) (hK : K (.ret (I p)) h) : R 16 [.ptr id 0] h K := by
  obtain ⟨c, hc, hg⟩ := hg
  refine run16 (Nat.le_of_ble_eq_true rfl) ?_
  simp -dsimp -implicitDefEqProofs only [↓STP, STQ, ne_eq, implies_true, forall_const, if_false, if_true, reduceCtorEq, ↓reduceIte, Nat.reduceEqDiff, Nat.reduceAdd, Int.reduceEq, Int.reduceLT, Int.reduceLE, Int.reduceNeg, Int.reduceAdd, Int.reduceSub, Int.reduceMul, Int.reduceToNat, Nat.reduceMul, Nat.reduceSub, Nat.reduceLT, Nat.reduceLeDiff, ir16, hg]
  exact hK

theorem consumed17 (hg : TapeAt h id ws p) (hK : K (.ret (I p)) h) : R 17 [.ptr id 0] h K := by
  obtain ⟨c, hc, hg⟩ := hg
  refine run17 (Nat.le_of_ble_eq_true rfl) ?_
  simp -dsimp -implicitDefEqProofs only [↓STP, STQ, ne_eq, implies_true, forall_const, if_false, if_true, reduceCtorEq, ↓reduceIte, Nat.reduceEqDiff, Nat.reduceAdd, Int.reduceEq, Int.reduceLT, Int.reduceLE, Int.reduceNeg, Int.reduceAdd, Int.reduceSub, Int.reduceMul, Int.reduceToNat, Nat.reduceMul, Nat.reduceSub, Nat.reduceLT, Nat.reduceLeDiff, ir17, hg]
  exact hK

theorem take11_bad (hg : TapeAt h id ws p) (hp : p ≤ ws.length) (hl : ws.length ≤ 1000) (hn : n < 0 ∨ (ws.length : Int) - p < n) (hK : K (.ret (.tuple [.vec [] .full, I 10])) h) : R 11 [.ptr id 0, I n] h K := by
  refine run11 (Nat.le_of_ble_eq_true rfl) ?_
  by_cases h1 : n < 0
  · simp -dsimp -implicitDefEqProofs only [↓STP, STQ, ne_eq, implies_true, forall_const, if_false, if_true, reduceCtorEq, ↓reduceIte, Nat.reduceEqDiff, Nat.reduceAdd, Int.reduceEq, Int.reduceLT, Int.reduceLE, Int.reduceNeg, Int.reduceAdd, Int.reduceSub, Int.reduceMul, Int.reduceToNat, Nat.reduceMul, Nat.reduceSub, Nat.reduceLT, Nat.reduceLeDiff, ir11, h1]
    exact hK
  · simp -dsimp -implicitDefEqProofs only [↓STP, STQ, ne_eq, implies_true, forall_const, if_false, if_true, reduceCtorEq, ↓reduceIte, Nat.reduceEqDiff, Nat.reduceAdd, Int.reduceEq, Int.reduceLT, Int.reduceLE, Int.reduceNeg, Int.reduceAdd, Int.reduceSub, Int.reduceMul, Int.reduceToNat, Nat.reduceMul, Nat.reduceSub, Nat.reduceLT, Nat.reduceLeDiff, ir11, h1]
    refine remaining14 hg hp hl ?_
    simp -dsimp -implicitDefEqProofs only [↓STP, STQ, ne_eq, implies_true, forall_const, if_false, if_true, reduceCtorEq, ↓reduceIte, Nat.reduceEqDiff, Nat.reduceAdd, Int.reduceEq, Int.reduceLT, Int.reduceLE, Int.reduceNeg, Int.reduceAdd, Int.reduceSub, Int.reduceMul, Int.reduceToNat, Nat.reduceMul, Nat.reduceSub, Nat.reduceLT, Nat.reduceLeDiff, h1, gt_iff_lt, show (ws.length : Int) - p < n from hn.resolve_left h1]
    exact hK

theorem take11_ok {k : Nat} (hg : TapeAt h id ws p) (hk : p + k ≤ ws.length) (hl : ws.length ≤ 1000) (hK : ∀ h', TapeAt h' id ws (p + k) → (∀ id', id' ≠ id → h'.objs id' = h.objs id') → h'.next = h.next → K (.ret (.tuple [.vec (Ws ((ws.drop p).take k)) .full, I 0])) h') : R 11 [.ptr id 0, I k] h K := by
  have hg0 := hg
  obtain ⟨c, hc, hg⟩ := hg
  refine run11 (Nat.le_of_ble_eq_true rfl) ?_
  have h1 : ¬ (k : Int) < 0 := by omega
  have h2 : ¬ (ws.length : Int) - p < k := by omega
  have hw : IntKind.i64.wrap ((p : Int) + k) = ((p + k : Nat) : Int) := by rw [wrap_i64] <;> omega
  simp -dsimp -implicitDefEqProofs only [↓STP, STQ, ne_eq, implies_true, forall_const, if_false, if_true, reduceCtorEq, ↓reduceIte, Nat.reduceEqDiff, Nat.reduceAdd, Int.reduceEq, Int.reduceLT, Int.reduceLE, Int.reduceNeg, Int.reduceAdd, Int.reduceSub, Int.reduceMul, Int.reduceToNat, Nat.reduceMul, Nat.reduceSub, Nat.reduceLT, Nat.reduceLeDiff, ir11, h1]
  refine remaining14 hg0 (by omega) hl ?_
  have h3 : (0 : Int) ≤ ((p + k : Nat) : Int) ∧ ((p + k : Nat) : Int) ≤ (ws.length : Int) := by omega
  have h4 : (0 : Int) ≤ ((p + k : Nat) : Int) ∧ ((p + k : Nat) : Int) ≤ ((p + k : Nat) : Int) := by omega
  have h5 : (0 : Int) ≤ (p : Int) ∧ (p : Int) ≤ ((p + k : Nat) : Int) := by omega
  have hsl : p = 0 ∨ ∀ e ∈ Ws ws, e.cells.length = 1 := .inr Ws_cells
  simp -dsimp -implicitDefEqProofs only [↓STP, STQ, ne_eq, implies_true, forall_const, if_false, if_true, reduceCtorEq, ↓reduceIte, Nat.reduceEqDiff, Nat.reduceAdd, Int.reduceEq, Int.reduceLT, Int.reduceLE, Int.reduceNeg, Int.reduceAdd, Int.reduceSub, Int.reduceMul, Int.reduceToNat, Nat.reduceMul, Nat.reduceSub, Nat.reduceLT, Nat.reduceLeDiff, gt_iff_lt, h1, h2, hg, hw, storeV, get_set, slcV, bound, Ws_length, Option.isSome_some, h3, h4, h5, Int.toNat_natCast, hsl, Ws_take, Ws_drop, List.append_nil, List.append_eq, List.cons_append, List.nil_append]
  rw [List.drop_take, Nat.add_sub_cancel_left]
  refine hK _ ⟨c, hc, ?_⟩ (fun id' hne => ?_) rfl
  · rw [get_set]
  · simp [H.set, upd, hne]

def InvSame (a b : List Nat) (c1 c2 : Cap) (h : H) (k : Nat) (st : S) : Prop :=
  ∃ i : Nat, k = a.length - i ∧ i ≤ a.length ∧ a.take i = b.take i ∧ st = ⟨upd (upd (upd ρ0 0 (.vec (Ws a) c1)) 1 (.vec (Ws b) c2)) 5 (I i), m0, 0, [], h⟩

theorem same13 {a b : List Nat} {c1 c2 : Cap} (h1 : c1.shared = true) (h2 : c2.shared = true) (hl : a.length ≤ 1000) (hK : ∀ r, r = decide (a = b) → K (.ret (.bool r)) h) : R 13 [.vec (Ws a) c1, .vec (Ws b) c2] h K := by
  refine run13 (Nat.le_of_ble_eq_true rfl) ?_
  by_cases hlen : (a.length : Int) = b.length
  · simp -dsimp -implicitDefEqProofs only [↓STP, STQ, ne_eq, implies_true, forall_const, if_false, if_true, reduceCtorEq, ↓reduceIte, Nat.reduceEqDiff, Nat.reduceAdd, Int.reduceEq, Int.reduceLT, Int.reduceLE, Int.reduceNeg, Int.reduceAdd, Int.reduceSub, Int.reduceMul, Int.reduceToNat, Nat.reduceMul, Nat.reduceSub, Nat.reduceLT, Nat.reduceLeDiff, ir13, Ws_length, hlen]
    have hlen' : a.length = b.length := by omega
    refine codeT_loop (InvSame a b c1 c2 h) (i := a.length) ⟨0, by omega, by omega, by simp, by simp -dsimp -implicitDefEqProofs only [↓STP, STQ, ne_eq, implies_true, forall_const, if_false, if_true, reduceCtorEq, ↓reduceIte, Nat.reduceEqDiff, Nat.reduceAdd, Int.reduceEq, Int.reduceLT, Int.reduceLE, Int.reduceNeg, Int.reduceAdd, Int.reduceSub, Int.reduceMul, Int.reduceToNat, Nat.reduceMul, Nat.reduceSub, Nat.reduceLT, Nat.reduceLeDiff, h1, h2] <;> rfl⟩ ?_ mono
    rintro k st ⟨i, rfl, hi, htk, rfl⟩
    by_cases hlt : i < a.length
    · have hx : (Ws a)[i]? = some (W a[i]) := by rw [Ws_get, List.getElem?_eq_getElem hlt]; rfl
      have hy : (Ws b)[i]? = some (W (b[i]'(by omega))) := by rw [Ws_get, List.getElem?_eq_getElem (by omega)]; rfl
      by_cases he : (a[i] : Int) = b[i]'(by omega)
      · simp -dsimp -implicitDefEqProofs only [↓STP, STQ, ne_eq, implies_true, forall_const, if_false, if_true, reduceCtorEq, ↓reduceIte, Nat.reduceEqDiff, Nat.reduceAdd, Int.reduceEq, Int.reduceLT, Int.reduceLE, Int.reduceNeg, Int.reduceAdd, Int.reduceSub, Int.reduceMul, Int.reduceToNat, Nat.reduceMul, Nat.reduceSub, Nat.reduceLT, Nat.reduceLeDiff, Ws_length, Int.ofNat_lt, hlt, idxSV, Int.natCast_nonneg, Int.toNat_natCast, hx, hy, he, h1, h2]
        refine ⟨_, ?_, i + 1, rfl, by omega, ?_, ?_⟩
        · omega
        · rw [List.take_add_one, List.take_add_one, htk, List.getElem?_eq_getElem hlt, List.getElem?_eq_getElem (by omega)]
          have : a[i] = b[i]'(by omega) := by omega
          rw [this]
        · rw [wrap_i64 (by omega) (by omega)]; rfl
      · simp -dsimp -implicitDefEqProofs only [↓STP, STQ, ne_eq, implies_true, forall_const, if_false, if_true, reduceCtorEq, ↓reduceIte, Nat.reduceEqDiff, Nat.reduceAdd, Int.reduceEq, Int.reduceLT, Int.reduceLE, Int.reduceNeg, Int.reduceAdd, Int.reduceSub, Int.reduceMul, Int.reduceToNat, Nat.reduceMul, Nat.reduceSub, Nat.reduceLT, Nat.reduceLeDiff, Ws_length, Int.ofNat_lt, hlt, idxSV, Int.natCast_nonneg, Int.toNat_natCast, hx, hy, he]
        have : a ≠ b := fun h => he (by subst h; rfl)
        exact hK _ (by simp [this])
    · simp -dsimp -implicitDefEqProofs only [↓STP, STQ, ne_eq, implies_true, forall_const, if_false, if_true, reduceCtorEq, ↓reduceIte, Nat.reduceEqDiff, Nat.reduceAdd, Int.reduceEq, Int.reduceLT, Int.reduceLE, Int.reduceNeg, Int.reduceAdd, Int.reduceSub, Int.reduceMul, Int.reduceToNat, Nat.reduceMul, Nat.reduceSub, Nat.reduceLT, Nat.reduceLeDiff, Ws_length, Int.ofNat_lt, hlt]
      have : a = b := by
        have e1 : a.take i = a := List.take_of_length_le (by omega)
        have e2 : b.take i = b := List.take_of_length_le (by omega)
        rw [← e1, ← e2, htk]
      exact hK _ (by simp [this])
  · simp -dsimp -implicitDefEqProofs only [↓STP, STQ, ne_eq, implies_true, forall_const, if_false, if_true, reduceCtorEq, ↓reduceIte, Nat.reduceEqDiff, Nat.reduceAdd, Int.reduceEq, Int.reduceLT, Int.reduceLE, Int.reduceNeg, Int.reduceAdd, Int.reduceSub, Int.reduceMul, Int.reduceToNat, Nat.reduceMul, Nat.reduceSub, Nat.reduceLT, Nat.reduceLeDiff, ir13, Ws_length, hlen]
    have : a ≠ b := fun h => hlen (by rw [h])
    exact hK _ (by simp [this])

end
end Go.Ab.Ytgnpliafpklfcaa
