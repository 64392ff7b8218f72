/- Chapter 11: the reference's tape, the example of the document. -/
import Derived.Test.YtgnpliafpklfcaaT11a
set_option linter.unusedVariables false
set_option linter.unusedSimpArgs false
namespace Go.Ab.Ytgnpliafpklfcaa

section
variable {h : H} {K : Out → H → Prop} {ws : List Nat} {c : Cap} {id p : Nat} {n : Int}

theorem take12_bad (hg : TapeAt h id ws p) (hp : p ≤ ws.length) (hl : ws.length ≤ 1000) (hn : n < 0 ∨ (ws.length : Int) - p < n) (hK : K (.ret (.tuple [.vec [] .full, I 10])) h) : R 12 [.ptr id 0, I n] h K := by
  refine run12 (Nat.le_of_ble_eq_true rfl) ?_
  by_cases h1 : n < 0
  · simp -dsimp -implicitDefEqProofs only [↓STP, STQ, ne_eq, implies_true, forall_const, if_false, if_true, reduceCtorEq, ↓reduceIte, Nat.reduceEqDiff, Nat.reduceAdd, Int.reduceEq, Int.reduceLT, Int.reduceLE, Int.reduceNeg, Int.reduceAdd, Int.reduceSub, Int.reduceMul, Int.reduceToNat, Nat.reduceMul, Nat.reduceSub, Nat.reduceLT, Nat.reduceLeDiff, ir12, h1]
    exact hK
  · simp -dsimp -implicitDefEqProofs only [↓STP, STQ, ne_eq, implies_true, forall_const, if_false, if_true, reduceCtorEq, ↓reduceIte, Nat.reduceEqDiff, Nat.reduceAdd, Int.reduceEq, Int.reduceLT, Int.reduceLE, Int.reduceNeg, Int.reduceAdd, Int.reduceSub, Int.reduceMul, Int.reduceToNat, Nat.reduceMul, Nat.reduceSub, Nat.reduceLT, Nat.reduceLeDiff, ir12, h1]
    refine remaining15 hg hp hl ?_
    simp -dsimp -implicitDefEqProofs only [↓STP, STQ, ne_eq, implies_true, forall_const, if_false, if_true, reduceCtorEq, ↓reduceIte, Nat.reduceEqDiff, Nat.reduceAdd, Int.reduceEq, Int.reduceLT, Int.reduceLE, Int.reduceNeg, Int.reduceAdd, Int.reduceSub, Int.reduceMul, Int.reduceToNat, Nat.reduceMul, Nat.reduceSub, Nat.reduceLT, Nat.reduceLeDiff, h1, gt_iff_lt, show (ws.length : Int) - p < n from hn.resolve_left h1]
    exact hK

theorem take12_ok {k : Nat} (hg : TapeAt h id ws p) (hk : p + k ≤ ws.length) (hl : ws.length ≤ 1000)
    (hK : ∀ h' c, (c = .full ∨ c = .own 0) → TapeAt h' id ws (p + k) → (∀ id', id' ≠ id → h'.objs id' = h.objs id') → h'.next = h.next → K (.ret (.tuple [.vec (Ws ((ws.drop p).take k)) c, I 0])) h') : R 12 [.ptr id 0, I k] h K := by
  have hg0 := hg
  obtain ⟨c, hc, hg⟩ := hg
  refine run12 (Nat.le_of_ble_eq_true rfl) ?_
  have h1 : ¬ (k : Int) < 0 := by omega
  have h2 : ¬ (ws.length : Int) - p < k := by omega
  have hw : IntKind.i64.wrap ((p : Int) + k) = ((p + k : Nat) : Int) := by rw [wrap_i64] <;> omega
  simp -dsimp -implicitDefEqProofs only [↓STP, STQ, ne_eq, implies_true, forall_const, if_false, if_true, reduceCtorEq, ↓reduceIte, Nat.reduceEqDiff, Nat.reduceAdd, Int.reduceEq, Int.reduceLT, Int.reduceLE, Int.reduceNeg, Int.reduceAdd, Int.reduceSub, Int.reduceMul, Int.reduceToNat, Nat.reduceMul, Nat.reduceSub, Nat.reduceLT, Nat.reduceLeDiff, ir12, h1]
  refine remaining15 hg0 (by omega) hl ?_
  have h3 : (0 : Int) ≤ ((p + k : Nat) : Int) ∧ ((p + k : Nat) : Int) ≤ (ws.length : Int) := by omega
  have h5 : (0 : Int) ≤ (p : Int) ∧ (p : Int) ≤ ((p + k : Nat) : Int) := by omega
  have hsl : p = 0 ∨ ∀ e ∈ Ws ws, e.cells.length = 1 := .inr Ws_cells
  simp -dsimp -implicitDefEqProofs only [↓STP, STQ, ne_eq, implies_true, forall_const, if_false, if_true, reduceCtorEq, ↓reduceIte, Nat.reduceEqDiff, Nat.reduceAdd, Int.reduceEq, Int.reduceLT, Int.reduceLE, Int.reduceNeg, Int.reduceAdd, Int.reduceSub, Int.reduceMul, Int.reduceToNat, Nat.reduceMul, Nat.reduceSub, Nat.reduceLT, Nat.reduceLeDiff, gt_iff_lt, h1, h2, hg, hw, slcV, bound, Ws_length, Option.map_none, h3, h5, Int.toNat_natCast, hsl, Ws_take, Ws_drop, List.drop_take, Nat.add_sub_cancel_left]
  by_cases hk0 : (ws.drop p).take k = []
  · rw [← Ws_nil, hk0, app_ws_none (by simp)]
    simp -dsimp -implicitDefEqProofs only [↓STP, STQ, ne_eq, implies_true, forall_const, if_false, if_true, reduceCtorEq, ↓reduceIte, Nat.reduceEqDiff, Nat.reduceAdd, Int.reduceEq, Int.reduceLT, Int.reduceLE, Int.reduceNeg, Int.reduceAdd, Int.reduceSub, Int.reduceMul, Int.reduceToNat, Nat.reduceMul, Nat.reduceSub, Nat.reduceLT, Nat.reduceLeDiff, hg, hw, storeV, get_set, Ws_nil]
    rw [hk0] at hK
    refine hK _ .full (.inl rfl) ⟨c, hc, ?_⟩ (fun id' hne => ?_) rfl
    · rw [get_set]
    · simp [H.set, upd, hne]
  · rw [← Ws_nil, app_ws_full hk0 (by simp; omega)]
    simp -dsimp -implicitDefEqProofs only [↓STP, STQ, ne_eq, implies_true, forall_const, if_false, if_true, reduceCtorEq, ↓reduceIte, Nat.reduceEqDiff, Nat.reduceAdd, Int.reduceEq, Int.reduceLT, Int.reduceLE, Int.reduceNeg, Int.reduceAdd, Int.reduceSub, Int.reduceMul, Int.reduceToNat, Nat.reduceMul, Nat.reduceSub, Nat.reduceLT, Nat.reduceLeDiff, hg, hw, storeV, get_set]
    refine hK _ (.own 0) (.inr rfl) ⟨c, hc, ?_⟩ (fun id' hne => ?_) rfl
    · rw [get_set]
    · simp [H.set, upd, hne]

/-- The store has only grown. -/
def Ext (h h' : H) : Prop := h.next ≤ h'.next ∧ ∀ id, id < h.next → h'.objs id = h.objs id

theorem Ext.tape {h h' : H} (e : Ext h h') (hi : id < h.next) (t : TapeAt h id ws p) : TapeAt h' id ws p := by
  obtain ⟨c, hc, t⟩ := t
  exact ⟨c, hc, by unfold H.get at t ⊢; rw [e.2 id hi]; exact t⟩

theorem awake8 (hK : ∀ h', Ext h h' → K (.ret (.bool true)) h') : R 8 [] h K := by
  refine run8 (Nat.le_of_ble_eq_true rfl) ?_
  simp -dsimp -implicitDefEqProofs only [↓STP, STQ, ne_eq, implies_true, forall_const, if_false, if_true, reduceCtorEq, ↓reduceIte, Nat.reduceEqDiff, Nat.reduceAdd, Int.reduceEq, Int.reduceLT, Int.reduceLE, Int.reduceNeg, Int.reduceAdd, Int.reduceSub, Int.reduceMul, Int.reduceToNat, Nat.reduceMul, Nat.reduceSub, Nat.reduceLT, Nat.reduceLeDiff, ir8]
  refine new9 (ws := [5, 6, 7]) (c := .full) rfl (fun h1 e1 => ?_)
  have t1 : TapeAt h1 h.next [5, 6, 7] 0 := ⟨.full, rfl, by rw [e1, get_new]; rfl⟩
  simp -dsimp -implicitDefEqProofs only [↓STP, STQ, ne_eq, implies_true, forall_const, if_false, if_true, reduceCtorEq, ↓reduceIte, Nat.reduceEqDiff, Nat.reduceAdd, Int.reduceEq, Int.reduceLT, Int.reduceLE, Int.reduceNeg, Int.reduceAdd, Int.reduceSub, Int.reduceMul, Int.reduceToNat, Nat.reduceMul, Nat.reduceSub, Nat.reduceLT, Nat.reduceLeDiff]
  refine take11_ok (k := 2) t1 (by decide) (by decide) (fun h2 t2 f2 n2 => ?_)
  simp -dsimp -implicitDefEqProofs only [↓STP, STQ, ne_eq, implies_true, forall_const, if_false, if_true, reduceCtorEq, ↓reduceIte, Nat.reduceEqDiff, Nat.reduceAdd, Int.reduceEq, Int.reduceLT, Int.reduceLE, Int.reduceNeg, Int.reduceAdd, Int.reduceSub, Int.reduceMul, Int.reduceToNat, Nat.reduceMul, Nat.reduceSub, Nat.reduceLT, Nat.reduceLeDiff]
  refine take11_bad t2 (by decide) (by decide) (.inr (by decide)) ?_
  simp -dsimp -implicitDefEqProofs only [↓STP, STQ, ne_eq, implies_true, forall_const, if_false, if_true, reduceCtorEq, ↓reduceIte, Nat.reduceEqDiff, Nat.reduceAdd, Int.reduceEq, Int.reduceLT, Int.reduceLE, Int.reduceNeg, Int.reduceAdd, Int.reduceSub, Int.reduceMul, Int.reduceToNat, Nat.reduceMul, Nat.reduceSub, Nat.reduceLT, Nat.reduceLeDiff]
  refine remaining14 t2 (by decide) (by decide) ?_
  simp -dsimp -implicitDefEqProofs only [↓STP, STQ, ne_eq, implies_true, forall_const, if_false, if_true, reduceCtorEq, ↓reduceIte, Nat.reduceEqDiff, Nat.reduceAdd, Int.reduceEq, Int.reduceLT, Int.reduceLE, Int.reduceNeg, Int.reduceAdd, Int.reduceSub, Int.reduceMul, Int.reduceToNat, Nat.reduceMul, Nat.reduceSub, Nat.reduceLT, Nat.reduceLeDiff]
  refine take11_ok (k := 1) t2 (by decide) (by decide) (fun h3 t3 f3 n3 => ?_)
  simp -dsimp -implicitDefEqProofs only [↓STP, STQ, ne_eq, implies_true, forall_const, if_false, if_true, reduceCtorEq, ↓reduceIte, Nat.reduceEqDiff, Nat.reduceAdd, Int.reduceEq, Int.reduceLT, Int.reduceLE, Int.reduceNeg, Int.reduceAdd, Int.reduceSub, Int.reduceMul, Int.reduceToNat, Nat.reduceMul, Nat.reduceSub, Nat.reduceLT, Nat.reduceLeDiff]
  refine same13 (a := (([5, 6, 7] : List Nat).drop 0).take 2) (b := [5, 6]) rfl rfl (by decide) (fun r hr => ?_)
  have hr' : r = true := by rw [hr]; decide
  subst hr'
  simp -dsimp -implicitDefEqProofs only [↓STP, STQ, ne_eq, implies_true, forall_const, if_false, if_true, reduceCtorEq, ↓reduceIte, Nat.reduceEqDiff, Nat.reduceAdd, Int.reduceEq, Int.reduceLT, Int.reduceLE, Int.reduceNeg, Int.reduceAdd, Int.reduceSub, Int.reduceMul, Int.reduceToNat, Nat.reduceMul, Nat.reduceSub, Nat.reduceLT, Nat.reduceLeDiff]
  refine same13 (a := (([5, 6, 7] : List Nat).drop 2).take 1) (b := [7]) rfl rfl (by decide) (fun r hr => ?_)
  have hr' : r = true := by rw [hr]; decide
  subst hr'
  simp -dsimp -implicitDefEqProofs only [↓STP, STQ, ne_eq, implies_true, forall_const, if_false, if_true, reduceCtorEq, ↓reduceIte, Nat.reduceEqDiff, Nat.reduceAdd, Int.reduceEq, Int.reduceLT, Int.reduceLE, Int.reduceNeg, Int.reduceAdd, Int.reduceSub, Int.reduceMul, Int.reduceToNat, Nat.reduceMul, Nat.reduceSub, Nat.reduceLT, Nat.reduceLeDiff]
  refine consumed16 t3 ?_
  simp -dsimp -implicitDefEqProofs only [↓STP, STQ, ne_eq, implies_true, forall_const, if_false, if_true, reduceCtorEq, ↓reduceIte, Nat.reduceEqDiff, Nat.reduceAdd, Int.reduceEq, Int.reduceLT, Int.reduceLE, Int.reduceNeg, Int.reduceAdd, Int.reduceSub, Int.reduceMul, Int.reduceToNat, Nat.reduceMul, Nat.reduceSub, Nat.reduceLT, Nat.reduceLeDiff]
  refine hK _ ⟨?_, fun id hid => ?_⟩
  · rw [n3, n2, e1]; exact Nat.le_succ _
  · have hne : id ≠ h.next := Nat.ne_of_lt hid
    rw [f3 id hne, f2 id hne, e1]
    simp [H.new, upd, hne]

end
end Go.Ab.Ytgnpliafpklfcaa
