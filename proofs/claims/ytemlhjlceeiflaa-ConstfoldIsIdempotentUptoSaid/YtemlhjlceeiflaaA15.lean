/- Folding, as the given program does it: statements. -/
import Derived.Test.YtemlhjlceeiflaaA14
set_option linter.unusedVariables false
set_option linter.unusedSimpArgs false
namespace Go.Ab
theorem mapS_cells {l : List Stm} : ∀ e ∈ l.map Stm.v, e.cells.length = 5 := by
  intro e he
  obtain ⟨x, _, rfl⟩ := List.mem_map.1 he
  exact Stm.v_clen
theorem mapS_elems {l : List Stm} : ∀ e ∈ l.map Stm.v, e.cells.length = 5 ∧ mkEl true e.cells = e := by
  intro e he
  obtain ⟨x, _, rfl⟩ := List.mem_map.1 he
  exact ⟨Stm.v_clen, Stm.v_ag⟩
theorem Stm.v_outs {e : Stm} : outs e.v.cells = some e.v.cells := by rw [Stm.v_eq]; rfl
theorem bulks_takeS {l : List Stm} {i : Nat} : V.bulks ((l.take i).map Stm.v) ≤ V.bulks (l.map Stm.v) := by
  have : V.bulks (l.map Stm.v) = V.bulks ((l.take i).map Stm.v) + V.bulks ((l.drop i).map Stm.v) := by rw [← bulks_append, ← List.map_append, List.take_append_drop]
  omega
theorem fold_len {l : List Stm} {i : Nat} (hi : i < l.length) (hb : V.bulks (l.map Stm.v) ≤ 20000000) : (foldSs (l.take i)).length + (foldS l[i]).length ≤ 20000000 := by
  have h1 : (foldSs (l.take (i + 1))).length = (foldSs (l.take i)).length + (foldS l[i]).length := by rw [foldSs_take hi, List.length_append]
  have h2 := stms_len (l := foldSs (l.take (i + 1)))
  have h3 := bulk_foldSs (l := l.take (i + 1))
  have h4 := bulks_takeS (l := l) (i := i + 1)
  omega
theorem foldStm_mk {k : Int} {s : ByteArray} {e : List Exp} {a b : List Stm} {lv : Nat} (hv : VS (.mk k s e a b) lv) : k = 1 ∨ k = 2 ∨ k = 3 ∨ k = 4 ∨ k = 5 := by
  obtain ⟨v1, v2, v3, v4, v5, v6, v7, v8, v9, v10, v11⟩ := VS_mk.1 hv
  omega
end Go.Ab
namespace Go.Ab.Ytemlhjlceeiflaa
section
variable {h : H} {K : Out → H → Prop}

theorem neverG {a b : Exp} {s : ByteArray} {t f : List Stm} {lv : Nat} (va : VE a lv) (vb : VE b lv) (oka : EOk a) (okb : EOk b) (hK : K (.ret (.bool (decide ((constE a).2 = 1 ∧ (constE b).2 = 1 ∧ (constE b).1 < (constE a).1)))) h) :
    R 57 [(Stm.mk 4 s [a, b] t f).v] h K := by
  refine run57 (Nat.le_of_ble_eq_true rfl) ?_
  simp -dsimp -implicitDefEqProofs only [↓STP, STQ, ne_eq, implies_true, forall_const, if_false, if_true, reduceCtorEq, ↓reduceIte, Nat.reduceEqDiff, Nat.reduceAdd, Int.reduceEq, Int.reduceLT, Int.reduceLE, Int.reduceNeg, Int.reduceAdd, Int.reduceSub, Int.reduceMul, Int.reduceToNat, Nat.reduceMul, Nat.reduceSub, Nat.reduceLT, Nat.reduceLeDiff, Stm.v_mk, ir57, Exp.v_outs, Exp.v_clen, Exp.v_tk, Exp.v_ag, Exp.v_out]
  refine of31 _ lv _ _ va oka ?_
  simp -dsimp -implicitDefEqProofs only [↓STP, STQ, ne_eq, implies_true, forall_const, if_false, if_true, reduceCtorEq, ↓reduceIte, Nat.reduceEqDiff, Nat.reduceAdd, Int.reduceEq, Int.reduceLT, Int.reduceLE, Int.reduceNeg, Int.reduceAdd, Int.reduceSub, Int.reduceMul, Int.reduceToNat, Nat.reduceMul, Nat.reduceSub, Nat.reduceLT, Nat.reduceLeDiff, KV_eq, store2, Exp.v_outs, Exp.v_clen, Exp.v_tk, Exp.v_ag, Exp.v_out]
  refine of31 _ lv _ _ vb okb ?_
  by_cases c1 : (constE a).2 = 1
  rotate_left
  · simp -dsimp -implicitDefEqProofs only [↓STP, STQ, ne_eq, implies_true, forall_const, if_false, if_true, reduceCtorEq, ↓reduceIte, Nat.reduceEqDiff, Nat.reduceAdd, Int.reduceEq, Int.reduceLT, Int.reduceLE, Int.reduceNeg, Int.reduceAdd, Int.reduceSub, Int.reduceMul, Int.reduceToNat, Nat.reduceMul, Nat.reduceSub, Nat.reduceLT, Nat.reduceLeDiff, KV_eq, store2, eq_false c1, eq_self]
    rw [decide_eq_false fun h => c1 h.1] at hK
    exact hK
  by_cases c2 : (constE b).2 = 1
  rotate_left
  · simp -dsimp -implicitDefEqProofs only [↓STP, STQ, ne_eq, implies_true, forall_const, if_false, if_true, reduceCtorEq, ↓reduceIte, Nat.reduceEqDiff, Nat.reduceAdd, Int.reduceEq, Int.reduceLT, Int.reduceLE, Int.reduceNeg, Int.reduceAdd, Int.reduceSub, Int.reduceMul, Int.reduceToNat, Nat.reduceMul, Nat.reduceSub, Nat.reduceLT, Nat.reduceLeDiff, KV_eq, store2, eq_true c1, eq_false c2, eq_self]
    rw [decide_eq_false fun h => c2 h.2.1] at hK
    exact hK
  simp -dsimp -implicitDefEqProofs only [↓STP, STQ, ne_eq, implies_true, forall_const, if_false, if_true, reduceCtorEq, ↓reduceIte, Nat.reduceEqDiff, Nat.reduceAdd, Int.reduceEq, Int.reduceLT, Int.reduceLE, Int.reduceNeg, Int.reduceAdd, Int.reduceSub, Int.reduceMul, Int.reduceToNat, Nat.reduceMul, Nat.reduceSub, Nat.reduceLT, Nat.reduceLeDiff, KV_eq, store2, eq_true c1, eq_true c2, Int.ofNat_lt, eq_self]
  have e : decide ((constE a).2 = 1 ∧ (constE b).2 = 1 ∧ (constE b).1 < (constE a).1) = decide ((constE b).1 < (constE a).1) := decide_eq_decide.2 ⟨fun h => h.2.2, fun h => ⟨c1, c2, h⟩⟩
  rw [e] at hK
  exact hK

def FS (f : FuncId) (x : Stm) : Prop := ∀ (lv : Nat) (h : H) (K : Out → H → Prop), VS x lv → SOk x → x.v.bulk ≤ 20000000 → K (.ret (.vec ((foldS x).map Stm.v) .any)) h → R f [x.v] h K

theorem stmtsG_of {l : List Stm} {lv : Nat} (hb : V.bulks (l.map Stm.v) ≤ 20000000) (ih : ∀ x ∈ l, FS 37 x) (hv : VSs l lv) (ok : ∀ x ∈ l, SOk x) (hK : K (.ret (.vec ((foldSs l).map Stm.v) .any)) h) : R 22 [.vec (l.map Stm.v) .any] h K := by
  have hlen := stms_len (l := l)
  refine run22 (Nat.le_of_ble_eq_true rfl) ?_
  simp -dsimp -implicitDefEqProofs only [↓STP, STQ, ne_eq, implies_true, forall_const, if_false, if_true, reduceCtorEq, ↓reduceIte, Nat.reduceEqDiff, Nat.reduceAdd, Int.reduceEq, Int.reduceLT, Int.reduceLE, Int.reduceNeg, Int.reduceAdd, Int.reduceSub, Int.reduceMul, Int.reduceToNat, Nat.reduceMul, Nat.reduceSub, Nat.reduceLT, Nat.reduceLeDiff, ir22, List.length_map]
  refine codeT_for (N := l.length) (fun i => ⟨upd (upd (upd (upd ρ0 3 (.vec ((foldSs (l.take i)).map Stm.v) (.own 0))) 6 (.vec (l.map Stm.v) .any)) 7 (I l.length)) 8 (I i), m0, 1, [], h⟩) (fun _ => True) (by simp -dsimp -implicitDefEqProofs only [↓STP, STQ, ne_eq, implies_true, forall_const, if_false, if_true, reduceCtorEq, ↓reduceIte, Nat.reduceEqDiff, Nat.reduceAdd, Int.reduceEq, Int.reduceLT, Int.reduceLE, Int.reduceNeg, Int.reduceAdd, Int.reduceSub, Int.reduceMul, Int.reduceToNat, Nat.reduceMul, Nat.reduceSub, Nat.reduceLT, Nat.reduceLeDiff] <;> rfl) trivial (fun i hi _ => ?_) (fun _ => ?_) mono
  · have hget := get_map (f := Stm.v) hi
    have hx := ih _ (List.getElem_mem hi)
    have hvx := VSs_all.1 hv _ (List.getElem_mem hi)
    have okx := ok _ (List.getElem_mem hi)
    have hbx := bulks_memS (List.getElem_mem hi)
    have w1 := wiM (show i < 9223372036854775807 by omega)
    have hsum := fold_len hi hb
    rw [foldSs_take hi]
    generalize l[i] = x at *
    simp -dsimp -implicitDefEqProofs only [↓STP, STQ, ne_eq, implies_true, forall_const, if_false, if_true, reduceCtorEq, ↓reduceIte, Nat.reduceEqDiff, Nat.reduceAdd, Int.reduceEq, Int.reduceLT, Int.reduceLE, Int.reduceNeg, Int.reduceAdd, Int.reduceSub, Int.reduceMul, Int.reduceToNat, Nat.reduceMul, Nat.reduceSub, Nat.reduceLT, Nat.reduceLeDiff, Int.ofNat_lt, hi, hget, storeSt, Stm.v_outs, Stm.v_clen, Stm.v_tk, Stm.v_ag, Stm.v_out, eq_self]
    refine hx _ _ _ hvx okx (by omega) ?_
    simp -dsimp -implicitDefEqProofs only [↓STP, STQ, ne_eq, implies_true, forall_const, if_false, if_true, reduceCtorEq, ↓reduceIte, Nat.reduceEqDiff, Nat.reduceAdd, Int.reduceEq, Int.reduceLT, Int.reduceLE, Int.reduceNeg, Int.reduceAdd, Int.reduceSub, Int.reduceMul, Int.reduceToNat, Nat.reduceMul, Nat.reduceSub, Nat.reduceLT, Nat.reduceLeDiff]
    rw [app_own (sz := 5) (by simp) mapS_cells mapS_elems (by decide) (by decide) (by rw [List.length_map, List.length_map]; omega)]
    by_cases c : ((foldS x).map Stm.v).length = 0
    · rw [if_pos c]
      have hnil : foldS x = [] := by simpa using c
      simp -dsimp -implicitDefEqProofs only [↓STP, STQ, ne_eq, implies_true, forall_const, if_false, if_true, reduceCtorEq, ↓reduceIte, Nat.reduceEqDiff, Nat.reduceAdd, Int.reduceEq, Int.reduceLT, Int.reduceLE, Int.reduceNeg, Int.reduceAdd, Int.reduceSub, Int.reduceMul, Int.reduceToNat, Nat.reduceMul, Nat.reduceSub, Nat.reduceLT, Nat.reduceLeDiff, w1, hnil, List.append_nil, eq_self]
    · rw [if_neg c]
      simp -dsimp -implicitDefEqProofs only [↓STP, STQ, ne_eq, implies_true, forall_const, if_false, if_true, reduceCtorEq, ↓reduceIte, Nat.reduceEqDiff, Nat.reduceAdd, Int.reduceEq, Int.reduceLT, Int.reduceLE, Int.reduceNeg, Int.reduceAdd, Int.reduceSub, Int.reduceMul, Int.reduceToNat, Nat.reduceMul, Nat.reduceSub, Nat.reduceLT, Nat.reduceLeDiff, w1, List.map_append, eq_self]
  · rw [List.take_length]
    simp -dsimp -implicitDefEqProofs only [↓STP, STQ, ne_eq, implies_true, forall_const, if_false, if_true, reduceCtorEq, ↓reduceIte, Nat.reduceEqDiff, Nat.reduceAdd, Int.reduceEq, Int.reduceLT, Int.reduceLE, Int.reduceNeg, Int.reduceAdd, Int.reduceSub, Int.reduceMul, Int.reduceToNat, Nat.reduceMul, Nat.reduceSub, Nat.reduceLT, Nat.reduceLeDiff, Int.lt_irrefl]
    exact hK

theorem stmtG (x : Stm) : FS 37 x := by
  induction x using Stm.ind with
  | h k s e a b iha ihb =>
    intro lv h K hv ok hb hK
    obtain ⟨v1, v2, v3, v4, v5, v6, v7, v8, v9, v10, v11⟩ := VS_mk.1 hv
    obtain ⟨hk, hs, hle, hla, hlb, oke, oka, okb⟩ := SOk_mk ok
    rw [stm_bulk] at hb
    have he : e.length ≤ 4 := by split at v4 <;> omega
    have A : ∀ {h : H} {K : Out → H → Prop}, K (.ret (.vec ((foldSs a).map Stm.v) .any)) h → R 22 [.vec (a.map Stm.v) .any] h K := fun hK => stmtsG_of (by omega) iha v10 oka hK
    have B : ∀ {h : H} {K : Out → H → Prop}, K (.ret (.vec ((foldSs b).map Stm.v) .any)) h → R 22 [.vec (b.map Stm.v) .any] h K := fun hK => stmtsG_of (by omega) ihb v11 okb hK
    have ve : ∀ x ∈ e.map foldE, VE x (lv + 1) := fun x hx => by
      obtain ⟨y, hy, rfl⟩ := List.mem_map.1 hx
      exact VE_fold y _ (v9 y hy)
    have oe : ∀ x ∈ e.map foldE, EOk x := fun x hx => by
      obtain ⟨y, hy, rfl⟩ := List.mem_map.1 hx
      exact EOk_fold y _ (v9 y hy) (oke y hy)
    rw [foldS_mk] at hK
    unfold foldStm at hK
    refine run37 (Nat.le_of_ble_eq_true rfl) ?_
    simp -dsimp -implicitDefEqProofs only [↓STP, STQ, ne_eq, implies_true, forall_const, if_false, if_true, reduceCtorEq, ↓reduceIte, Nat.reduceEqDiff, Nat.reduceAdd, Int.reduceEq, Int.reduceLT, Int.reduceLE, Int.reduceNeg, Int.reduceAdd, Int.reduceSub, Int.reduceMul, Int.reduceToNat, Nat.reduceMul, Nat.reduceSub, Nat.reduceLT, Nat.reduceLeDiff, Stm.v_mk, ir37]
    refine exprsG_of he (fun x _ => exprG x) v9 oke ?_
    by_cases c3 : k = 3
    · subst c3
      obtain ⟨x, rfl⟩ := len1 (show e.length = 1 by simpa using v4)
      have dx : foldE x ∈ [x].map foldE := by simp
      have hK : K (.ret (.vec ((if (3 : Int) = 3 ∧ (constE (foldE x)).2 = 2 then (if (constE (foldE x)).1 = 1 then foldSs a else foldSs b) else [.mk 3 s [foldE x] (foldSs a) (foldSs b)]).map Stm.v) .any)) h := by
        by_cases c : (constE (foldE x)).2 = 2
        · rw [if_pos ⟨rfl, c⟩]
          rw [if_pos ⟨rfl, c⟩] at hK
          exact hK
        · rw [if_neg fun h => c h.2]
          rw [if_neg (fun h => c h.2), if_neg (fun h => by have := h.1; omega)] at hK
          exact hK
      simp -dsimp -implicitDefEqProofs only [↓STP, STQ, ne_eq, implies_true, forall_const, if_false, if_true, reduceCtorEq, ↓reduceIte, Nat.reduceEqDiff, Nat.reduceAdd, Int.reduceEq, Int.reduceLT, Int.reduceLE, Int.reduceNeg, Int.reduceAdd, Int.reduceSub, Int.reduceMul, Int.reduceToNat, Nat.reduceMul, Nat.reduceSub, Nat.reduceLT, Nat.reduceLeDiff, storeV, Exp.v_outs, Exp.v_clen, Exp.v_tk, Exp.v_ag, Exp.v_out]
      refine of31 _ (lv + 1) _ _ (ve _ dx) (oe _ dx) ?_
      have cx := ck_const _ _ (ve _ dx)
      by_cases c2 : (constE (foldE x)).2 = 2
      · rw [if_pos ⟨rfl, c2⟩] at hK
        by_cases c1 : (constE (foldE x)).1 = 1
        · rw [if_pos c1] at hK
          simp -dsimp -implicitDefEqProofs only [↓STP, STQ, ne_eq, implies_true, forall_const, if_false, if_true, reduceCtorEq, ↓reduceIte, Nat.reduceEqDiff, Nat.reduceAdd, Int.reduceEq, Int.reduceLT, Int.reduceLE, Int.reduceNeg, Int.reduceAdd, Int.reduceSub, Int.reduceMul, Int.reduceToNat, Nat.reduceMul, Nat.reduceSub, Nat.reduceLT, Nat.reduceLeDiff, KV_eq, store2, eq_true c2, c1]
          refine A ?_
          simp -dsimp -implicitDefEqProofs only [↓STP, STQ, ne_eq, implies_true, forall_const, if_false, if_true, reduceCtorEq, ↓reduceIte, Nat.reduceEqDiff, Nat.reduceAdd, Int.reduceEq, Int.reduceLT, Int.reduceLE, Int.reduceNeg, Int.reduceAdd, Int.reduceSub, Int.reduceMul, Int.reduceToNat, Nat.reduceMul, Nat.reduceSub, Nat.reduceLT, Nat.reduceLeDiff]
          exact hK
        · rw [if_neg c1] at hK
          have c0 : (constE (foldE x)).1 = 0 := by rcases cx with c | c | c <;> omega
          simp -dsimp -implicitDefEqProofs only [↓STP, STQ, ne_eq, implies_true, forall_const, if_false, if_true, reduceCtorEq, ↓reduceIte, Nat.reduceEqDiff, Nat.reduceAdd, Int.reduceEq, Int.reduceLT, Int.reduceLE, Int.reduceNeg, Int.reduceAdd, Int.reduceSub, Int.reduceMul, Int.reduceToNat, Nat.reduceMul, Nat.reduceSub, Nat.reduceLT, Nat.reduceLeDiff, KV_eq, store2, eq_true c2, c0]
          refine B ?_
          simp -dsimp -implicitDefEqProofs only [↓STP, STQ, ne_eq, implies_true, forall_const, if_false, if_true, reduceCtorEq, ↓reduceIte, Nat.reduceEqDiff, Nat.reduceAdd, Int.reduceEq, Int.reduceLT, Int.reduceLE, Int.reduceNeg, Int.reduceAdd, Int.reduceSub, Int.reduceMul, Int.reduceToNat, Nat.reduceMul, Nat.reduceSub, Nat.reduceLT, Nat.reduceLeDiff]
          exact hK
      · rw [if_neg fun h => c2 h.2] at hK
        simp -dsimp -implicitDefEqProofs only [↓STP, STQ, ne_eq, implies_true, forall_const, if_false, if_true, reduceCtorEq, ↓reduceIte, Nat.reduceEqDiff, Nat.reduceAdd, Int.reduceEq, Int.reduceLT, Int.reduceLE, Int.reduceNeg, Int.reduceAdd, Int.reduceSub, Int.reduceMul, Int.reduceToNat, Nat.reduceMul, Nat.reduceSub, Nat.reduceLT, Nat.reduceLeDiff, KV_eq, store2, eq_false c2]
        refine A ?_
        simp -dsimp -implicitDefEqProofs only [↓STP, STQ, ne_eq, implies_true, forall_const, if_false, if_true, reduceCtorEq, ↓reduceIte, Nat.reduceEqDiff, Nat.reduceAdd, Int.reduceEq, Int.reduceLT, Int.reduceLE, Int.reduceNeg, Int.reduceAdd, Int.reduceSub, Int.reduceMul, Int.reduceToNat, Nat.reduceMul, Nat.reduceSub, Nat.reduceLT, Nat.reduceLeDiff]
        refine B ?_
        simp -dsimp -implicitDefEqProofs only [↓STP, STQ, ne_eq, implies_true, forall_const, if_false, if_true, reduceCtorEq, ↓reduceIte, Nat.reduceEqDiff, Nat.reduceAdd, Int.reduceEq, Int.reduceLT, Int.reduceLE, Int.reduceNeg, Int.reduceAdd, Int.reduceSub, Int.reduceMul, Int.reduceToNat, Nat.reduceMul, Nat.reduceSub, Nat.reduceLT, Nat.reduceLeDiff, storeV]
        rw [List.map_cons, List.map_nil, Stm.v_mk] at hK
        exact hK
    rw [if_neg fun h => c3 h.1] at hK
    by_cases c4 : k = 4
    · subst c4
      obtain ⟨x, y, rfl⟩ := len2 (show e.length = 2 by simpa using v4)
      have dx : foldE x ∈ [x, y].map foldE := by simp
      have dy : foldE y ∈ [x, y].map foldE := by simp
      simp -dsimp -implicitDefEqProofs only [↓STP, STQ, ne_eq, implies_true, forall_const, if_false, if_true, reduceCtorEq, ↓reduceIte, Nat.reduceEqDiff, Nat.reduceAdd, Int.reduceEq, Int.reduceLT, Int.reduceLE, Int.reduceNeg, Int.reduceAdd, Int.reduceSub, Int.reduceMul, Int.reduceToNat, Nat.reduceMul, Nat.reduceSub, Nat.reduceLT, Nat.reduceLeDiff, storeV, Exp.v_outs, Exp.v_clen, Exp.v_tk, Exp.v_ag, Exp.v_out]
      rw [show V.agg [V.int .i64 4, .str s, .vec [(foldE x).v, (foldE y).v] .any, .vec (a.map Stm.v) .any, .vec (b.map Stm.v) .any] = (Stm.mk 4 s [foldE x, foldE y] a b).v by rw [Stm.v_mk]; rfl]
      refine neverG (ve _ dx) (ve _ dy) (oe _ dx) (oe _ dy) ?_
      by_cases c : (constE (foldE x)).2 = 1 ∧ (constE (foldE y)).2 = 1 ∧ (constE (foldE y)).1 < (constE (foldE x)).1
      · rw [if_pos ⟨rfl, c⟩] at hK
        rw [decide_eq_true c]
        simp -dsimp -implicitDefEqProofs only [↓STP, STQ, ne_eq, implies_true, forall_const, if_false, if_true, reduceCtorEq, ↓reduceIte, Nat.reduceEqDiff, Nat.reduceAdd, Int.reduceEq, Int.reduceLT, Int.reduceLE, Int.reduceNeg, Int.reduceAdd, Int.reduceSub, Int.reduceMul, Int.reduceToNat, Nat.reduceMul, Nat.reduceSub, Nat.reduceLT, Nat.reduceLeDiff]
        exact hK
      · rw [if_neg (fun h => c h.2)] at hK
        rw [decide_eq_false c]
        simp -dsimp -implicitDefEqProofs only [↓STP, STQ, ne_eq, implies_true, forall_const, if_false, if_true, reduceCtorEq, ↓reduceIte, Nat.reduceEqDiff, Nat.reduceAdd, Int.reduceEq, Int.reduceLT, Int.reduceLE, Int.reduceNeg, Int.reduceAdd, Int.reduceSub, Int.reduceMul, Int.reduceToNat, Nat.reduceMul, Nat.reduceSub, Nat.reduceLT, Nat.reduceLeDiff]
        refine A ?_
        simp -dsimp -implicitDefEqProofs only [↓STP, STQ, ne_eq, implies_true, forall_const, if_false, if_true, reduceCtorEq, ↓reduceIte, Nat.reduceEqDiff, Nat.reduceAdd, Int.reduceEq, Int.reduceLT, Int.reduceLE, Int.reduceNeg, Int.reduceAdd, Int.reduceSub, Int.reduceMul, Int.reduceToNat, Nat.reduceMul, Nat.reduceSub, Nat.reduceLT, Nat.reduceLeDiff]
        refine B ?_
        simp -dsimp -implicitDefEqProofs only [↓STP, STQ, ne_eq, implies_true, forall_const, if_false, if_true, reduceCtorEq, ↓reduceIte, Nat.reduceEqDiff, Nat.reduceAdd, Int.reduceEq, Int.reduceLT, Int.reduceLE, Int.reduceNeg, Int.reduceAdd, Int.reduceSub, Int.reduceMul, Int.reduceToNat, Nat.reduceMul, Nat.reduceSub, Nat.reduceLT, Nat.reduceLeDiff, storeV]
        rw [List.map_cons, List.map_nil, Stm.v_mk] at hK
        exact hK
    rw [if_neg fun h => c4 h.1] at hK
    simp -dsimp -implicitDefEqProofs only [↓STP, STQ, ne_eq, implies_true, forall_const, if_false, if_true, reduceCtorEq, ↓reduceIte, Nat.reduceEqDiff, Nat.reduceAdd, Int.reduceEq, Int.reduceLT, Int.reduceLE, Int.reduceNeg, Int.reduceAdd, Int.reduceSub, Int.reduceMul, Int.reduceToNat, Nat.reduceMul, Nat.reduceSub, Nat.reduceLT, Nat.reduceLeDiff, storeV, eq_false c3, eq_false c4]
    refine A ?_
    simp -dsimp -implicitDefEqProofs only [↓STP, STQ, ne_eq, implies_true, forall_const, if_false, if_true, reduceCtorEq, ↓reduceIte, Nat.reduceEqDiff, Nat.reduceAdd, Int.reduceEq, Int.reduceLT, Int.reduceLE, Int.reduceNeg, Int.reduceAdd, Int.reduceSub, Int.reduceMul, Int.reduceToNat, Nat.reduceMul, Nat.reduceSub, Nat.reduceLT, Nat.reduceLeDiff]
    refine B ?_
    simp -dsimp -implicitDefEqProofs only [↓STP, STQ, ne_eq, implies_true, forall_const, if_false, if_true, reduceCtorEq, ↓reduceIte, Nat.reduceEqDiff, Nat.reduceAdd, Int.reduceEq, Int.reduceLT, Int.reduceLE, Int.reduceNeg, Int.reduceAdd, Int.reduceSub, Int.reduceMul, Int.reduceToNat, Nat.reduceMul, Nat.reduceSub, Nat.reduceLT, Nat.reduceLeDiff, storeV]
    rw [List.map_cons, List.map_nil, Stm.v_mk] at hK
    exact hK

theorem foldG {p : Prg} (ok : POk p) (hv : VSs p.body 1) (hb : p.v.bulk ≤ 20000000) (hK : K (.ret p.fold.v) h) : R 11 [p.v] h K := by
  rw [prg_bulk] at hb
  refine run11 (Nat.le_of_ble_eq_true rfl) ?_
  simp -dsimp -implicitDefEqProofs only [↓STP, STQ, ne_eq, implies_true, forall_const, if_false, if_true, reduceCtorEq, ↓reduceIte, Nat.reduceEqDiff, Nat.reduceAdd, Int.reduceEq, Int.reduceLT, Int.reduceLE, Int.reduceNeg, Int.reduceAdd, Int.reduceSub, Int.reduceMul, Int.reduceToNat, Nat.reduceMul, Nat.reduceSub, Nat.reduceLT, Nat.reduceLeDiff, Prg.v, Prg.cells, ir11]
  refine stmtsG_of (by omega) (fun x _ => stmtG x) hv ok.body ?_
  simp -dsimp -implicitDefEqProofs only [↓STP, STQ, ne_eq, implies_true, forall_const, if_false, if_true, reduceCtorEq, ↓reduceIte, Nat.reduceEqDiff, Nat.reduceAdd, Int.reduceEq, Int.reduceLT, Int.reduceLE, Int.reduceNeg, Int.reduceAdd, Int.reduceSub, Int.reduceMul, Int.reduceToNat, Nat.reduceMul, Nat.reduceSub, Nat.reduceLT, Nat.reduceLeDiff, storeV, eq_self]
  exact hK

end
end Go.Ab.Ytemlhjlceeiflaa
