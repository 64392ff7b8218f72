/- ConstfoldIsLocal, as a run of the layer Ab. -/
import Derived.Test.YtemlhjlceeiflaaA11
import Derived.Test.YtemlhjlceeiflaaA15
import Derived.Test.YtemlhjlceeiflaaA17
set_option linter.unusedVariables false
set_option linter.unusedSimpArgs false
namespace Go.Ab
def capA (ys : List V) (s : Nat) : Cap := if ys.length = 0 then .full else .own s
theorem app_fullA {st : S} {s sz bytes : Nat} {xs ys : List V} {ag : Bool} {c2 : Cap} (hx : ∀ e ∈ xs, e.cells.length = sz) (hy : ∀ e ∈ ys, e.cells.length = sz ∧ mkEl ag e.cells = e) (hz : 0 < sz) (hb : bytes ≤ 4096) (hl : xs.length + ys.length ≤ 4294967296) :
    appV st s (.vec xs .full) (.vec ys c2) sz bytes ag false = some (.vec (xs ++ ys) (capA ys s), st) := by
  rw [app_full hx hy hz hb hl]
  unfold capA
  by_cases c : ys.length = 0
  · have : ys = [] := List.length_eq_zero_iff.1 c
    subst this
    rw [List.append_nil]; rfl
  · rw [if_neg c, if_neg c]
def capB (zs ys : List V) (s0 s : Nat) : Cap := if ys.length = 0 then capA zs s0 else .own s
def useB (zs ys : List V) (s0 : Nat) (u : List Nat) : List Nat := if ys.length = 0 then u else if zs.length = 0 then u else s0 :: u
theorem app_capA {st : S} {s s0 sz bytes : Nat} {xs ys zs : List V} {ag : Bool} {c2 : Cap} (hs : s0 ∉ st.u) (hx : ∀ e ∈ xs, e.cells.length = sz) (hy : ∀ e ∈ ys, e.cells.length = sz ∧ mkEl ag e.cells = e) (hz : 0 < sz) (hb : bytes ≤ 4096) (hl : xs.length + ys.length ≤ 4294967296) :
    appV st s (.vec xs (capA zs s0)) (.vec ys c2) sz bytes ag false = some (.vec (xs ++ ys) (capB zs ys s0 s), { st with u := useB zs ys s0 st.u }) := by
  unfold capB useB capA
  by_cases d : zs.length = 0
  · rw [if_pos d, app_full hx hy hz hb hl]
    by_cases c : ys.length = 0
    · have : ys = [] := List.length_eq_zero_iff.1 c
      subst this
      rw [List.append_nil]; rfl
    · rw [if_neg c, if_neg c, if_neg c, if_pos d]
  · rw [if_neg d, app_own hs hx hy hz hb hl]
    by_cases c : ys.length = 0
    · have : ys = [] := List.length_eq_zero_iff.1 c
      subst this
      rw [List.append_nil]; rfl
    · rw [if_neg c, if_neg c, if_neg c, if_neg d]
end Go.Ab
namespace Go.Ab.Ytemlhjlceeiflaa
theorem law31_4 {p q : Prg} (okp : POk p) (okq : POk q) (hb : p.v.bulk + q.v.bulk ≤ 1048576) : R 6 [p.v, q.v] h0 (fun o _ => o = .ret (.bool true)) := by
  refine run6 (Nat.le_of_ble_eq_true rfl) ?_
  have hv0 : p.v = V.agg [.vec (p.ins.map InD.v) .any, .vec (p.arrays.map ArD.v) .any, .vec (p.body.map Stm.v) .any] := rfl
  have hq0 : q.v = V.agg [.vec (q.ins.map InD.v) .any, .vec (q.arrays.map ArD.v) .any, .vec (q.body.map Stm.v) .any] := rfl
  simp -dsimp -implicitDefEqProofs only [↓STP, STQ, ne_eq, implies_true, forall_const, if_false, if_true, reduceCtorEq, ↓reduceIte, Nat.reduceEqDiff, Nat.reduceAdd, Int.reduceEq, Int.reduceLT, Int.reduceLE, Int.reduceNeg, Int.reduceAdd, Int.reduceSub, Int.reduceMul, Int.reduceToNat, Nat.reduceMul, Nat.reduceSub, Nat.reduceLT, Nat.reduceLeDiff, ir6, hv0, hq0]
  refine awake31 fun h => ?_
  simp -dsimp -implicitDefEqProofs only [↓STP, STQ, ne_eq, implies_true, forall_const, if_false, if_true, reduceCtorEq, ↓reduceIte, Nat.reduceEqDiff, Nat.reduceAdd, Int.reduceEq, Int.reduceLT, Int.reduceLE, Int.reduceNeg, Int.reduceAdd, Int.reduceSub, Int.reduceMul, Int.reduceToNat, Nat.reduceMul, Nat.reduceSub, Nat.reduceLT, Nat.reduceLeDiff]
  rw [← hv0]
  refine few_spec okp (by omega) fun b hb2 => ?_
  cases b with
  | false => simp -dsimp -implicitDefEqProofs only [↓STP, STQ, ne_eq, implies_true, forall_const, if_false, if_true, reduceCtorEq, ↓reduceIte, Nat.reduceEqDiff, Nat.reduceAdd, Int.reduceEq, Int.reduceLT, Int.reduceLE, Int.reduceNeg, Int.reduceAdd, Int.reduceSub, Int.reduceMul, Int.reduceToNat, Nat.reduceMul, Nat.reduceSub, Nat.reduceLT, Nat.reduceLeDiff]
  | true =>
    have hv := (hb2 rfl).body
    simp -dsimp -implicitDefEqProofs only [↓STP, STQ, ne_eq, implies_true, forall_const, if_false, if_true, reduceCtorEq, ↓reduceIte, Nat.reduceEqDiff, Nat.reduceAdd, Int.reduceEq, Int.reduceLT, Int.reduceLE, Int.reduceNeg, Int.reduceAdd, Int.reduceSub, Int.reduceMul, Int.reduceToNat, Nat.reduceMul, Nat.reduceSub, Nat.reduceLT, Nat.reduceLeDiff, hv0, hq0, eq_self]
    rw [← hq0]
    refine few_spec okq (by omega) fun b hb3 => ?_
    cases b with
    | false => simp -dsimp -implicitDefEqProofs only [↓STP, STQ, ne_eq, implies_true, forall_const, if_false, if_true, reduceCtorEq, ↓reduceIte, Nat.reduceEqDiff, Nat.reduceAdd, Int.reduceEq, Int.reduceLT, Int.reduceLE, Int.reduceNeg, Int.reduceAdd, Int.reduceSub, Int.reduceMul, Int.reduceToNat, Nat.reduceMul, Nat.reduceSub, Nat.reduceLT, Nat.reduceLeDiff]
    | true =>
      have hvq := (hb3 rfl).body
      simp -dsimp -implicitDefEqProofs only [↓STP, STQ, ne_eq, implies_true, forall_const, if_false, if_true, reduceCtorEq, ↓reduceIte, Nat.reduceEqDiff, Nat.reduceAdd, Int.reduceEq, Int.reduceLT, Int.reduceLE, Int.reduceNeg, Int.reduceAdd, Int.reduceSub, Int.reduceMul, Int.reduceToNat, Nat.reduceMul, Nat.reduceSub, Nat.reduceLT, Nat.reduceLeDiff, hv0, hq0, eq_self]
      have lp := stms_len (l := p.body)
      have lq := stms_len (l := q.body)
      have bp : V.bulks (p.body.map Stm.v) + V.bulks (q.body.map Stm.v) + V.bulks (p.ins.map InD.v) + V.bulks (p.arrays.map ArD.v) ≤ 1048576 := by rw [prg_bulk, prg_bulk] at hb; omega
      have lens : (p.body.map Stm.v).length + (q.body.map Stm.v).length ≤ 4294967296 := by rw [List.length_map, List.length_map]; omega
      rw [app_fullA (sz := 5) (by simp) mapS_elems (by decide) (by decide) (by rw [List.length_nil]; omega)]
      simp -dsimp -implicitDefEqProofs only [↓STP, STQ, ne_eq, implies_true, forall_const, if_false, if_true, reduceCtorEq, ↓reduceIte, Nat.reduceEqDiff, Nat.reduceAdd, Int.reduceEq, Int.reduceLT, Int.reduceLE, Int.reduceNeg, Int.reduceAdd, Int.reduceSub, Int.reduceMul, Int.reduceToNat, Nat.reduceMul, Nat.reduceSub, Nat.reduceLT, Nat.reduceLeDiff, hv0, hq0, List.nil_append, eq_self]
      rw [app_capA (sz := 5) (by simp) mapS_cells mapS_elems (by decide) (by decide) lens]
      simp -dsimp -implicitDefEqProofs only [↓STP, STQ, ne_eq, implies_true, forall_const, if_false, if_true, reduceCtorEq, ↓reduceIte, Nat.reduceEqDiff, Nat.reduceAdd, Int.reduceEq, Int.reduceLT, Int.reduceLE, Int.reduceNeg, Int.reduceAdd, Int.reduceSub, Int.reduceMul, Int.reduceToNat, Nat.reduceMul, Nat.reduceSub, Nat.reduceLT, Nat.reduceLeDiff, hv0, hq0, storeV, eq_self]
      rw [← hv0]
      refine foldG okp hv (by omega) ?_
      have hv1 : p.fold.v = V.agg [.vec (p.ins.map InD.v) .any, .vec (p.arrays.map ArD.v) .any, .vec ((foldSs p.body).map Stm.v) .any] := rfl
      have hq1 : q.fold.v = V.agg [.vec (q.ins.map InD.v) .any, .vec (q.arrays.map ArD.v) .any, .vec ((foldSs q.body).map Stm.v) .any] := rfl
      have fp := stms_len (l := foldSs p.body)
      have fq := stms_len (l := foldSs q.body)
      have bfp := bulk_foldSs (l := p.body)
      have bfq := bulk_foldSs (l := q.body)
      have lensf : ((foldSs p.body).map Stm.v).length + ((foldSs q.body).map Stm.v).length ≤ 4294967296 := by rw [List.length_map, List.length_map]; omega
      simp -dsimp -implicitDefEqProofs only [↓STP, STQ, ne_eq, implies_true, forall_const, if_false, if_true, reduceCtorEq, ↓reduceIte, Nat.reduceEqDiff, Nat.reduceAdd, Int.reduceEq, Int.reduceLT, Int.reduceLE, Int.reduceNeg, Int.reduceAdd, Int.reduceSub, Int.reduceMul, Int.reduceToNat, Nat.reduceMul, Nat.reduceSub, Nat.reduceLT, Nat.reduceLeDiff, hv0, hq0, hv1, storeV, eq_self]
      rw [app_fullA (sz := 5) (by simp) mapS_elems (by decide) (by decide) (by rw [List.length_nil]; omega)]
      simp -dsimp -implicitDefEqProofs only [↓STP, STQ, ne_eq, implies_true, forall_const, if_false, if_true, reduceCtorEq, ↓reduceIte, Nat.reduceEqDiff, Nat.reduceAdd, Int.reduceEq, Int.reduceLT, Int.reduceLE, Int.reduceNeg, Int.reduceAdd, Int.reduceSub, Int.reduceMul, Int.reduceToNat, Nat.reduceMul, Nat.reduceSub, Nat.reduceLT, Nat.reduceLeDiff, hv0, hq0, hv1, List.nil_append, eq_self]
      rw [← hq0]
      refine foldG okq hvq (by omega) ?_
      simp -dsimp -implicitDefEqProofs only [↓STP, STQ, ne_eq, implies_true, forall_const, if_false, if_true, reduceCtorEq, ↓reduceIte, Nat.reduceEqDiff, Nat.reduceAdd, Int.reduceEq, Int.reduceLT, Int.reduceLE, Int.reduceNeg, Int.reduceAdd, Int.reduceSub, Int.reduceMul, Int.reduceToNat, Nat.reduceMul, Nat.reduceSub, Nat.reduceLT, Nat.reduceLeDiff, hv0, hq0, hv1, hq1, eq_self]
      rw [app_capA (sz := 5) (by unfold useB; split <;> (try split) <;> simp) mapS_cells mapS_elems (by decide) (by decide) lensf]
      simp -dsimp -implicitDefEqProofs only [↓STP, STQ, ne_eq, implies_true, forall_const, if_false, if_true, reduceCtorEq, ↓reduceIte, Nat.reduceEqDiff, Nat.reduceAdd, Int.reduceEq, Int.reduceLT, Int.reduceLE, Int.reduceNeg, Int.reduceAdd, Int.reduceSub, Int.reduceMul, Int.reduceToNat, Nat.reduceMul, Nat.reduceSub, Nat.reduceLT, Nat.reduceLeDiff, hv0, hq0, hv1, hq1, storeV, eq_self]
      have hm := maxLen_eq
      obtain ⟨w, hw⟩ : ∃ w : Prg, w = ⟨p.ins, p.arrays, p.body ++ q.body⟩ := ⟨_, rfl⟩
      have hw0 : w.v = V.agg [.vec (p.ins.map InD.v) .any, .vec (p.arrays.map ArD.v) .any, .vec (p.body.map Stm.v ++ q.body.map Stm.v) .any] := by subst hw; simp only [Prg.v, Prg.cells, List.map_append]
      have hw1 : w.fold.v = V.agg [.vec (p.ins.map InD.v) .any, .vec (p.arrays.map ArD.v) .any, .vec ((foldSs p.body).map Stm.v ++ (foldSs q.body).map Stm.v) .any] := by subst hw; simp only [Prg.v, Prg.cells, Prg.fold, foldSs_append, List.map_append]
      have okw : POk w := by
        subst hw
        refine ⟨okp.ins, okp.arrays, fun x hx => ?_, okp.li, okp.la, by rw [List.length_append]; omega⟩
        rcases List.mem_append.1 hx with hx | hx
        · exact okp.body x hx
        · exact okq.body x hx
      have hbw : w.v.bulk ≤ 1048576 + 4 := by
        subst hw
        rw [prg_bulk, List.map_append, bulks_append]
        simp only
        omega
      rw [← hw0]
      refine valid27 okw (fun _ _ hv => by have := flen_bulk okw hv; omega) fun b hbv => ?_
      cases b with
      | false => simp -dsimp -implicitDefEqProofs only [↓STP, STQ, ne_eq, implies_true, forall_const, if_false, if_true, reduceCtorEq, ↓reduceIte, Nat.reduceEqDiff, Nat.reduceAdd, Int.reduceEq, Int.reduceLT, Int.reduceLE, Int.reduceNeg, Int.reduceAdd, Int.reduceSub, Int.reduceMul, Int.reduceToNat, Nat.reduceMul, Nat.reduceSub, Nat.reduceLT, Nat.reduceLeDiff, hw0, hv1, hq1, eq_self]
      | true =>
        have hvw := (hbv.1 rfl).body
        simp -dsimp -implicitDefEqProofs only [↓STP, STQ, ne_eq, implies_true, forall_const, if_false, if_true, reduceCtorEq, ↓reduceIte, Nat.reduceEqDiff, Nat.reduceAdd, Int.reduceEq, Int.reduceLT, Int.reduceLE, Int.reduceNeg, Int.reduceAdd, Int.reduceSub, Int.reduceMul, Int.reduceToNat, Nat.reduceMul, Nat.reduceSub, Nat.reduceLT, Nat.reduceLeDiff, hw0, hv1, hq1, eq_self]
        rw [← hw0]
        refine foldG okw hvw (by omega) ?_
        simp -dsimp -implicitDefEqProofs only [↓STP, STQ, ne_eq, implies_true, forall_const, if_false, if_true, reduceCtorEq, ↓reduceIte, Nat.reduceEqDiff, Nat.reduceAdd, Int.reduceEq, Int.reduceLT, Int.reduceLE, Int.reduceNeg, Int.reduceAdd, Int.reduceSub, Int.reduceMul, Int.reduceToNat, Nat.reduceMul, Nat.reduceSub, Nat.reduceLT, Nat.reduceLeDiff, hw0, hw1, hv1, hq1, eq_self]
        rw [← hw1]
        refine equal27 (POk_fold okw hvw (by omega)) ?_
        simp -dsimp -implicitDefEqProofs only [↓STP, STQ, ne_eq, implies_true, forall_const, if_false, if_true, reduceCtorEq, ↓reduceIte, Nat.reduceEqDiff, Nat.reduceAdd, Int.reduceEq, Int.reduceLT, Int.reduceLE, Int.reduceNeg, Int.reduceAdd, Int.reduceSub, Int.reduceMul, Int.reduceToNat, Nat.reduceMul, Nat.reduceSub, Nat.reduceLT, Nat.reduceLeDiff]
end Go.Ab.Ytemlhjlceeiflaa
