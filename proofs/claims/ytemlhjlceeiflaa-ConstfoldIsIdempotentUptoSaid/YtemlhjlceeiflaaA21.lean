/- The number of nodes. -/
import Derived.Test.YtemlhjlceeiflaaA12
import Derived.Test.YtemlhjlceeiflaaA15
set_option linter.unusedVariables false
set_option linter.unusedSimpArgs false
namespace Go.Ab
mutual
def nodesE : Exp → Nat
  | .mk k o n s ks => nodesEs ks
def nodesEs : List Exp → Nat
  | [] => 0
  | e :: es => 1 + nodesE e + nodesEs es
end
mutual
def nodesS : Stm → Nat
  | .mk k s e a b => nodesEs e + nodesSs a + nodesSs b
def nodesSs : List Stm → Nat
  | [] => 0
  | e :: es => 1 + nodesS e + nodesSs es
end
theorem nodesEs_append : ∀ a b : List Exp, nodesEs (a ++ b) = nodesEs a + nodesEs b
  | [], b => by rw [List.nil_append, nodesEs, Nat.zero_add]
  | x :: a, b => by rw [List.cons_append, nodesEs, nodesEs, nodesEs_append a b]; omega
theorem nodesSs_append : ∀ a b : List Stm, nodesSs (a ++ b) = nodesSs a + nodesSs b
  | [], b => by rw [List.nil_append, nodesSs, Nat.zero_add]
  | x :: a, b => by rw [List.cons_append, nodesSs, nodesSs, nodesSs_append a b]; omega
theorem nodesE_bulk (e : Exp) : nodesE e + 1 ≤ e.v.bulk := by
  induction e using Exp.ind with
  | h k o n s ks ih =>
    have g : ∀ l : List Exp, (∀ x ∈ l, nodesE x + 1 ≤ x.v.bulk) → nodesEs l ≤ V.bulks (l.map Exp.v) := fun l h => by
      induction l with
      | nil => exact Nat.le_refl _
      | cons x l ihl =>
        have h1 := h x (by simp)
        have h2 := ihl fun y hy => h y (by simp [hy])
        rw [nodesEs, List.map_cons, V.bulks]; omega
    have := g ks ih
    rw [nodesE, exp_bulk]; omega
theorem nodesEs_bulk : ∀ l : List Exp, nodesEs l ≤ V.bulks (l.map Exp.v)
  | [] => Nat.le_refl _
  | x :: l => by
    have h1 := nodesE_bulk x
    have h2 := nodesEs_bulk l
    rw [nodesEs, List.map_cons, V.bulks]; omega
theorem nodesS_bulk (x : Stm) : nodesS x + 1 ≤ x.v.bulk := by
  induction x using Stm.ind with
  | h k s e a b iha ihb =>
    have g : ∀ l : List Stm, (∀ x ∈ l, nodesS x + 1 ≤ x.v.bulk) → nodesSs l ≤ V.bulks (l.map Stm.v) := fun l h => by
      induction l with
      | nil => exact Nat.le_refl _
      | cons x l ihl =>
        have h1 := h x (by simp)
        have h2 := ihl fun y hy => h y (by simp [hy])
        rw [nodesSs, List.map_cons, V.bulks]; omega
    have h1 := g a iha
    have h2 := g b ihb
    have h3 := nodesEs_bulk e
    rw [nodesS, stm_bulk]; omega
theorem nodesSs_bulk : ∀ l : List Stm, nodesSs l ≤ V.bulks (l.map Stm.v)
  | [] => Nat.le_refl _
  | x :: l => by
    have h1 := nodesS_bulk x
    have h2 := nodesSs_bulk l
    rw [nodesSs, List.map_cons, V.bulks]; omega

theorem nodesEs_mem : ∀ {l : List Exp} {x : Exp}, x ∈ l → 1 + nodesE x ≤ nodesEs l
  | y :: l, x, h => by
    rw [nodesEs]
    rcases List.mem_cons.1 h with rfl | h
    · omega
    · have := nodesEs_mem h; omega
theorem nodesEs_map {f : Exp → Exp} : ∀ {l : List Exp}, (∀ x ∈ l, nodesE (f x) ≤ nodesE x) → nodesEs (l.map f) ≤ nodesEs l
  | [], _ => Nat.le_refl _
  | x :: l, h => by
    have h1 := h x (by simp)
    have h2 := nodesEs_map (l := l) fun y hy => h y (by simp [hy])
    rw [List.map_cons, nodesEs, nodesEs]; omega
theorem nthE_nodes {l : List Exp} {i : Nat} : nodesE (nthE l i) ≤ nodesEs l := by
  by_cases h : i < l.length
  · have := nodesEs_mem (nthE_mem h); omega
  · have e : nthE l i = numE 0 := by
      unfold nthE
      rw [List.getD_eq_getElem?_getD, List.getElem?_eq_none (by omega)]; rfl
    rw [e]; exact Nat.zero_le _
theorem nodes_foldE (e : Exp) : nodesE (foldE e) ≤ nodesE e := by
  induction e using Exp.ind with
  | h k o n s ks ih =>
    have h1 := nodesEs_map ih
    rw [foldE_mk, nodesE]
    unfold foldTop
    split
    · exact Nat.zero_le _
    · split
      · split
        · have := nthE_nodes (l := ks.map foldE) (i := 1); omega
        · have := nthE_nodes (l := ks.map foldE) (i := 2); omega
      · rw [nodesE]; exact h1
theorem nodes_of : ∀ {l : List Stm}, (∀ x ∈ l, nodesSs (foldS x) ≤ 1 + nodesS x) → nodesSs (foldSs l) ≤ nodesSs l
  | [], _ => Nat.le_refl _
  | x :: l, h => by
    have h1 := h x (by simp)
    have h2 := nodes_of (l := l) fun y hy => h y (by simp [hy])
    rw [foldSs, nodesSs_append, nodesSs]; omega
theorem nodes_foldS (x : Stm) : nodesSs (foldS x) ≤ 1 + nodesS x := by
  induction x using Stm.ind with
  | h k s e a b iha ihb =>
    have h1 := nodes_of iha
    have h2 := nodes_of ihb
    have h3 := nodesEs_map (l := e) (f := foldE) fun x _ => nodes_foldE x
    rw [foldS_mk, nodesS]
    unfold foldStm
    split
    · split <;> omega
    · split
      · exact Nat.zero_le _
      · rw [nodesSs, nodesSs, nodesS]; omega
theorem nodes_foldSs {l : List Stm} : nodesSs (foldSs l) ≤ nodesSs l := nodes_of fun x _ => nodes_foldS x
theorem nodesEs_take {l : List Exp} {i : Nat} (hi : i < l.length) : nodesEs (l.take (i + 1)) = nodesEs (l.take i) + (1 + nodesE l[i]) := by
  rw [List.take_add_one, List.getElem?_eq_getElem hi, nodesEs_append]
  simp [nodesEs]
theorem nodesSs_take {l : List Stm} {i : Nat} (hi : i < l.length) : nodesSs (l.take (i + 1)) = nodesSs (l.take i) + (1 + nodesS l[i]) := by
  rw [List.take_add_one, List.getElem?_eq_getElem hi, nodesSs_append]
  simp [nodesSs]
theorem nodesEs_take_le {l : List Exp} {i : Nat} : nodesEs (l.take i) ≤ nodesEs l := by
  have : nodesEs l = nodesEs (l.take i) + nodesEs (l.drop i) := by rw [← nodesEs_append, List.take_append_drop]
  omega
theorem nodesSs_take_le {l : List Stm} {i : Nat} : nodesSs (l.take i) ≤ nodesSs l := by
  have : nodesSs l = nodesSs (l.take i) + nodesSs (l.drop i) := by rw [← nodesSs_append, List.take_append_drop]
  omega
theorem nodesEs_len : ∀ {l : List Exp}, l.length ≤ nodesEs l
  | [] => Nat.le_refl _
  | x :: l => by rw [nodesEs, List.length_cons]; have := nodesEs_len (l := l); omega
theorem nodesSs_len : ∀ {l : List Stm}, l.length ≤ nodesSs l
  | [] => Nat.le_refl _
  | x :: l => by rw [nodesSs, List.length_cons]; have := nodesSs_len (l := l); omega
end Go.Ab
namespace Go.Ab.Ytemlhjlceeiflaa
section
variable {h : H} {K : Out → H → Prop}

def NdE (l : List Exp) : Prop := ∀ (h : H) (K : Out → H → Prop), nodesEs l ≤ 1000000000 → K (.ret (I (nodesEs l))) h → R 48 [.vec (l.map Exp.v) .any] h K

theorem ndE_of (l : List Exp) (ih : ∀ x ∈ l, NdE x.kids) : NdE l := by
  intro h K hb hK
  have hlen := nodesEs_len (l := l)
  refine run48 (Nat.le_of_ble_eq_true rfl) ?_
  simp -dsimp -implicitDefEqProofs only [↓STP, STQ, ne_eq, implies_true, forall_const, if_false, if_true, reduceCtorEq, ↓reduceIte, Nat.reduceEqDiff, Nat.reduceAdd, Int.reduceEq, Int.reduceLT, Int.reduceLE, Int.reduceNeg, Int.reduceAdd, Int.reduceSub, Int.reduceMul, Int.reduceToNat, Nat.reduceMul, Nat.reduceSub, Nat.reduceLT, Nat.reduceLeDiff, ir48, List.length_map]
  refine codeT_for (N := l.length) (fun i => ⟨upd (upd (upd (upd ρ0 3 (I ((l.length - i + nodesEs (l.take i) : Nat)))) 8 (.vec (l.map Exp.v) .any)) 9 (I l.length)) 10 (I i), m0, 0, [], h⟩) (fun _ => True) (by simp -dsimp -implicitDefEqProofs only [↓STP, STQ, ne_eq, implies_true, forall_const, if_false, if_true, reduceCtorEq, ↓reduceIte, Nat.reduceEqDiff, Nat.reduceAdd, Int.reduceEq, Int.reduceLT, Int.reduceLE, Int.reduceNeg, Int.reduceAdd, Int.reduceSub, Int.reduceMul, Int.reduceToNat, Nat.reduceMul, Nat.reduceSub, Nat.reduceLT, Nat.reduceLeDiff] <;> rfl) trivial (fun i hi _ => ?_) (fun _ => ?_) mono
  · have hget := get_map (f := Exp.v) hi
    have ihx := ih _ (List.getElem_mem hi)
    have w1 := wiM (show i < 9223372036854775807 by omega)
    have htk := nodesEs_take hi
    have hle := nodesEs_take_le (l := l) (i := i + 1)
    rw [htk] at hle
    rw [htk]
    generalize l[i] = x at *
    obtain ⟨k, o, n, s, ks⟩ := x
    rw [nodesE] at *
    simp -dsimp -implicitDefEqProofs only [↓STP, STQ, ne_eq, implies_true, forall_const, if_false, if_true, reduceCtorEq, ↓reduceIte, Nat.reduceEqDiff, Nat.reduceAdd, Int.reduceEq, Int.reduceLT, Int.reduceLE, Int.reduceNeg, Int.reduceAdd, Int.reduceSub, Int.reduceMul, Int.reduceToNat, Nat.reduceMul, Nat.reduceSub, Nat.reduceLT, Nat.reduceLeDiff, Int.ofNat_lt, hi, hget, Exp.v_mk, storeV]
    have ihx : NdE ks := ihx
    refine ihx _ _ (by omega) ?_
    have w2 : IntKind.i64.wrap (((l.length - i + nodesEs (l.take i) : Nat) : Int) + ((nodesEs ks : Nat) : Int)) = ((l.length - (i + 1) + (nodesEs (l.take i) + (1 + nodesEs ks)) : Nat) : Int) := by
      rw [wadd (by omega)]; omega
    simp -dsimp -implicitDefEqProofs only [↓STP, STQ, ne_eq, implies_true, forall_const, if_false, if_true, reduceCtorEq, ↓reduceIte, Nat.reduceEqDiff, Nat.reduceAdd, Int.reduceEq, Int.reduceLT, Int.reduceLE, Int.reduceNeg, Int.reduceAdd, Int.reduceSub, Int.reduceMul, Int.reduceToNat, Nat.reduceMul, Nat.reduceSub, Nat.reduceLT, Nat.reduceLeDiff, w2, w1, eq_self]
  · have e : l.length - l.length + nodesEs (l.take l.length) = nodesEs l := by rw [List.take_length]; omega
    simp -dsimp -implicitDefEqProofs only [↓STP, STQ, ne_eq, implies_true, forall_const, if_false, if_true, reduceCtorEq, ↓reduceIte, Nat.reduceEqDiff, Nat.reduceAdd, Int.reduceEq, Int.reduceLT, Int.reduceLE, Int.reduceNeg, Int.reduceAdd, Int.reduceSub, Int.reduceMul, Int.reduceToNat, Nat.reduceMul, Nat.reduceSub, Nat.reduceLT, Nat.reduceLeDiff, Int.lt_irrefl, e]
    exact hK
theorem ndE_kids (e : Exp) : NdE e.kids := by
  induction e using Exp.ind with
  | h k o n s ks ih => exact ndE_of ks ih
theorem ndE (l : List Exp) : NdE l := ndE_of l fun x _ => ndE_kids x

def NdS (l : List Stm) : Prop := ∀ (h : H) (K : Out → H → Prop), nodesSs l ≤ 1000000000 → K (.ret (I (nodesSs l))) h → R 30 [.vec (l.map Stm.v) .any] h K

theorem ndS_of (l : List Stm) (ih : ∀ x ∈ l, NdS x.thn ∧ NdS x.els) : NdS l := by
  intro h K hb hK
  have hlen := nodesSs_len (l := l)
  refine run30 (Nat.le_of_ble_eq_true rfl) ?_
  simp -dsimp -implicitDefEqProofs only [↓STP, STQ, ne_eq, implies_true, forall_const, if_false, if_true, reduceCtorEq, ↓reduceIte, Nat.reduceEqDiff, Nat.reduceAdd, Int.reduceEq, Int.reduceLT, Int.reduceLE, Int.reduceNeg, Int.reduceAdd, Int.reduceSub, Int.reduceMul, Int.reduceToNat, Nat.reduceMul, Nat.reduceSub, Nat.reduceLT, Nat.reduceLeDiff, ir30, List.length_map]
  refine codeT_for (N := l.length) (fun i => ⟨upd (upd (upd (upd ρ0 3 (I ((l.length - i + nodesSs (l.take i) : Nat)))) 8 (.vec (l.map Stm.v) .any)) 9 (I l.length)) 10 (I i), m0, 0, [], h⟩) (fun _ => True) (by simp -dsimp -implicitDefEqProofs only [↓STP, STQ, ne_eq, implies_true, forall_const, if_false, if_true, reduceCtorEq, ↓reduceIte, Nat.reduceEqDiff, Nat.reduceAdd, Int.reduceEq, Int.reduceLT, Int.reduceLE, Int.reduceNeg, Int.reduceAdd, Int.reduceSub, Int.reduceMul, Int.reduceToNat, Nat.reduceMul, Nat.reduceSub, Nat.reduceLT, Nat.reduceLeDiff] <;> rfl) trivial (fun i hi _ => ?_) (fun _ => ?_) mono
  · have hget := get_map (f := Stm.v) hi
    have ihx := ih _ (List.getElem_mem hi)
    have w1 := wiM (show i < 9223372036854775807 by omega)
    have htk := nodesSs_take hi
    have hle := nodesSs_take_le (l := l) (i := i + 1)
    rw [htk] at hle
    rw [htk]
    generalize l[i] = x at *
    obtain ⟨k, s, e, a, b⟩ := x
    rw [nodesS] at *
    have hA : NdS a := ihx.1
    have hB : NdS b := ihx.2
    simp -dsimp -implicitDefEqProofs only [↓STP, STQ, ne_eq, implies_true, forall_const, if_false, if_true, reduceCtorEq, ↓reduceIte, Nat.reduceEqDiff, Nat.reduceAdd, Int.reduceEq, Int.reduceLT, Int.reduceLE, Int.reduceNeg, Int.reduceAdd, Int.reduceSub, Int.reduceMul, Int.reduceToNat, Nat.reduceMul, Nat.reduceSub, Nat.reduceLT, Nat.reduceLeDiff, Int.ofNat_lt, hi, hget, Stm.v_mk, storeV, eq_self]
    refine ndE e _ _ (by omega) ?_
    simp -dsimp -implicitDefEqProofs only [↓STP, STQ, ne_eq, implies_true, forall_const, if_false, if_true, reduceCtorEq, ↓reduceIte, Nat.reduceEqDiff, Nat.reduceAdd, Int.reduceEq, Int.reduceLT, Int.reduceLE, Int.reduceNeg, Int.reduceAdd, Int.reduceSub, Int.reduceMul, Int.reduceToNat, Nat.reduceMul, Nat.reduceSub, Nat.reduceLT, Nat.reduceLeDiff, eq_self]
    refine hA _ _ (by omega) ?_
    have w3 : IntKind.i64.wrap (((nodesEs e : Nat) : Int) + ((nodesSs a : Nat) : Int)) = ((nodesEs e + nodesSs a : Nat) : Int) := wadd (by omega)
    simp -dsimp -implicitDefEqProofs only [↓STP, STQ, ne_eq, implies_true, forall_const, if_false, if_true, reduceCtorEq, ↓reduceIte, Nat.reduceEqDiff, Nat.reduceAdd, Int.reduceEq, Int.reduceLT, Int.reduceLE, Int.reduceNeg, Int.reduceAdd, Int.reduceSub, Int.reduceMul, Int.reduceToNat, Nat.reduceMul, Nat.reduceSub, Nat.reduceLT, Nat.reduceLeDiff, w3, eq_self]
    refine hB _ _ (by omega) ?_
    have w4 : IntKind.i64.wrap (((nodesEs e + nodesSs a : Nat) : Int) + ((nodesSs b : Nat) : Int)) = ((nodesEs e + nodesSs a + nodesSs b : Nat) : Int) := wadd (by omega)
    have w2 : IntKind.i64.wrap (((l.length - i + nodesSs (l.take i) : Nat) : Int) + ((nodesEs e + nodesSs a + nodesSs b : Nat) : Int)) = ((l.length - (i + 1) + (nodesSs (l.take i) + (1 + (nodesEs e + nodesSs a + nodesSs b))) : Nat) : Int) := by
      rw [wadd (by omega)]; omega
    simp -dsimp -implicitDefEqProofs only [↓STP, STQ, ne_eq, implies_true, forall_const, if_false, if_true, reduceCtorEq, ↓reduceIte, Nat.reduceEqDiff, Nat.reduceAdd, Int.reduceEq, Int.reduceLT, Int.reduceLE, Int.reduceNeg, Int.reduceAdd, Int.reduceSub, Int.reduceMul, Int.reduceToNat, Nat.reduceMul, Nat.reduceSub, Nat.reduceLT, Nat.reduceLeDiff, w4, w2, w1, eq_self]
  · have e : l.length - l.length + nodesSs (l.take l.length) = nodesSs l := by rw [List.take_length]; omega
    simp -dsimp -implicitDefEqProofs only [↓STP, STQ, ne_eq, implies_true, forall_const, if_false, if_true, reduceCtorEq, ↓reduceIte, Nat.reduceEqDiff, Nat.reduceAdd, Int.reduceEq, Int.reduceLT, Int.reduceLE, Int.reduceNeg, Int.reduceAdd, Int.reduceSub, Int.reduceMul, Int.reduceToNat, Nat.reduceMul, Nat.reduceSub, Nat.reduceLT, Nat.reduceLeDiff, Int.lt_irrefl, e]
    exact hK
theorem ndP (x : Stm) : NdS x.thn ∧ NdS x.els := by
  induction x using Stm.ind with
  | h k s e a b iha ihb => exact ⟨ndS_of a iha, ndS_of b ihb⟩
theorem ndS (l : List Stm) : NdS l := ndS_of l fun x _ => ndP x

def nodesP (p : Prg) : Nat := p.ins.length + p.arrays.length + nodesSs p.body
theorem size27 {p : Prg} (h1 : p.ins.length ≤ 1000000000) (h2 : p.arrays.length ≤ 1000000000) (h3 : nodesSs p.body ≤ 1000000000) (hK : K (.ret (I (nodesP p))) h) : R 17 [p.v] h K := by
  refine run17 (Nat.le_of_ble_eq_true rfl) ?_
  have w1 : IntKind.i64.wrap (((p.ins.length : Nat) : Int) + ((p.arrays.length : Nat) : Int)) = ((p.ins.length + p.arrays.length : Nat) : Int) := wadd (by omega)
  have w2 : IntKind.i64.wrap (((p.ins.length + p.arrays.length : Nat) : Int) + ((nodesSs p.body : Nat) : Int)) = ((nodesP p : Nat) : Int) := wadd (by omega)
  simp -dsimp -implicitDefEqProofs only [↓STP, STQ, ne_eq, implies_true, forall_const, if_false, if_true, reduceCtorEq, ↓reduceIte, Nat.reduceEqDiff, Nat.reduceAdd, Int.reduceEq, Int.reduceLT, Int.reduceLE, Int.reduceNeg, Int.reduceAdd, Int.reduceSub, Int.reduceMul, Int.reduceToNat, Nat.reduceMul, Nat.reduceSub, Nat.reduceLT, Nat.reduceLeDiff, Prg.v, Prg.cells, ir17, List.length_map, w1, eq_self]
  refine ndS p.body _ _ h3 ?_
  simp -dsimp -implicitDefEqProofs only [↓STP, STQ, ne_eq, implies_true, forall_const, if_false, if_true, reduceCtorEq, ↓reduceIte, Nat.reduceEqDiff, Nat.reduceAdd, Int.reduceEq, Int.reduceLT, Int.reduceLE, Int.reduceNeg, Int.reduceAdd, Int.reduceSub, Int.reduceMul, Int.reduceToNat, Nat.reduceMul, Nat.reduceSub, Nat.reduceLT, Nat.reduceLeDiff, List.length_map, w1, w2, eq_self]
  exact hK

end
end Go.Ab.Ytemlhjlceeiflaa
