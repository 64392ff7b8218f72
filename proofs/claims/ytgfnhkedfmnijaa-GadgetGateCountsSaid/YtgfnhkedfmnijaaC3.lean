/- The reference's evaluation of circuits (2): the inputs that count, the values, the outputs. -/
import Derived.Test.YtgfnhkedfmnijaaC2
set_option linter.unusedVariables false
set_option linter.unusedSimpArgs false
namespace Go.Ab.Ytgfnhkedfmnijaa

/-- The input bits are bits. -/
def BitsOK (gs : List Gt) (ls : List (List Nat)) : Prop :=
  ∀ (i f k : Nat), gs[i]? = some ⟨1, f, 0, 0, k⟩ → k = 1 → ∀ ws, ls[f - 1]? = some ws → ∀ w, ws[cnt (gs.take i) f]? = some w → w ≤ 1

def atCells (gs : List Gt) (n i : Nat) : List V := tab n fun j => I (cnt (gs.take i) (j + 1))

theorem atCells_step {gs : List Gt} {n i f k : Nat} (hi : i < gs.length) (hg : gs[i] = ⟨1, f, 0, 0, k⟩) (hf : 1 ≤ f) :
    (atCells gs n i).set (f - 1) (I ((cnt (gs.take i) f + 1 : Nat) : Int)) = atCells gs n (i + 1) := by
  refine tab_set (fun j _ hj => ?_) (fun _ => ?_)
  · rw [cnt_succ hi, hg, if_neg (by rintro ⟨_, h⟩; simp only at h; omega)]; rfl
  · rw [show f - 1 + 1 = f by omega, cnt_succ hi, hg, if_pos ⟨rfl, rfl⟩]
theorem atCells_same {gs : List Gt} {n i : Nat} (hi : i < gs.length) (hg : gs[i].kind ≠ 1) : atCells gs n i = atCells gs n (i + 1) := by
  have : ∀ j, cnt (gs.take (i + 1)) (j + 1) = cnt (gs.take i) (j + 1) := fun j => by rw [cnt_succ hi, if_neg (fun h => hg h.1)]; rfl
  unfold atCells tab
  exact List.map_congr_left fun j _ => by rw [this]
theorem atCells_zero {gs : List Gt} {n : Nat} : atCells gs n 0 = tab n fun _ => .int .i64 0 := by
  unfold atCells tab
  exact List.map_congr_left fun j _ => by simp [cnt]

section
variable {h : H} {K : Out → H → Prop} {p q : Nat} {gs : List Gt} {outs : List Int} {ls : List (List Nat)} {v iv : V}

theorem cnt_lt {i f k : Nat} (hi : i < gs.length) (hg : gs[i] = ⟨1, f, 0, 0, k⟩) : cnt (gs.take i) f < cnt gs f := by
  have h1 := cnt_succ (f := f) hi
  rw [hg, if_pos ⟨rfl, rfl⟩] at h1
  have h2 : cnt (gs.take (i + 1)) f ≤ cnt gs f := by
    unfold cnt
    exact ((List.take_sublist _ _).filter _).length_le
  omega

structure HC (h h1 : H) (gs : List Gt) (n i : Nat) : Prop where
  nx : h1.next = h.next + 2
  at_ : h1.get h.next = some (atCells gs n i)
  bad : h1.get (h.next + 1) = some (tab n fun _ => .bool false)
  old : ∀ j, j < h.next → h1.objs j = h.objs j

def InvC1 (p : Nat) (gs : List Gt) (outs : List Int) (iv : V) (n : Nat) (h : H) (k : Nat) (st : S) : Prop :=
  ∃ (i : Nat) (h1 : H), k = gs.length - i ∧ i ≤ gs.length ∧ HC h h1 gs n i ∧
    st = ⟨upd (upd (upd (upd (upd ρ0 1 iv) 2 (.lptr 0 3 0)) 5 (.ref h.next 0 n 1)) 6 (.ref (h.next + 1) 0 n 1)) 7 (I i), upd m0 0 (some (cbox p gs outs)), 1, [], h1⟩
def InvC2 (iv : V) (ls : List (List Nat)) (h h1 : H) (k : Nat) (st : S) : Prop :=
  ∃ (j : Nat) (xs : List V), k = ls.length - j ∧ j ≤ ls.length ∧ xs.length = j ∧ (∀ (i : Nat) (x : V) (ws : List Nat), xs[i]? = some x → ls[i]? = some ws → WordsAt h1 x ws) ∧ (∀ x ∈ xs, x.cells = [x]) ∧
    st = ⟨upd (upd (upd (upd ρ0 1 iv) 6 (.ref (h.next + 1) 0 ls.length 1)) 9 (.vec xs (.own 0))) 10 (I j), m0, 1, [], h1⟩

theorem counts_spec (hv : circF p gs outs v) (hc : Circ p q gs outs) (hf : FitsC p gs ls) (hb : BitsOK gs ls) (hi : ListsAt h iv ls)
    (hK : ∀ h' x, ListsAt h' (.vec x .any) ls → h.next ≤ h'.next → (∀ j, j < h.next → h'.objs j = h.objs j) → K (.ret (.vec x .any)) h') : R 75 [v, iv] h K := by
  subst hv
  have hll := hf.ll
  have hlg := hc.lg
  have o := hi.out
  have w1 : ∀ {i : Nat}, i < 30000 → IntKind.i64.wrap ((i : Int) + 1) = ((i + 1 : Nat) : Int) := fun hi => by rw [wrap_i64] <;> omega
  refine run75 (Nat.le_of_ble_eq_true rfl) ?_
  simp -dsimp -implicitDefEqProofs only [↓STP, STQ, ne_eq, implies_true, forall_const, if_false, if_true, reduceCtorEq, ↓reduceIte, Nat.reduceEqDiff, Nat.reduceAdd, Int.reduceEq, Int.reduceLT, Int.reduceLE, Int.reduceNeg, Int.reduceAdd, Int.reduceSub, Int.reduceMul, Int.reduceToNat, Nat.reduceMul, Nat.reduceSub, Nat.reduceLT, Nat.reduceLeDiff, circV, ir75, o, mksN_ok (n := ls.length) (sz := 1) (bytes := 8) (by omega) (by decide) (by decide), mksN_ok (n := ls.length) (sz := 1) (bytes := 1) (by omega) (by decide) (by decide), next_new]
  refine codeT_loop (InvC1 p gs outs iv ls.length h) (i := gs.length) ⟨0, _, by omega, by omega, ⟨?_, ?_, ?_, ?_⟩, by simp -dsimp -implicitDefEqProofs only [↓STP, STQ, ne_eq, implies_true, forall_const, if_false, if_true, reduceCtorEq, ↓reduceIte, Nat.reduceEqDiff, Nat.reduceAdd, Int.reduceEq, Int.reduceLT, Int.reduceLE, Int.reduceNeg, Int.reduceAdd, Int.reduceSub, Int.reduceMul, Int.reduceToNat, Nat.reduceMul, Nat.reduceSub, Nat.reduceLT, Nat.reduceLeDiff, circV, cbox, o] <;> rfl⟩ ?_ mono
  · rfl
  · rw [get_new_ne (by rw [next_new]; omega), get_new, atCells_zero, tab_const]
  · rw [show h.next + 1 = (h.new (.cells (List.replicate ls.length [.int .i64 0]).flatten)).next from rfl, get_new, tab_const]
  · intro j hj
    simp [H.new, upd, Nat.ne_of_lt hj, Nat.ne_of_lt (Nat.lt_succ_of_lt hj)]
  rintro k st ⟨i, h1, rfl, hi', H1, rfl⟩
  have hi1 : ListsAt h1 iv ls := hi.frame (by rw [H1.nx]; omega) H1.old
  have hat := H1.at_
  have hbad := H1.bad
  by_cases hlt : i < gs.length
  · have hget : (gs.map Gt.v)[i]? = some gs[i].v := by rw [List.getElem?_map, List.getElem?_eq_getElem hlt]; rfl
    have hgok := hc.gate i gs[i] (List.getElem?_eq_getElem hlt)
    generalize hgi : gs[i] = g at hget hgok
    have same : g.kind ≠ 1 → InvC1 p gs outs iv ls.length h (gs.length - (i + 1)) ⟨upd (upd (upd (upd (upd ρ0 1 iv) 2 (.lptr 0 3 0)) 5 (.ref h.next 0 ls.length 1)) 6 (.ref (h.next + 1) 0 ls.length 1)) 7 (I ((i + 1 : Nat) : Int)), upd m0 0 (some (cbox p gs outs)), 1, [], h1⟩ :=
      fun hk => ⟨i + 1, h1, rfl, by omega, ⟨H1.nx, by rw [hat, atCells_same hlt (by rw [hgi]; exact hk)], hbad, H1.old⟩, rfl⟩
    cases hgok with
    | inp f k e1 e2 e3 =>
      have hfl : f - 1 < ls.length := by
        have := hf.frm gs[i] (List.getElem_mem hlt) (by rw [hgi])
        rw [hgi] at this; simp only at this; omega
      obtain ⟨ptr, x, q1, q2, q3⟩ := hi1.idx hfl
      have wf : IntKind.i64.wrap ((f : Int) - 1) = ((f - 1 : Nat) : Int) := by rw [wrap_i64] <;> omega
      have hcl : cnt (gs.take i) f < ls[f - 1].length := by
        rw [hf.len (f - 1) _ (List.getElem?_eq_getElem hfl), show f - 1 + 1 = f by omega]
        exact cnt_lt hlt hgi
      have hcl2 := cnt_le (gs := gs) (f := f) (i := i)
      obtain ⟨ptr2, r1, r2⟩ := q3.idx hcl
      have hbit : k = 1 → ¬ ((1 : Int) < ((ls[f - 1][cnt (gs.take i) f] : Nat) : Int)) := by
        intro hk
        have := hb i f k (by rw [List.getElem?_eq_getElem hlt, hgi]) hk _ (List.getElem?_eq_getElem hfl) _ (List.getElem?_eq_getElem hcl)
        omega
      have wc : IntKind.i64.wrap ((cnt (gs.take i) f : Int) + 1) = ((cnt (gs.take i) f + 1 : Nat) : Int) := by rw [wrap_i64] <;> omega
      have hxa : (atCells gs ls.length i)[f - 1]? = some (I (cnt (gs.take i) f)) := by
        unfold atCells; rw [tab_get hfl, show f - 1 + 1 = f by omega]
      have hfi : ((f - 1 : Nat) : Int) < (ls.length : Int) := by omega
      have hlen : f - 1 + 1 ≤ (atCells gs ls.length i).length := by unfold atCells; rw [tab_len]; omega
      by_cases hk : (k : Int) = 1
      · simp -dsimp -implicitDefEqProofs only [↓STP, STQ, ne_eq, implies_true, forall_const, if_false, if_true, reduceCtorEq, ↓reduceIte, Nat.reduceEqDiff, Nat.reduceAdd, Int.reduceEq, Int.reduceLT, Int.reduceLE, Int.reduceNeg, Int.reduceAdd, Int.reduceSub, Int.reduceMul, Int.reduceToNat, Nat.reduceMul, Nat.reduceSub, Nat.reduceLT, Nat.reduceLeDiff, cbox, List.length_map, Int.ofNat_lt, hlt, hget, Gt.v, Gt.cells, eq_true hk, wf, q1, q2, r1, r2, hat, hxa, hfi, eq_false (hbit (by omega)), wc, w1 (show i < 30000 by omega), storeV, hlen, Nat.mul_one, o]
        refine ⟨_, by omega, i + 1, _, rfl, by omega, ⟨?_, ?_, ?_, ?_⟩, rfl⟩
        · exact H1.nx
        · rw [get_set, ← atCells_step hlt hgi e1, List.set_eq_take_append_cons_drop, if_pos (show f - 1 < _ by omega)]
          simp
        · rw [get_set_ne (by omega)]; exact hbad
        · intro j hj; rw [← H1.old j hj]; simp [H.set, upd, Nat.ne_of_lt hj]
      · simp -dsimp -implicitDefEqProofs only [↓STP, STQ, ne_eq, implies_true, forall_const, if_false, if_true, reduceCtorEq, ↓reduceIte, Nat.reduceEqDiff, Nat.reduceAdd, Int.reduceEq, Int.reduceLT, Int.reduceLE, Int.reduceNeg, Int.reduceAdd, Int.reduceSub, Int.reduceMul, Int.reduceToNat, Nat.reduceMul, Nat.reduceSub, Nat.reduceLT, Nat.reduceLeDiff, cbox, List.length_map, Int.ofNat_lt, hlt, hget, Gt.v, Gt.cells, eq_false hk, wf, q1, q2, r1, r2, hat, hxa, hfi, wc, w1 (show i < 30000 by omega), storeV, hlen, Nat.mul_one, o]
        refine ⟨_, by omega, i + 1, _, rfl, by omega, ⟨?_, ?_, ?_, ?_⟩, rfl⟩
        · exact H1.nx
        · rw [get_set, ← atCells_step hlt hgi e1, List.set_eq_take_append_cons_drop, if_pos (show f - 1 < _ by omega)]
          simp
        · rw [get_set_ne (by omega)]; exact hbad
        · intro j hj; rw [← H1.old j hj]; simp [H.set, upd, Nat.ne_of_lt hj]
    | const k e1 =>
      simp -dsimp -implicitDefEqProofs only [↓STP, STQ, ne_eq, implies_true, forall_const, if_false, if_true, reduceCtorEq, ↓reduceIte, Nat.reduceEqDiff, Nat.reduceAdd, Int.reduceEq, Int.reduceLT, Int.reduceLE, Int.reduceNeg, Int.reduceAdd, Int.reduceSub, Int.reduceMul, Int.reduceToNat, Nat.reduceMul, Nat.reduceSub, Nat.reduceLT, Nat.reduceLeDiff, cbox, List.length_map, Int.ofNat_lt, hlt, hget, Gt.v, Gt.cells, storeV, w1 (show i < 30000 by omega), o]
      exact ⟨_, by omega, same (by simp)⟩
    | add a b e1 e2 =>
      simp -dsimp -implicitDefEqProofs only [↓STP, STQ, ne_eq, implies_true, forall_const, if_false, if_true, reduceCtorEq, ↓reduceIte, Nat.reduceEqDiff, Nat.reduceAdd, Int.reduceEq, Int.reduceLT, Int.reduceLE, Int.reduceNeg, Int.reduceAdd, Int.reduceSub, Int.reduceMul, Int.reduceToNat, Nat.reduceMul, Nat.reduceSub, Nat.reduceLT, Nat.reduceLeDiff, cbox, List.length_map, Int.ofNat_lt, hlt, hget, Gt.v, Gt.cells, storeV, w1 (show i < 30000 by omega), o]
      exact ⟨_, by omega, same (by simp)⟩
    | sub a b e1 e2 =>
      simp -dsimp -implicitDefEqProofs only [↓STP, STQ, ne_eq, implies_true, forall_const, if_false, if_true, reduceCtorEq, ↓reduceIte, Nat.reduceEqDiff, Nat.reduceAdd, Int.reduceEq, Int.reduceLT, Int.reduceLE, Int.reduceNeg, Int.reduceAdd, Int.reduceSub, Int.reduceMul, Int.reduceToNat, Nat.reduceMul, Nat.reduceSub, Nat.reduceLT, Nat.reduceLeDiff, cbox, List.length_map, Int.ofNat_lt, hlt, hget, Gt.v, Gt.cells, storeV, w1 (show i < 30000 by omega), o]
      exact ⟨_, by omega, same (by simp)⟩
    | scale k a e1 e2 =>
      simp -dsimp -implicitDefEqProofs only [↓STP, STQ, ne_eq, implies_true, forall_const, if_false, if_true, reduceCtorEq, ↓reduceIte, Nat.reduceEqDiff, Nat.reduceAdd, Int.reduceEq, Int.reduceLT, Int.reduceLE, Int.reduceNeg, Int.reduceAdd, Int.reduceSub, Int.reduceMul, Int.reduceToNat, Nat.reduceMul, Nat.reduceSub, Nat.reduceLT, Nat.reduceLeDiff, cbox, List.length_map, Int.ofNat_lt, hlt, hget, Gt.v, Gt.cells, storeV, w1 (show i < 30000 by omega), o]
      exact ⟨_, by omega, same (by simp)⟩
    | mul a b e1 e2 =>
      simp -dsimp -implicitDefEqProofs only [↓STP, STQ, ne_eq, implies_true, forall_const, if_false, if_true, reduceCtorEq, ↓reduceIte, Nat.reduceEqDiff, Nat.reduceAdd, Int.reduceEq, Int.reduceLT, Int.reduceLE, Int.reduceNeg, Int.reduceAdd, Int.reduceSub, Int.reduceMul, Int.reduceToNat, Nat.reduceMul, Nat.reduceSub, Nat.reduceLT, Nat.reduceLeDiff, cbox, List.length_map, Int.ofNat_lt, hlt, hget, Gt.v, Gt.cells, storeV, w1 (show i < 30000 by omega), o]
      exact ⟨_, by omega, same (by simp)⟩
  · simp -dsimp -implicitDefEqProofs only [↓STP, STQ, ne_eq, implies_true, forall_const, if_false, if_true, reduceCtorEq, ↓reduceIte, Nat.reduceEqDiff, Nat.reduceAdd, Int.reduceEq, Int.reduceLT, Int.reduceLE, Int.reduceNeg, Int.reduceAdd, Int.reduceSub, Int.reduceMul, Int.reduceToNat, Nat.reduceMul, Nat.reduceSub, Nat.reduceLT, Nat.reduceLeDiff, cbox, List.length_map, Int.ofNat_lt, hlt, o]
    refine codeT_loop (InvC2 iv ls h h1) (i := ls.length) ⟨0, [], by omega, by omega, rfl, by simp, by simp, by simp -dsimp -implicitDefEqProofs only [↓STP, STQ, ne_eq, implies_true, forall_const, if_false, if_true, reduceCtorEq, ↓reduceIte, Nat.reduceEqDiff, Nat.reduceAdd, Int.reduceEq, Int.reduceLT, Int.reduceLE, Int.reduceNeg, Int.reduceAdd, Int.reduceSub, Int.reduceMul, Int.reduceToNat, Nat.reduceMul, Nat.reduceSub, Nat.reduceLT, Nat.reduceLeDiff, circV, cbox, o] <;> rfl⟩ ?_ mono
    rintro k st ⟨j, xs, rfl, hj, hxl, hxs, hxc, rfl⟩
    by_cases hlt2 : j < ls.length
    · obtain ⟨ptr, x, q1, q2, q3⟩ := hi1.idx hlt2
      have qo := q3.out
      have hbg : (tab ls.length fun _ => V.bool false)[j]? = some (.bool false) := tab_get hlt2
      have hji : ((j : Int)) < (ls.length : Int) := by omega
      have nxt : InvC2 iv ls h h1 (ls.length - (j + 1)) ⟨upd (upd (upd (upd ρ0 1 iv) 6 (.ref (h.next + 1) 0 ls.length 1)) 9 (.vec (xs ++ [x]) (.own 0))) 10 (I ((j + 1 : Nat) : Int)), m0, 1, [], h1⟩ := by
        refine ⟨j + 1, xs ++ [x], rfl, by omega, by simp [hxl], fun i y ws hy hw => ?_, fun y hy => ?_, rfl⟩
        · rcases Nat.lt_trichotomy i xs.length with h2 | h2 | h2
          · rw [List.getElem?_append_left h2] at hy; exact hxs i y ws hy hw
          · rw [h2, List.getElem?_append_right (Nat.le_refl _)] at hy
            simp at hy; subst hy
            rw [h2, hxl, List.getElem?_eq_getElem hlt2] at hw
            cases hw; exact q3
          · rw [List.getElem?_eq_none (by simp; omega)] at hy; simp at hy
        · rcases List.mem_append.1 hy with h2 | h2
          · exact hxc y h2
          · simp at h2; subst h2; exact qo.2.1
      have hxe : ∀ e ∈ xs, e.cells.length = 1 := fun e he => by rw [hxc e he]; rfl
      have hel : x.cells.length = 1 := by rw [qo.2.1]; rfl
      simp -dsimp -implicitDefEqProofs only [↓STP, STQ, ne_eq, implies_true, forall_const, if_false, if_true, reduceCtorEq, ↓reduceIte, Nat.reduceEqDiff, Nat.reduceAdd, Int.reduceEq, Int.reduceLT, Int.reduceLE, Int.reduceNeg, Int.reduceAdd, Int.reduceSub, Int.reduceMul, Int.reduceToNat, Nat.reduceMul, Nat.reduceSub, Nat.reduceLT, Nat.reduceLeDiff, o, Int.ofNat_lt, hlt2, hji, hbad, hbg, q1, q2, qo, Nat.mul_one]
      rw [app1_own (by simp) hxe hel (by decide) (by decide) (by omega)]
      simp -dsimp -implicitDefEqProofs only [↓STP, STQ, ne_eq, implies_true, forall_const, if_false, if_true, reduceCtorEq, ↓reduceIte, Nat.reduceEqDiff, Nat.reduceAdd, Int.reduceEq, Int.reduceLT, Int.reduceLE, Int.reduceNeg, Int.reduceAdd, Int.reduceSub, Int.reduceMul, Int.reduceToNat, Nat.reduceMul, Nat.reduceSub, Nat.reduceLT, Nat.reduceLeDiff, w1 (show j < 30000 by omega), o, qo]
      exact ⟨_, by omega, nxt⟩
    · have hjl : j = ls.length := by omega
      have fin : ListsAt h1 (.vec xs .any) ls := ⟨xs, by omega, hxs, .inl rfl⟩
      simp -dsimp -implicitDefEqProofs only [↓STP, STQ, ne_eq, implies_true, forall_const, if_false, if_true, reduceCtorEq, ↓reduceIte, Nat.reduceEqDiff, Nat.reduceAdd, Int.reduceEq, Int.reduceLT, Int.reduceLE, Int.reduceNeg, Int.reduceAdd, Int.reduceSub, Int.reduceMul, Int.reduceToNat, Nat.reduceMul, Nat.reduceSub, Nat.reduceLT, Nat.reduceLeDiff, o, Int.ofNat_lt, hlt2]
      exact hK h1 xs fin (by rw [H1.nx]; omega) H1.old

end
end Go.Ab.Ytgfnhkedfmnijaa
