/- The reference's evaluation of circuits (3): the values and the outputs. -/
import Derived.Test.YtgfnhkedfmnijaaC3
set_option linter.unusedVariables false
set_option linter.unusedSimpArgs false
namespace Go.Ab.Ytgfnhkedfmnijaa

/-- The value of a gate. -/
def gval (p : Nat) (ls : List (List Nat)) (pre : List Gt) (vs : List Nat) (g : Gt) : Nat :=
  if g.kind = 1 then (ls.getD (g.frm.toNat - 1) []).getD (cnt pre g.frm.toNat) 0
  else if g.kind = 3 then (vs.getD g.a.toNat 0 + vs.getD g.b.toNat 0) % p
  else if g.kind = 4 then (vs.getD g.a.toNat 0 + p - vs.getD g.b.toNat 0) % p
  else if g.kind = 5 then g.k * vs.getD g.a.toNat 0 % p
  else if g.kind = 6 then vs.getD g.a.toNat 0 * vs.getD g.b.toNat 0 % p
  else g.k

/-- 'vs' are the values of the gates. -/
structure Vals (p : Nat) (ls : List (List Nat)) (gs : List Gt) (vs : List Nat) : Prop where
  len : vs.length = gs.length
  val : ∀ (i : Nat) (g : Gt), gs[i]? = some g → vs[i]? = some (gval p ls (gs.take i) vs g)
  lt : ∀ x ∈ vs, x < p

section
variable {h : H} {K : Out → H → Prop} {p q : Nat} {gs : List Gt} {outs : List Int} {ls : List (List Nat)} {vs : List Nat} {v iv : V}

def InvE (p : Nat) (gs : List Gt) (outs : List Int) (xs : List V) (vs : List Nat) (n : Nat) (h : H) (k : Nat) (st : S) : Prop :=
  ∃ (i : Nat) (h1 : H), k = gs.length - i ∧ i ≤ gs.length ∧ h1.next = h.next + 1 ∧ h1.get h.next = some (atCells gs n i) ∧ (∀ j, j < h.next → h1.objs j = h.objs j) ∧
    st = ⟨upd (upd (upd (upd (upd ρ0 2 (.lptr 0 3 0)) 6 (.vec xs .any)) 7 (.ref h.next 0 n 1)) 8 (.vec (Ws (vs.take i)) (.own 1))) 9 (I i), upd m0 0 (some (cbox p gs outs)), 2, [], h1⟩

theorem evalG_spec (hv : circF p gs outs v) (hc : Circ p q gs outs) (hf : FitsC p gs ls) (hb : BitsOK gs ls) (hi : ListsAt h iv ls) (hvs : Vals p ls gs vs)
    (hK : ∀ h', h.next ≤ h'.next → (∀ j, j < h.next → h'.objs j = h.objs j) → K (.ret (.tuple [.vec (Ws vs) .any, I 0])) h') : R 68 [v, iv] h K := by
  have hv0 := hv
  subst hv
  have hll := hf.ll
  have hlg := hc.lg
  have hp := hc.sup.eq
  have hp61 : p ≤ 2305843009213693951 := by rcases hc.sup with ⟨rfl, _⟩ | ⟨rfl, _⟩ | ⟨rfl, _⟩ | ⟨rfl, _⟩ | ⟨rfl, _⟩ | ⟨rfl, _⟩ | ⟨rfl, _⟩ <;> decide
  have hp0 : 0 < p := by rcases hc.sup with ⟨rfl, _⟩ | ⟨rfl, _⟩ | ⟨rfl, _⟩ | ⟨rfl, _⟩ | ⟨rfl, _⟩ | ⟨rfl, _⟩ | ⟨rfl, _⟩ <;> decide
  have o := hi.out
  have w1 : ∀ {i : Nat}, i < 30000 → IntKind.i64.wrap ((i : Int) + 1) = ((i + 1 : Nat) : Int) := fun hi => by rw [wrap_i64] <;> omega
  refine run68 (Nat.le_of_ble_eq_true rfl) ?_
  simp -dsimp -implicitDefEqProofs only [↓STP, STQ, ne_eq, implies_true, forall_const, if_false, if_true, reduceCtorEq, ↓reduceIte, Nat.reduceEqDiff, Nat.reduceAdd, Int.reduceEq, Int.reduceLT, Int.reduceLE, Int.reduceNeg, Int.reduceAdd, Int.reduceSub, Int.reduceMul, Int.reduceToNat, Nat.reduceMul, Nat.reduceSub, Nat.reduceLT, Nat.reduceLeDiff, circV, ir68]
  refine valid_spec hv0 hc ?_
  simp -dsimp -implicitDefEqProofs only [↓STP, STQ, ne_eq, implies_true, forall_const, if_false, if_true, reduceCtorEq, ↓reduceIte, Nat.reduceEqDiff, Nat.reduceAdd, Int.reduceEq, Int.reduceLT, Int.reduceLE, Int.reduceNeg, Int.reduceAdd, Int.reduceSub, Int.reduceMul, Int.reduceToNat, Nat.reduceMul, Nat.reduceSub, Nat.reduceLT, Nat.reduceLeDiff, o]
  refine fits_spec hv0 hlg hf hi ?_
  simp -dsimp -implicitDefEqProofs only [↓STP, STQ, ne_eq, implies_true, forall_const, if_false, if_true, reduceCtorEq, ↓reduceIte, Nat.reduceEqDiff, Nat.reduceAdd, Int.reduceEq, Int.reduceLT, Int.reduceLE, Int.reduceNeg, Int.reduceAdd, Int.reduceSub, Int.reduceMul, Int.reduceToNat, Nat.reduceMul, Nat.reduceSub, Nat.reduceLT, Nat.reduceLeDiff, o]
  refine counts_spec hv0 hc hf hb hi fun h2 xs hl2 hn2 ho2 => ?_
  have hxs : ∀ j, (hj : j < ls.length) → ∃ x, xs[j]? = some x ∧ WordsAt h2 x ls[j] := by
    intro j hj
    obtain ⟨vs', e1, e2, e3⟩ := hl2
    rcases e3 with e4 | ⟨id, _, e4, _⟩
    · cases e4
      exact ⟨xs[j]'(by omega), List.getElem?_eq_getElem (by omega), e2 j _ _ (List.getElem?_eq_getElem (by omega)) (List.getElem?_eq_getElem hj)⟩
    · cases e4
  have hxl : xs.length = ls.length := by
    obtain ⟨vs', e1, e2, e3⟩ := hl2
    rcases e3 with e4 | ⟨id, _, e4, _⟩
    · cases e4; exact e1
    · cases e4
  simp -dsimp -implicitDefEqProofs only [↓STP, STQ, ne_eq, implies_true, forall_const, if_false, if_true, reduceCtorEq, ↓reduceIte, Nat.reduceEqDiff, Nat.reduceAdd, Int.reduceEq, Int.reduceLT, Int.reduceLE, Int.reduceNeg, Int.reduceAdd, Int.reduceSub, Int.reduceMul, Int.reduceToNat, Nat.reduceMul, Nat.reduceSub, Nat.reduceLT, Nat.reduceLeDiff, hxl, mksN_ok (n := ls.length) (sz := 1) (bytes := 8) (by omega) (by decide) (by decide)]
  refine codeT_loop (InvE p gs outs xs vs ls.length h2) (i := gs.length) ⟨0, _, by omega, by omega, ?_, ?_, ?_, by simp -dsimp -implicitDefEqProofs only [↓STP, STQ, ne_eq, implies_true, forall_const, if_false, if_true, reduceCtorEq, ↓reduceIte, Nat.reduceEqDiff, Nat.reduceAdd, Int.reduceEq, Int.reduceLT, Int.reduceLE, Int.reduceNeg, Int.reduceAdd, Int.reduceSub, Int.reduceMul, Int.reduceToNat, Nat.reduceMul, Nat.reduceSub, Nat.reduceLT, Nat.reduceLeDiff, circV, cbox, List.take_zero, Ws_nil] <;> rfl⟩ ?_ mono
  · rfl
  · rw [get_new, atCells_zero, tab_const]
  · intro j hj; simp [H.new, upd, Nat.ne_of_lt hj]
  rintro k st ⟨i, h1, rfl, hi', hnx, hat, hold, rfl⟩
  by_cases hlt : i < gs.length
  · have hget : (gs.map Gt.v)[i]? = some gs[i].v := by rw [List.getElem?_map, List.getElem?_eq_getElem hlt]; rfl
    have hgok := hc.gate i gs[i] (List.getElem?_eq_getElem hlt)
    have hvi := hvs.val i gs[i] (List.getElem?_eq_getElem hlt)
    have hlen : (vs.take i).length < 4294967296 := by rw [List.length_take]; omega
    have htk : vs.take (i + 1) = vs.take i ++ [vs[i]?.getD 0] := by
      rw [List.take_add_one]
      have : i < vs.length := by rw [hvs.len]; exact hlt
      rw [List.getElem?_eq_getElem this]; rfl
    have atv : ∀ a, a < i → (Ws (vs.take i))[a]? = some (W (vs.getD a 0)) ∧ vs.getD a 0 < p := by
      intro a ha
      have hal : a < vs.length := by rw [hvs.len]; omega
      have e1 : vs.getD a 0 = vs[a] := by rw [List.getD_eq_getElem?_getD, List.getElem?_eq_getElem hal]; rfl
      rw [e1]
      refine ⟨?_, hvs.lt _ (List.getElem_mem hal)⟩
      rw [Ws_get, List.getElem?_take, if_pos ha, List.getElem?_eq_getElem hal]; rfl
    generalize hgi : gs[i] = g at hget hgok hvi
    cases hgok with
    | inp f k e1 e2 e3 =>
      have hfl : f - 1 < ls.length := by
        have := hf.frm gs[i] (List.getElem_mem hlt) (by rw [hgi])
        rw [hgi] at this; simp only at this; omega
      obtain ⟨x, gx, wx⟩ := hxs (f - 1) hfl
      have wx1 : WordsAt h1 x ls[f - 1] := wx.frame (by omega) hold
      have xo := wx1.out
      have wf : IntKind.i64.wrap ((f : Int) - 1) = ((f - 1 : Nat) : Int) := by rw [wrap_i64] <;> omega
      have hcl : cnt (gs.take i) f < ls[f - 1].length := by
        rw [hf.len (f - 1) _ (List.getElem?_eq_getElem hfl), show f - 1 + 1 = f by omega]
        exact cnt_lt hlt hgi
      have hcl2 := cnt_le (gs := gs) (f := f) (i := i)
      obtain ⟨ptr2, r1, r2⟩ := wx1.idx hcl
      have wc : IntKind.i64.wrap ((cnt (gs.take i) f : Int) + 1) = ((cnt (gs.take i) f + 1 : Nat) : Int) := by rw [wrap_i64] <;> omega
      have hxa : (atCells gs ls.length i)[f - 1]? = some (I (cnt (gs.take i) f)) := by
        unfold atCells; rw [tab_get hfl, show f - 1 + 1 = f by omega]
      have hfi : ((f - 1 : Nat) : Int) < (ls.length : Int) := by omega
      have hlen2 : f - 1 + 1 ≤ (atCells gs ls.length i).length := by unfold atCells; rw [tab_len]; omega
      have hval : gval p ls (gs.take i) vs ⟨1, f, 0, 0, k⟩ = ls[f - 1][cnt (gs.take i) f] := by
        simp only [gval, if_true, Int.toNat_natCast]
        rw [List.getD_eq_getElem?_getD, List.getD_eq_getElem?_getD, List.getElem?_eq_getElem hfl, Option.getD_some, List.getElem?_eq_getElem hcl, Option.getD_some]
      rw [hval] at hvi
      simp -dsimp -implicitDefEqProofs only [↓STP, STQ, ne_eq, implies_true, forall_const, if_false, if_true, reduceCtorEq, ↓reduceIte, Nat.reduceEqDiff, Nat.reduceAdd, Int.reduceEq, Int.reduceLT, Int.reduceLE, Int.reduceNeg, Int.reduceAdd, Int.reduceSub, Int.reduceMul, Int.reduceToNat, Nat.reduceMul, Nat.reduceSub, Nat.reduceLT, Nat.reduceLeDiff, cbox, List.length_map, Int.ofNat_lt, hlt, hget, Gt.v, Gt.cells, storeV, hat, wf, gx, xo, hxa, hfi, r1, r2, wc, hlen2, Nat.mul_one]
      rw [app_w_own (by simp) hlen]
      simp -dsimp -implicitDefEqProofs only [↓STP, STQ, ne_eq, implies_true, forall_const, if_false, if_true, reduceCtorEq, ↓reduceIte, Nat.reduceEqDiff, Nat.reduceAdd, Int.reduceEq, Int.reduceLT, Int.reduceLE, Int.reduceNeg, Int.reduceAdd, Int.reduceSub, Int.reduceMul, Int.reduceToNat, Nat.reduceMul, Nat.reduceSub, Nat.reduceLT, Nat.reduceLeDiff, w1 (show i < 30000 by omega)]
      refine ⟨_, by omega, i + 1, _, rfl, by omega, ?_, ?_, ?_, by rw [htk, hvi]; rfl⟩
      · exact hnx
      · rw [get_set, ← atCells_step hlt hgi e1, List.set_eq_take_append_cons_drop, if_pos (show f - 1 < _ by omega)]
        simp
      · intro j hj; rw [← hold j hj]; simp [H.set, upd, Nat.ne_of_lt hj]
    | const k e1 =>
      have hval : gval p ls (gs.take i) vs ⟨2, 0, 0, 0, k⟩ = k := rfl
      rw [hval] at hvi
      simp -dsimp -implicitDefEqProofs only [↓STP, STQ, ne_eq, implies_true, forall_const, if_false, if_true, reduceCtorEq, ↓reduceIte, Nat.reduceEqDiff, Nat.reduceAdd, Int.reduceEq, Int.reduceLT, Int.reduceLE, Int.reduceNeg, Int.reduceAdd, Int.reduceSub, Int.reduceMul, Int.reduceToNat, Nat.reduceMul, Nat.reduceSub, Nat.reduceLT, Nat.reduceLeDiff, cbox, List.length_map, Int.ofNat_lt, hlt, hget, Gt.v, Gt.cells, storeV, hat]
      rw [app_w_own (by simp) hlen]
      simp -dsimp -implicitDefEqProofs only [↓STP, STQ, ne_eq, implies_true, forall_const, if_false, if_true, reduceCtorEq, ↓reduceIte, Nat.reduceEqDiff, Nat.reduceAdd, Int.reduceEq, Int.reduceLT, Int.reduceLE, Int.reduceNeg, Int.reduceAdd, Int.reduceSub, Int.reduceMul, Int.reduceToNat, Nat.reduceMul, Nat.reduceSub, Nat.reduceLT, Nat.reduceLeDiff, w1 (show i < 30000 by omega)]
      exact ⟨_, by omega, i + 1, h1, rfl, by omega, hnx, by rw [hat, atCells_same hlt (by rw [hgi]; simp)], hold, by rw [htk, hvi]; rfl⟩
    | add a b e1 e2 =>
      obtain ⟨ga, la⟩ := atv a e1
      obtain ⟨gb, lb⟩ := atv b e2
      have hval : gval p ls (gs.take i) vs ⟨3, 0, a, b, 0⟩ = (vs.getD a 0 + vs.getD b 0) % p := rfl
      rw [hval] at hvi
      simp -dsimp -implicitDefEqProofs only [↓STP, STQ, ne_eq, implies_true, forall_const, if_false, if_true, reduceCtorEq, ↓reduceIte, Nat.reduceEqDiff, Nat.reduceAdd, Int.reduceEq, Int.reduceLT, Int.reduceLE, Int.reduceNeg, Int.reduceAdd, Int.reduceSub, Int.reduceMul, Int.reduceToNat, Nat.reduceMul, Nat.reduceSub, Nat.reduceLT, Nat.reduceLeDiff, cbox, List.length_map, Int.ofNat_lt, hlt, hget, Gt.v, Gt.cells, storeV, hat, ga, gb]
      refine radd_spec hp0 (by omega) ?_
      simp -dsimp -implicitDefEqProofs only [↓STP, STQ, ne_eq, implies_true, forall_const, if_false, if_true, reduceCtorEq, ↓reduceIte, Nat.reduceEqDiff, Nat.reduceAdd, Int.reduceEq, Int.reduceLT, Int.reduceLE, Int.reduceNeg, Int.reduceAdd, Int.reduceSub, Int.reduceMul, Int.reduceToNat, Nat.reduceMul, Nat.reduceSub, Nat.reduceLT, Nat.reduceLeDiff]
      rw [app_w_own (by simp) hlen]
      simp -dsimp -implicitDefEqProofs only [↓STP, STQ, ne_eq, implies_true, forall_const, if_false, if_true, reduceCtorEq, ↓reduceIte, Nat.reduceEqDiff, Nat.reduceAdd, Int.reduceEq, Int.reduceLT, Int.reduceLE, Int.reduceNeg, Int.reduceAdd, Int.reduceSub, Int.reduceMul, Int.reduceToNat, Nat.reduceMul, Nat.reduceSub, Nat.reduceLT, Nat.reduceLeDiff, w1 (show i < 30000 by omega)]
      exact ⟨_, by omega, i + 1, h1, rfl, by omega, hnx, by rw [hat, atCells_same hlt (by rw [hgi]; simp)], hold, by rw [htk, hvi]; rfl⟩
    | sub a b e1 e2 =>
      obtain ⟨ga, la⟩ := atv a e1
      obtain ⟨gb, lb⟩ := atv b e2
      have hval : gval p ls (gs.take i) vs ⟨4, 0, a, b, 0⟩ = (vs.getD a 0 + p - vs.getD b 0) % p := rfl
      rw [hval] at hvi
      simp -dsimp -implicitDefEqProofs only [↓STP, STQ, ne_eq, implies_true, forall_const, if_false, if_true, reduceCtorEq, ↓reduceIte, Nat.reduceEqDiff, Nat.reduceAdd, Int.reduceEq, Int.reduceLT, Int.reduceLE, Int.reduceNeg, Int.reduceAdd, Int.reduceSub, Int.reduceMul, Int.reduceToNat, Nat.reduceMul, Nat.reduceSub, Nat.reduceLT, Nat.reduceLeDiff, cbox, List.length_map, Int.ofNat_lt, hlt, hget, Gt.v, Gt.cells, storeV, hat, ga, gb]
      refine rsub_spec hp0 (by omega) (by omega) ?_
      simp -dsimp -implicitDefEqProofs only [↓STP, STQ, ne_eq, implies_true, forall_const, if_false, if_true, reduceCtorEq, ↓reduceIte, Nat.reduceEqDiff, Nat.reduceAdd, Int.reduceEq, Int.reduceLT, Int.reduceLE, Int.reduceNeg, Int.reduceAdd, Int.reduceSub, Int.reduceMul, Int.reduceToNat, Nat.reduceMul, Nat.reduceSub, Nat.reduceLT, Nat.reduceLeDiff]
      rw [app_w_own (by simp) hlen]
      simp -dsimp -implicitDefEqProofs only [↓STP, STQ, ne_eq, implies_true, forall_const, if_false, if_true, reduceCtorEq, ↓reduceIte, Nat.reduceEqDiff, Nat.reduceAdd, Int.reduceEq, Int.reduceLT, Int.reduceLE, Int.reduceNeg, Int.reduceAdd, Int.reduceSub, Int.reduceMul, Int.reduceToNat, Nat.reduceMul, Nat.reduceSub, Nat.reduceLT, Nat.reduceLeDiff, w1 (show i < 30000 by omega)]
      exact ⟨_, by omega, i + 1, h1, rfl, by omega, hnx, by rw [hat, atCells_same hlt (by rw [hgi]; simp)], hold, by rw [htk, hvi]; rfl⟩
    | scale k a e1 e2 =>
      obtain ⟨ga, la⟩ := atv a e2
      have hval : gval p ls (gs.take i) vs ⟨5, 0, a, 0, k⟩ = k * vs.getD a 0 % p := rfl
      rw [hval] at hvi
      simp -dsimp -implicitDefEqProofs only [↓STP, STQ, ne_eq, implies_true, forall_const, if_false, if_true, reduceCtorEq, ↓reduceIte, Nat.reduceEqDiff, Nat.reduceAdd, Int.reduceEq, Int.reduceLT, Int.reduceLE, Int.reduceNeg, Int.reduceAdd, Int.reduceSub, Int.reduceMul, Int.reduceToNat, Nat.reduceMul, Nat.reduceSub, Nat.reduceLT, Nat.reduceLeDiff, cbox, List.length_map, Int.ofNat_lt, hlt, hget, Gt.v, Gt.cells, storeV, hat, ga]
      refine rmul_spec (by omega) e1 (by omega) ?_
      simp -dsimp -implicitDefEqProofs only [↓STP, STQ, ne_eq, implies_true, forall_const, if_false, if_true, reduceCtorEq, ↓reduceIte, Nat.reduceEqDiff, Nat.reduceAdd, Int.reduceEq, Int.reduceLT, Int.reduceLE, Int.reduceNeg, Int.reduceAdd, Int.reduceSub, Int.reduceMul, Int.reduceToNat, Nat.reduceMul, Nat.reduceSub, Nat.reduceLT, Nat.reduceLeDiff]
      rw [app_w_own (by simp) hlen]
      simp -dsimp -implicitDefEqProofs only [↓STP, STQ, ne_eq, implies_true, forall_const, if_false, if_true, reduceCtorEq, ↓reduceIte, Nat.reduceEqDiff, Nat.reduceAdd, Int.reduceEq, Int.reduceLT, Int.reduceLE, Int.reduceNeg, Int.reduceAdd, Int.reduceSub, Int.reduceMul, Int.reduceToNat, Nat.reduceMul, Nat.reduceSub, Nat.reduceLT, Nat.reduceLeDiff, w1 (show i < 30000 by omega)]
      exact ⟨_, by omega, i + 1, h1, rfl, by omega, hnx, by rw [hat, atCells_same hlt (by rw [hgi]; simp)], hold, by rw [htk, hvi]; rfl⟩
    | mul a b e1 e2 =>
      obtain ⟨ga, la⟩ := atv a e1
      obtain ⟨gb, lb⟩ := atv b e2
      have hval : gval p ls (gs.take i) vs ⟨6, 0, a, b, 0⟩ = vs.getD a 0 * vs.getD b 0 % p := rfl
      rw [hval] at hvi
      simp -dsimp -implicitDefEqProofs only [↓STP, STQ, ne_eq, implies_true, forall_const, if_false, if_true, reduceCtorEq, ↓reduceIte, Nat.reduceEqDiff, Nat.reduceAdd, Int.reduceEq, Int.reduceLT, Int.reduceLE, Int.reduceNeg, Int.reduceAdd, Int.reduceSub, Int.reduceMul, Int.reduceToNat, Nat.reduceMul, Nat.reduceSub, Nat.reduceLT, Nat.reduceLeDiff, cbox, List.length_map, Int.ofNat_lt, hlt, hget, Gt.v, Gt.cells, storeV, hat, ga, gb]
      refine rmul_spec (by omega) la (by omega) ?_
      simp -dsimp -implicitDefEqProofs only [↓STP, STQ, ne_eq, implies_true, forall_const, if_false, if_true, reduceCtorEq, ↓reduceIte, Nat.reduceEqDiff, Nat.reduceAdd, Int.reduceEq, Int.reduceLT, Int.reduceLE, Int.reduceNeg, Int.reduceAdd, Int.reduceSub, Int.reduceMul, Int.reduceToNat, Nat.reduceMul, Nat.reduceSub, Nat.reduceLT, Nat.reduceLeDiff]
      rw [app_w_own (by simp) hlen]
      simp -dsimp -implicitDefEqProofs only [↓STP, STQ, ne_eq, implies_true, forall_const, if_false, if_true, reduceCtorEq, ↓reduceIte, Nat.reduceEqDiff, Nat.reduceAdd, Int.reduceEq, Int.reduceLT, Int.reduceLE, Int.reduceNeg, Int.reduceAdd, Int.reduceSub, Int.reduceMul, Int.reduceToNat, Nat.reduceMul, Nat.reduceSub, Nat.reduceLT, Nat.reduceLeDiff, w1 (show i < 30000 by omega)]
      exact ⟨_, by omega, i + 1, h1, rfl, by omega, hnx, by rw [hat, atCells_same hlt (by rw [hgi]; simp)], hold, by rw [htk, hvi]; rfl⟩
  · have him : i = gs.length := by omega
    have hfin : vs.take i = vs := List.take_of_length_le (by rw [hvs.len]; omega)
    rw [hfin]
    simp -dsimp -implicitDefEqProofs only [↓STP, STQ, ne_eq, implies_true, forall_const, if_false, if_true, reduceCtorEq, ↓reduceIte, Nat.reduceEqDiff, Nat.reduceAdd, Int.reduceEq, Int.reduceLT, Int.reduceLE, Int.reduceNeg, Int.reduceAdd, Int.reduceSub, Int.reduceMul, Int.reduceToNat, Nat.reduceMul, Nat.reduceSub, Nat.reduceLT, Nat.reduceLeDiff, cbox, List.length_map, Int.ofNat_lt, hlt]
    exact hK h1 (by omega) (fun j hj => by rw [hold j (by omega), ho2 j hj])

/-- The outputs. -/
def outVals (vs : List Nat) (outs : List Int) : List Nat := outs.map fun o => vs.getD o.toNat 0

def InvO (p : Nat) (gs : List Gt) (outs : List Int) (vs : List Nat) (h : H) (k : Nat) (st : S) : Prop :=
  ∃ i : Nat, k = outs.length - i ∧ i ≤ outs.length ∧
    st = ⟨upd (upd (upd (upd ρ0 2 (.lptr 0 3 0)) 6 (.vec (Ws vs) .any)) 8 (.vec (Ws (outVals vs (outs.take i))) (.own 1))) 9 (I i), upd m0 0 (some (cbox p gs outs)), 2, [], h⟩

theorem eval_spec (hv : circF p gs outs v) (hc : Circ p q gs outs) (hf : FitsC p gs ls) (hb : BitsOK gs ls) (hi : ListsAt h iv ls) (hvs : Vals p ls gs vs)
    (hK : ∀ h', h.next ≤ h'.next → (∀ j, j < h.next → h'.objs j = h.objs j) → K (.ret (.tuple [.vec (Ws (outVals vs outs)) .any, I 0])) h') : R 47 [v, iv] h K := by
  have hv0 := hv
  subst hv
  have hlo := hc.lo
  have hlg := hc.lg
  have o := hi.out
  have w1 : ∀ {i : Nat}, i < 30000 → IntKind.i64.wrap ((i : Int) + 1) = ((i + 1 : Nat) : Int) := fun hi => by rw [wrap_i64] <;> omega
  refine run47 (Nat.le_of_ble_eq_true rfl) ?_
  simp -dsimp -implicitDefEqProofs only [↓STP, STQ, ne_eq, implies_true, forall_const, if_false, if_true, reduceCtorEq, ↓reduceIte, Nat.reduceEqDiff, Nat.reduceAdd, Int.reduceEq, Int.reduceLT, Int.reduceLE, Int.reduceNeg, Int.reduceAdd, Int.reduceSub, Int.reduceMul, Int.reduceToNat, Nat.reduceMul, Nat.reduceSub, Nat.reduceLT, Nat.reduceLeDiff, circV, ir47, o]
  refine evalG_spec hv0 hc hf hb hi hvs fun h2 hn2 ho2 => ?_
  simp -dsimp -implicitDefEqProofs only [↓STP, STQ, ne_eq, implies_true, forall_const, if_false, if_true, reduceCtorEq, ↓reduceIte, Nat.reduceEqDiff, Nat.reduceAdd, Int.reduceEq, Int.reduceLT, Int.reduceLE, Int.reduceNeg, Int.reduceAdd, Int.reduceSub, Int.reduceMul, Int.reduceToNat, Nat.reduceMul, Nat.reduceSub, Nat.reduceLT, Nat.reduceLeDiff]
  refine codeT_loop (InvO p gs outs vs h2) (i := outs.length) ⟨0, by omega, by omega, ?_⟩ ?_ mono
  · simp -dsimp -implicitDefEqProofs only [↓STP, STQ, ne_eq, implies_true, forall_const, if_false, if_true, reduceCtorEq, ↓reduceIte, Nat.reduceEqDiff, Nat.reduceAdd, Int.reduceEq, Int.reduceLT, Int.reduceLE, Int.reduceNeg, Int.reduceAdd, Int.reduceSub, Int.reduceMul, Int.reduceToNat, Nat.reduceMul, Nat.reduceSub, Nat.reduceLT, Nat.reduceLeDiff, circV, cbox, List.take_zero, outVals, Ws_nil] <;> rfl
  rintro k st ⟨i, rfl, hi', rfl⟩
  by_cases hlt : i < outs.length
  · have hget : (outs.map I)[i]? = some (I outs[i]) := by rw [List.getElem?_map, List.getElem?_eq_getElem hlt]; rfl
    have ho := hc.out outs[i] (List.getElem_mem hlt)
    obtain ⟨a, ha⟩ : ∃ a : Nat, outs[i] = a := ⟨outs[i].toNat, by omega⟩
    have hal : a < vs.length := by rw [hvs.len]; omega
    have hgv : (Ws vs)[a]? = some (W vs[a]) := by rw [Ws_get, List.getElem?_eq_getElem hal]; rfl
    have htk : outVals vs (outs.take (i + 1)) = outVals vs (outs.take i) ++ [vs[a]] := by
      unfold outVals
      rw [List.take_add_one, List.getElem?_eq_getElem hlt, List.map_append, ha]
      simp [List.getElem?_eq_getElem hal]
    have hlen : (outVals vs (outs.take i)).length < 4294967296 := by unfold outVals; rw [List.length_map, List.length_take]; omega
    rw [ha] at hget
    simp -dsimp -implicitDefEqProofs only [↓STP, STQ, ne_eq, implies_true, forall_const, if_false, if_true, reduceCtorEq, ↓reduceIte, Nat.reduceEqDiff, Nat.reduceAdd, Int.reduceEq, Int.reduceLT, Int.reduceLE, Int.reduceNeg, Int.reduceAdd, Int.reduceSub, Int.reduceMul, Int.reduceToNat, Nat.reduceMul, Nat.reduceSub, Nat.reduceLT, Nat.reduceLeDiff, cbox, List.length_map, Int.ofNat_lt, hlt, hget, hgv]
    rw [app_w_own (by simp) hlen]
    simp -dsimp -implicitDefEqProofs only [↓STP, STQ, ne_eq, implies_true, forall_const, if_false, if_true, reduceCtorEq, ↓reduceIte, Nat.reduceEqDiff, Nat.reduceAdd, Int.reduceEq, Int.reduceLT, Int.reduceLE, Int.reduceNeg, Int.reduceAdd, Int.reduceSub, Int.reduceMul, Int.reduceToNat, Nat.reduceMul, Nat.reduceSub, Nat.reduceLT, Nat.reduceLeDiff, w1 (show i < 30000 by omega)]
    exact ⟨_, by omega, i + 1, rfl, by omega, by rw [htk]; rfl⟩
  · have hfin : outs.take i = outs := List.take_of_length_le (by omega)
    rw [hfin]
    simp -dsimp -implicitDefEqProofs only [↓STP, STQ, ne_eq, implies_true, forall_const, if_false, if_true, reduceCtorEq, ↓reduceIte, Nat.reduceEqDiff, Nat.reduceAdd, Int.reduceEq, Int.reduceLT, Int.reduceLE, Int.reduceNeg, Int.reduceAdd, Int.reduceSub, Int.reduceMul, Int.reduceToNat, Nat.reduceMul, Nat.reduceSub, Nat.reduceLT, Nat.reduceLeDiff, cbox, List.length_map, Int.ofNat_lt, hlt]
    exact hK h2 hn2 ho2

end
end Go.Ab.Ytgfnhkedfmnijaa
