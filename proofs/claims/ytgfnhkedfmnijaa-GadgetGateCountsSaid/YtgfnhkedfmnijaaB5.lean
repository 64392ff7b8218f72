/- The circuit builder: rows of input bits; the reference's words, products counted. -/
import Derived.Test.YtgfnhkedfmnijaaB4
import Derived.Test.YtgfnhkedfmnijaaAb32
set_option linter.unusedVariables false
set_option linter.unusedSimpArgs false
namespace Go.Ab.Ytgfnhkedfmnijaa

section
variable {h : H} {K : Out → H → Prop} {id p q : Nat} {F : Nat → Prop} {gs : List Gt} {vs : List Nat} {outs : List Int} {ls : List (List Nat)} {xs : List Nat}

/-- Inputs of one party are added: the values 'ws'. -/
structure GrewN (p q : Nat) (ls : List (List Nat)) (gs : List Gt) (vs : List Nat) (f : Nat) (ws : List Nat) (gs' : List Gt) (vs' : List Nat) : Prop where
  good : Rgt p q ls gs' vs'
  pre : ∀ i, i < gs.length → vs'.getD i 0 = vs.getD i 0
  len : gs'.length = gs.length + ws.length
  mul : muls gs' = muls gs
  inp : ∀ g, cnt gs' g = cnt gs g + if g = f then ws.length else 0
  val : ∀ j, (hj : j < ws.length) → vs'.getD (gs.length + j) 0 = ws[j]

theorem GrewN.nil {f : Nat} (hg : Rgt p q ls gs vs) : GrewN p q ls gs vs f [] gs vs := ⟨hg, fun _ _ => rfl, rfl, rfl, fun g => by split <;> rfl, fun j hj => by simp at hj⟩
theorem GrewN.snoc {f x : Nat} {ws : List Nat} {g1 g2 : List Gt} {v1 v2 : List Nat} (a : GrewN p q ls gs vs f ws g1 v1) (b : GrewI p q ls g1 v1 f x g2 v2) : GrewN p q ls gs vs f (ws ++ [x]) g2 v2 := by
  refine ⟨b.good, fun i hi => by rw [b.pre i (by rw [a.len]; omega), a.pre i hi], by rw [b.len, a.len]; simp; omega, by rw [b.mul, a.mul], fun g => ?_, fun j hj => ?_⟩
  · rw [b.inp, a.inp]
    by_cases h : g = f <;> simp [h]; omega
  · rcases Nat.lt_trichotomy j ws.length with h | h | h
    · rw [b.pre _ (by rw [a.len]; omega), a.val j h, List.getElem_append_left h]
    · subst h
      have := b.val
      rw [a.len] at this
      rw [this]; simp
    · simp at hj; omega

def InvIns (id p q : Nat) (ls : List (List Nat)) (gs : List Gt) (vs : List Nat) (outs : List Int) (f : Nat) (ws : List Nat) (h : H) (F : Nat → Prop) (k : Nat) (st : S) : Prop :=
  ∃ (j : Nat) (h1 : H) (F1 : Nat → Prop) (g1 : List Gt) (v1 : List Nat), k = ws.length - j ∧ j ≤ ws.length ∧ BuAt h1 id F1 p g1 outs ∧ Evo h F h1 F1 ∧ GrewN p q ls gs vs f (ws.take j) g1 v1 ∧
    st = ⟨upd (upd (upd (upd (upd ρ0 0 (.ptr id 0)) 1 (I f)) 2 (I ws.length)) 7 (.vec (Xs (List.range' gs.length j)) (.own 0))) 8 (I j), m0, 1, [], h1⟩

theorem Xs_cells {l : List Nat} : ∀ e ∈ Xs l, e.cells.length = 1 := by
  intro e he
  obtain ⟨x, _, rfl⟩ := List.mem_map.1 he
  rfl
theorem Xs_snoc {l : List Nat} {x : Nat} : Xs l ++ [V.int .i64 (x : Int)] = Xs (l ++ [x]) := by simp [Xs]

theorem ins_g {f : Nat} {ws : List Nat} (b : Bd h id F p q ls gs vs outs) (hf : gs.length < 90000) (hw : ws.length ≤ 100) (h1 : 1 ≤ f) (h2 : f ≤ 13) (hx : ∀ j, (hj : j < ws.length) → (ls.getD (f - 1) [])[cnt gs f + j]? = some ws[j]) (hb : ∀ w ∈ ws, w ≤ 1)
    (hK : ∀ h' F' gs' vs', BuAt h' id F' p gs' outs → Evo h F h' F' → GrewN p q ls gs vs f ws gs' vs' → K (.ret (.vec (Xs (List.range' gs.length ws.length)) .any)) h') : R 26 [.ptr id 0, I f, I ws.length] h K := by
  have hp := b.good.p0
  have hp1 : 1 < p := by rcases b.good.sup with ⟨rfl, _⟩ | ⟨rfl, _⟩ | ⟨rfl, _⟩ | ⟨rfl, _⟩ | ⟨rfl, _⟩ | ⟨rfl, _⟩ | ⟨rfl, _⟩ <;> decide
  refine run26 (Nat.le_of_ble_eq_true rfl) ?_
  simp -dsimp -implicitDefEqProofs only [↓STP, STQ, ne_eq, implies_true, forall_const, if_false, if_true, reduceCtorEq, ↓reduceIte, Nat.reduceEqDiff, Nat.reduceAdd, Int.reduceEq, Int.reduceLT, Int.reduceLE, Int.reduceNeg, Int.reduceAdd, Int.reduceSub, Int.reduceMul, Int.reduceToNat, Nat.reduceMul, Nat.reduceSub, Nat.reduceLT, Nat.reduceLeDiff, ir26]
  refine codeT_loop (InvIns id p q ls gs vs outs f ws h F) (i := ws.length) ⟨0, h, F, gs, vs, rfl, by omega, b.at_, Evo.refl _ _, by rw [List.take_zero]; exact GrewN.nil b.good, by simp -dsimp -implicitDefEqProofs only [↓STP, STQ, ne_eq, implies_true, forall_const, if_false, if_true, reduceCtorEq, ↓reduceIte, Nat.reduceEqDiff, Nat.reduceAdd, Int.reduceEq, Int.reduceLT, Int.reduceLE, Int.reduceNeg, Int.reduceAdd, Int.reduceSub, Int.reduceMul, Int.reduceToNat, Nat.reduceMul, Nat.reduceSub, Nat.reduceLT, Nat.reduceLeDiff] <;> rfl⟩ ?_ mono
  rintro k st ⟨j, h3, F3, g3, v3, rfl, hj, b3, e3, w3, rfl⟩
  by_cases hlt : j < ws.length
  · have wj : IntKind.i64.wrap ((j : Int) + 1) = ((j + 1 : Nat) : Int) := by rw [wrap_i64] <;> omega
    have hl3 : g3.length = gs.length + j := by rw [w3.len, List.length_take]; omega
    have hws := hb _ (List.getElem_mem hlt)
    have hget : (ls.getD (f - 1) [])[cnt g3 f]? = some ws[j] := by
      rw [w3.inp, if_pos rfl, List.length_take, Nat.min_eq_left hj]; exact hx j hlt
    have hlen : (Xs (List.range' gs.length j)).length < 4294967296 := by rw [Xs_len, List.length_range']; omega
    have nxt : ∀ h4 F4 g4 v4, BuAt h4 id F4 p g4 outs → Evo h3 F3 h4 F4 → GrewI p q ls g3 v3 f ws[j] g4 v4 → InvIns id p q ls gs vs outs f ws h F (ws.length - (j + 1)) ⟨upd (upd (upd (upd (upd ρ0 0 (.ptr id 0)) 1 (I f)) 2 (I ws.length)) 7 (.vec (Xs (List.range' gs.length j) ++ [V.int .i64 (g3.length : Int)]) (.own 0))) 8 (I ((j + 1 : Nat) : Int)), m0, 1, [], h4⟩ := by
      intro h4 F4 g4 v4 b4 e4 w4
      refine ⟨j + 1, h4, F4, g4, v4, rfl, by omega, b4, e3.trans e4, ?_, ?_⟩
      · rw [List.take_add_one, List.getElem?_eq_getElem hlt]; exact w3.snoc w4
      · rw [Xs_snoc, hl3, ← List.range'_1_concat]
    simp -dsimp -implicitDefEqProofs only [↓STP, STQ, ne_eq, implies_true, forall_const, if_false, if_true, reduceCtorEq, ↓reduceIte, Nat.reduceEqDiff, Nat.reduceAdd, Int.reduceEq, Int.reduceLT, Int.reduceLE, Int.reduceNeg, Int.reduceAdd, Int.reduceSub, Int.reduceMul, Int.reduceToNat, Nat.reduceMul, Nat.reduceSub, Nat.reduceLT, Nat.reduceLeDiff, Int.ofNat_lt, hlt]
    refine input_g (bit := true) ⟨b3, w3.good, by omega⟩ h1 h2 hget (by omega) (fun _ => hws) fun h4 F4 g4 v4 b4 e4 w4 => ?_
    simp -dsimp -implicitDefEqProofs only [↓STP, STQ, ne_eq, implies_true, forall_const, if_false, if_true, reduceCtorEq, ↓reduceIte, Nat.reduceEqDiff, Nat.reduceAdd, Int.reduceEq, Int.reduceLT, Int.reduceLE, Int.reduceNeg, Int.reduceAdd, Int.reduceSub, Int.reduceMul, Int.reduceToNat, Nat.reduceMul, Nat.reduceSub, Nat.reduceLT, Nat.reduceLeDiff]
    rw [app1_own (by simp) Xs_cells rfl (by decide) (by decide) hlen]
    simp -dsimp -implicitDefEqProofs only [↓STP, STQ, ne_eq, implies_true, forall_const, if_false, if_true, reduceCtorEq, ↓reduceIte, Nat.reduceEqDiff, Nat.reduceAdd, Int.reduceEq, Int.reduceLT, Int.reduceLE, Int.reduceNeg, Int.reduceAdd, Int.reduceSub, Int.reduceMul, Int.reduceToNat, Nat.reduceMul, Nat.reduceSub, Nat.reduceLT, Nat.reduceLeDiff, wj]
    exact ⟨_, by omega, nxt h4 F4 g4 v4 b4 e4 w4⟩
  · have hjl : j = ws.length := by omega
    rw [List.take_of_length_le (by omega)] at w3
    simp -dsimp -implicitDefEqProofs only [↓STP, STQ, ne_eq, implies_true, forall_const, if_false, if_true, reduceCtorEq, ↓reduceIte, Nat.reduceEqDiff, Nat.reduceAdd, Int.reduceEq, Int.reduceLT, Int.reduceLE, Int.reduceNeg, Int.reduceAdd, Int.reduceSub, Int.reduceMul, Int.reduceToNat, Nat.reduceMul, Nat.reduceSub, Nat.reduceLT, Nat.reduceLeDiff, Int.ofNat_lt, hlt]
    rw [hjl]
    exact hK h3 F3 g3 v3 b3 e3 w3

def InvWo (l : List Bool) (h : H) (k : Nat) (st : S) : Prop :=
  ∃ j : Nat, k = l.length - j ∧ j ≤ l.length ∧ st = ⟨upd (upd (upd ρ0 0 (.vec (Bs l) .any)) 3 (.vec (Ws ((l.take j).map Bool.toNat)) (.own 0))) 4 (I j), m0, 1, [], h⟩

theorem words_spec {l : List Bool} (hl : l.length ≤ 1000) (hK : K (.ret (.vec (Ws (l.map Bool.toNat)) .any)) h) : R 27 [.vec (Bs l) .any] h K := by
  refine run27 (Nat.le_of_ble_eq_true rfl) ?_
  simp -dsimp -implicitDefEqProofs only [↓STP, STQ, ne_eq, implies_true, forall_const, if_false, if_true, reduceCtorEq, ↓reduceIte, Nat.reduceEqDiff, Nat.reduceAdd, Int.reduceEq, Int.reduceLT, Int.reduceLE, Int.reduceNeg, Int.reduceAdd, Int.reduceSub, Int.reduceMul, Int.reduceToNat, Nat.reduceMul, Nat.reduceSub, Nat.reduceLT, Nat.reduceLeDiff, ir27]
  refine codeT_loop (InvWo l h) (i := l.length) ⟨0, by omega, by omega, by simp -dsimp -implicitDefEqProofs only [↓STP, STQ, ne_eq, implies_true, forall_const, if_false, if_true, reduceCtorEq, ↓reduceIte, Nat.reduceEqDiff, Nat.reduceAdd, Int.reduceEq, Int.reduceLT, Int.reduceLE, Int.reduceNeg, Int.reduceAdd, Int.reduceSub, Int.reduceMul, Int.reduceToNat, Nat.reduceMul, Nat.reduceSub, Nat.reduceLT, Nat.reduceLeDiff, List.take_zero, Ws_nil] <;> rfl⟩ ?_ mono
  rintro k st ⟨j, rfl, hj, rfl⟩
  by_cases hlt : j < l.length
  · have wj : IntKind.i64.wrap ((j : Int) + 1) = ((j + 1 : Nat) : Int) := by rw [wrap_i64] <;> omega
    have hget : (Bs l)[j]? = some (.bool l[j]) := by rw [Bs_get, List.getElem?_eq_getElem hlt]; rfl
    have hlen : ((l.take j).map Bool.toNat).length < 4294967296 := by rw [List.length_map, List.length_take]; omega
    have htk : (l.take (j + 1)).map Bool.toNat = (l.take j).map Bool.toNat ++ [l[j].toNat] := by rw [List.take_add_one, List.getElem?_eq_getElem hlt, List.map_append]; rfl
    cases hb : l[j] with
    | true =>
      rw [hb] at hget htk
      simp -dsimp -implicitDefEqProofs only [↓STP, STQ, ne_eq, implies_true, forall_const, if_false, if_true, reduceCtorEq, ↓reduceIte, Nat.reduceEqDiff, Nat.reduceAdd, Int.reduceEq, Int.reduceLT, Int.reduceLE, Int.reduceNeg, Int.reduceAdd, Int.reduceSub, Int.reduceMul, Int.reduceToNat, Nat.reduceMul, Nat.reduceSub, Nat.reduceLT, Nat.reduceLeDiff, Bs_length, Int.ofNat_lt, hlt, hget]
      rw [show (V.int .u64 1) = V.int .u64 ((1 : Nat) : Int) from rfl, app_w_own (by simp) hlen]
      simp -dsimp -implicitDefEqProofs only [↓STP, STQ, ne_eq, implies_true, forall_const, if_false, if_true, reduceCtorEq, ↓reduceIte, Nat.reduceEqDiff, Nat.reduceAdd, Int.reduceEq, Int.reduceLT, Int.reduceLE, Int.reduceNeg, Int.reduceAdd, Int.reduceSub, Int.reduceMul, Int.reduceToNat, Nat.reduceMul, Nat.reduceSub, Nat.reduceLT, Nat.reduceLeDiff, wj]
      exact ⟨_, by omega, j + 1, rfl, by omega, by rw [htk]; rfl⟩
    | false =>
      rw [hb] at hget htk
      simp -dsimp -implicitDefEqProofs only [↓STP, STQ, ne_eq, implies_true, forall_const, if_false, if_true, reduceCtorEq, ↓reduceIte, Nat.reduceEqDiff, Nat.reduceAdd, Int.reduceEq, Int.reduceLT, Int.reduceLE, Int.reduceNeg, Int.reduceAdd, Int.reduceSub, Int.reduceMul, Int.reduceToNat, Nat.reduceMul, Nat.reduceSub, Nat.reduceLT, Nat.reduceLeDiff, Bs_length, Int.ofNat_lt, hlt, hget]
      rw [show (V.int .u64 0) = V.int .u64 ((0 : Nat) : Int) from rfl, app_w_own (by simp) hlen]
      simp -dsimp -implicitDefEqProofs only [↓STP, STQ, ne_eq, implies_true, forall_const, if_false, if_true, reduceCtorEq, ↓reduceIte, Nat.reduceEqDiff, Nat.reduceAdd, Int.reduceEq, Int.reduceLT, Int.reduceLE, Int.reduceNeg, Int.reduceAdd, Int.reduceSub, Int.reduceMul, Int.reduceToNat, Nat.reduceMul, Nat.reduceSub, Nat.reduceLT, Nat.reduceLeDiff, wj]
      exact ⟨_, by omega, j + 1, rfl, by omega, by rw [htk]; rfl⟩
  · have hjl : j = l.length := by omega
    rw [List.take_of_length_le (by omega)]
    simp -dsimp -implicitDefEqProofs only [↓STP, STQ, ne_eq, implies_true, forall_const, if_false, if_true, reduceCtorEq, ↓reduceIte, Nat.reduceEqDiff, Nat.reduceAdd, Int.reduceEq, Int.reduceLT, Int.reduceLE, Int.reduceNeg, Int.reduceAdd, Int.reduceSub, Int.reduceMul, Int.reduceToNat, Nat.reduceMul, Nat.reduceSub, Nat.reduceLT, Nat.reduceLeDiff, Bs_length, Int.ofNat_lt, hlt]
    exact hK

def InvMu (p : Nat) (gs : List Gt) (outs : List Int) (h : H) (k : Nat) (st : S) : Prop :=
  ∃ i : Nat, k = gs.length - i ∧ i ≤ gs.length ∧ st = ⟨upd (upd (upd ρ0 1 (.lptr 0 3 0)) 3 (I (muls (gs.take i)))) 4 (I i), upd m0 0 (some (cbox p gs outs)), 1, [], h⟩

theorem muls_le {gs : List Gt} {i : Nat} : muls (gs.take i) ≤ i := by
  unfold muls
  exact Nat.le_trans (List.length_filter_le _ _) (by simp; omega)

theorem muls_spec {v : V} (hv : circF p gs outs v) (hl : gs.length ≤ 20000) (hK : K (.ret (I (muls gs))) h) : R 33 [v] h K := by
  subst hv
  refine run33 (Nat.le_of_ble_eq_true rfl) ?_
  simp -dsimp -implicitDefEqProofs only [↓STP, STQ, ne_eq, implies_true, forall_const, if_false, if_true, reduceCtorEq, ↓reduceIte, Nat.reduceEqDiff, Nat.reduceAdd, Int.reduceEq, Int.reduceLT, Int.reduceLE, Int.reduceNeg, Int.reduceAdd, Int.reduceSub, Int.reduceMul, Int.reduceToNat, Nat.reduceMul, Nat.reduceSub, Nat.reduceLT, Nat.reduceLeDiff, circV, ir33]
  refine codeT_loop (InvMu p gs outs h) (i := gs.length) ⟨0, by omega, by omega, by simp -dsimp -implicitDefEqProofs only [↓STP, STQ, ne_eq, implies_true, forall_const, if_false, if_true, reduceCtorEq, ↓reduceIte, Nat.reduceEqDiff, Nat.reduceAdd, Int.reduceEq, Int.reduceLT, Int.reduceLE, Int.reduceNeg, Int.reduceAdd, Int.reduceSub, Int.reduceMul, Int.reduceToNat, Nat.reduceMul, Nat.reduceSub, Nat.reduceLT, Nat.reduceLeDiff, circV, cbox] <;> rfl⟩ ?_ mono
  rintro k st ⟨i, rfl, hi, rfl⟩
  by_cases hlt : i < gs.length
  · have hget : (gs.map Gt.v)[i]? = some gs[i].v := by rw [List.getElem?_map, List.getElem?_eq_getElem hlt]; rfl
    have hms : muls (gs.take (i + 1)) = muls (gs.take i) + if gs[i].kind = 6 then 1 else 0 := by
      rw [List.take_add_one, List.getElem?_eq_getElem hlt]; exact muls_app
    have hcl := muls_le (gs := gs) (i := i)
    have w1 : IntKind.i64.wrap ((i : Int) + 1) = ((i + 1 : Nat) : Int) := by rw [wrap_i64] <;> omega
    have w2 : IntKind.i64.wrap ((muls (gs.take i) : Int) + 1) = ((muls (gs.take i) + 1 : Nat) : Int) := by rw [wrap_i64] <;> omega
    by_cases e1 : gs[i].kind = 6
    · simp -dsimp -implicitDefEqProofs only [↓STP, STQ, ne_eq, implies_true, forall_const, if_false, if_true, reduceCtorEq, ↓reduceIte, Nat.reduceEqDiff, Nat.reduceAdd, Int.reduceEq, Int.reduceLT, Int.reduceLE, Int.reduceNeg, Int.reduceAdd, Int.reduceSub, Int.reduceMul, Int.reduceToNat, Nat.reduceMul, Nat.reduceSub, Nat.reduceLT, Nat.reduceLeDiff, cbox, List.length_map, Int.ofNat_lt, hlt, hget, Gt.v, Gt.cells, eq_true e1, w1, w2]
      refine ⟨_, by omega, i + 1, rfl, by omega, ?_⟩
      rw [hms, if_pos e1]; rfl
    · simp -dsimp -implicitDefEqProofs only [↓STP, STQ, ne_eq, implies_true, forall_const, if_false, if_true, reduceCtorEq, ↓reduceIte, Nat.reduceEqDiff, Nat.reduceAdd, Int.reduceEq, Int.reduceLT, Int.reduceLE, Int.reduceNeg, Int.reduceAdd, Int.reduceSub, Int.reduceMul, Int.reduceToNat, Nat.reduceMul, Nat.reduceSub, Nat.reduceLT, Nat.reduceLeDiff, cbox, List.length_map, Int.ofNat_lt, hlt, hget, Gt.v, Gt.cells, eq_false e1, w1]
      refine ⟨_, by omega, i + 1, rfl, by omega, ?_⟩
      rw [hms, if_neg e1]; rfl
  · simp -dsimp -implicitDefEqProofs only [↓STP, STQ, ne_eq, implies_true, forall_const, if_false, if_true, reduceCtorEq, ↓reduceIte, Nat.reduceEqDiff, Nat.reduceAdd, Int.reduceEq, Int.reduceLT, Int.reduceLE, Int.reduceNeg, Int.reduceAdd, Int.reduceSub, Int.reduceMul, Int.reduceToNat, Nat.reduceMul, Nat.reduceSub, Nat.reduceLT, Nat.reduceLeDiff, cbox, List.length_map, Int.ofNat_lt, hlt]
    rw [List.take_of_length_le (by omega)]
    exact hK

end
end Go.Ab.Ytgfnhkedfmnijaa
