/- The circuit builder: products of rows of bits. -/
import Derived.Test.YtgfnhkedfmnijaaB9
set_option linter.unusedVariables false
set_option linter.unusedSimpArgs false
namespace Go.Ab.Ytgfnhkedfmnijaa

section
variable {h : H} {K : Out → H → Prop} {id p q : Nat} {F : Nat → Prop} {gs : List Gt} {vs : List Nat} {outs : List Int} {ls : List (List Nat)} {xs : List Nat}

/-- What a while has left: at most 'M' products and 'N' gates more. -/
structure Gs (h0 : H) (F0 : Nat → Prop) (id p q : Nat) (ls : List (List Nat)) (gs : List Gt) (vs : List Nat) (outs : List Int) (M N : Nat) (h : H) (F : Nat → Prop) (g1 : List Gt) (v1 : List Nat) : Prop where
  bu : BuAt h id F p g1 outs
  ev : Evo h0 F0 h F
  gr : ∃ m n, m ≤ M ∧ n ≤ N ∧ Grew p q ls gs vs m n g1 v1

variable {M N : Nat} {h1 : H} {F1 : Nat → Prop} {g1 : List Gt} {v1 : List Nat}

theorem Gs.refl (b : BuAt h id F p gs outs) (g : Rgt p q ls gs vs) : Gs h F id p q ls gs vs outs 0 0 h F gs vs := ⟨b, Evo.refl _ _, 0, 0, Nat.le_refl _, Nat.le_refl _, Grew.refl g⟩
theorem Gs.good (s : Gs h F id p q ls gs vs outs M N h1 F1 g1 v1) : Rgt p q ls g1 v1 := let ⟨_, _, _, _, g⟩ := s.gr; g.good
theorem Gs.len (s : Gs h F id p q ls gs vs outs M N h1 F1 g1 v1) : gs.length ≤ g1.length ∧ g1.length ≤ gs.length + N := let ⟨_, n, _, hn, g⟩ := s.gr; by have := g.len; omega
theorem Gs.bd (s : Gs h F id p q ls gs vs outs M N h1 F1 g1 v1) (hf : gs.length + N < 100000) : Bd h1 id F1 p q ls g1 v1 outs := ⟨s.bu, s.good, by have := s.len; omega⟩
theorem Gs.pre (s : Gs h F id p q ls gs vs outs M N h1 F1 g1 v1) {i : Nat} (hi : i < gs.length) : v1.getD i 0 = vs.getD i 0 := let ⟨_, _, _, _, g⟩ := s.gr; g.pre i hi
theorem Gs.lt (s : Gs h F id p q ls gs vs outs M N h1 F1 g1 v1) {i : Nat} (hi : i < gs.length) : i < g1.length := by have := s.len; omega
theorem Gs.bits (s : Gs h F id p q ls gs vs outs M N h1 F1 g1 v1) {l : List Nat} (a : BitsAt gs vs l) : BitsAt g1 v1 l := fun x hx => ⟨s.lt (a x hx).1, by rw [s.pre (a x hx).1]; exact (a x hx).2⟩
theorem Gs.vals (s : Gs h F id p q ls gs vs outs M N h1 F1 g1 v1) {l : List Nat} (a : ∀ x ∈ l, x < gs.length) : (l.map fun x => v1.getD x 0) = l.map fun x => vs.getD x 0 := List.map_congr_left fun x hx => s.pre (a x hx)
theorem Gs.step (s : Gs h F id p q ls gs vs outs M N h1 F1 g1 v1) {h2 : H} {F2 : Nat → Prop} {g2 : List Gt} {v2 : List Nat} {m n : Nat} (b : BuAt h2 id F2 p g2 outs) (e : Evo h1 F1 h2 F2) (w : Grew p q ls g1 v1 m n g2 v2) :
    Gs h F id p q ls gs vs outs (M + m) (N + n) h2 F2 g2 v2 := ⟨b, s.ev.trans e, let ⟨m0, n0, a, b, g⟩ := s.gr; ⟨m0 + m, n0 + n, by omega, by omega, g.trans w⟩⟩
theorem Gs.trans (s : Gs h F id p q ls gs vs outs M N h1 F1 g1 v1) {h2 : H} {F2 : Nat → Prop} {g2 : List Gt} {v2 : List Nat} {m n : Nat} (t : Gs h1 F1 id p q ls g1 v1 outs m n h2 F2 g2 v2) :
    Gs h F id p q ls gs vs outs (M + m) (N + n) h2 F2 g2 v2 := ⟨t.bu, s.ev.trans t.ev, let ⟨m0, n0, a, b, g⟩ := s.gr; let ⟨m1, n1, c, d, g'⟩ := t.gr; ⟨m0 + m1, n0 + n1, by omega, by omega, g.trans g'⟩⟩
theorem Gs.weak (s : Gs h F id p q ls gs vs outs M N h1 F1 g1 v1) {M' N' : Nat} (hM : M ≤ M') (hN : N ≤ N') : Gs h F id p q ls gs vs outs M' N' h1 F1 g1 v1 := ⟨s.bu, s.ev, let ⟨m0, n0, a, b, g⟩ := s.gr; ⟨m0, n0, by omega, by omega, g⟩⟩

/-- How long the product so far is. -/
def mlen (la i : Nat) : Nat := if i = 0 then 0 else if i = 1 then la else la + i

theorem mlen_le (la i : Nat) : mlen la i ≤ la + i := by
  unfold mlen
  split
  · omega
  · split <;> omega

def InvMB (id p q : Nat) (ls : List (List Nat)) (gs : List Gt) (vs : List Nat) (outs : List Int) (lx ly : List Nat) (h : H) (F : Nat → Prop) (k : Nat) (st : S) : Prop :=
  ∃ (i : Nat) (h1 : H) (F1 : Nat → Prop) (g1 : List Gt) (v1 : List Nat) (out : List Nat), k = ly.length - i ∧ i ≤ ly.length ∧ Gs h F id p q ls gs vs outs (3 * lx.length * i) (10 * lx.length * i + 2 * i + (if i ≤ 1 then 0 else 1)) h1 F1 g1 v1 ∧
    BitsAt g1 v1 out ∧ out.length = mlen lx.length i ∧ number (out.map fun x => v1.getD x 0) = number (lx.map fun x => vs.getD x 0) * number ((ly.take i).map fun x => vs.getD x 0) ∧
    st = ⟨upd (upd (upd (upd (upd (upd (upd ρ0 0 (.ptr id 0)) 1 (.vec (Xs lx) .any)) 2 (.vec (Xs ly) .any)) 7 (.vec (Xs out) (.own 0))) 14 (.vec (Xs ly) .any)) 15 (I ly.length)) 16 (I i), m0, 1, [], h1⟩

def InvRow (id p q : Nat) (ls : List (List Nat)) (gs : List Gt) (vs : List Nat) (outs : List Int) (lx ly out : List Nat) (i y : Nat) (h : H) (F : Nat → Prop) (k : Nat) (st : S) : Prop :=
  ∃ (j : Nat) (h1 : H) (F1 : Nat → Prop) (g1 : List Gt) (v1 : List Nat) (row : List Nat), k = lx.length - j ∧ j ≤ lx.length ∧ Gs h F id p q ls gs vs outs j j h1 F1 g1 v1 ∧ row.length = j ∧ (∀ x ∈ row, x < g1.length) ∧
    (row.map fun x => v1.getD x 0) = ((lx.take j).map fun x => vs.getD x 0).map (fun x => x * vs.getD y 0) ∧
    st = ⟨upd (upd (upd (upd (upd (upd (upd (upd (upd (upd (upd (upd (upd ρ0 0 (.ptr id 0)) 1 (.vec (Xs lx) .any)) 2 (.vec (Xs ly) .any)) 7 (.vec (Xs out) (.own 0))) 8 (I i)) 9 (I y)) 10 (.vec (Xs row) (.own 1))) 14 (.vec (Xs ly) .any)) 15 (I ly.length)) 16 (I i)) 21 (.vec (Xs lx) .any)) 22 (I lx.length)) 23 (I j), m0, 2, [], h1⟩

def InvPad (id p q : Nat) (ls : List (List Nat)) (gs : List Gt) (vs : List Nat) (outs : List Int) (lx ly out row : List Nat) (i : Nat) (h : H) (F : Nat → Prop) (k : Nat) (st : S) : Prop :=
  ∃ (t : Nat) (h1 : H) (F1 : Nat → Prop) (g1 : List Gt) (v1 : List Nat) (zs : List Nat), k = i - (out.length + t) ∧ (t = 0 ∨ out.length + t ≤ i) ∧ Gs h F id p q ls gs vs outs 0 t h1 F1 g1 v1 ∧ zs.length = t ∧ (∀ x ∈ zs, x < g1.length ∧ v1.getD x 0 = 0) ∧
    st = ⟨upd (upd (upd (upd (upd (upd (upd (upd (upd ρ0 0 (.ptr id 0)) 1 (.vec (Xs lx) .any)) 2 (.vec (Xs ly) .any)) 7 (.vec (Xs (out ++ zs)) (.own 0))) 8 (I i)) 10 (.vec (Xs row) (.own 1))) 14 (.vec (Xs ly) .any)) 15 (I ly.length)) 16 (I i), m0, 2, [], h1⟩

def InvEnd (id p q : Nat) (ls : List (List Nat)) (gs : List Gt) (vs : List Nat) (outs : List Int) (out : List Nat) (n : Nat) (h : H) (F : Nat → Prop) (k : Nat) (st : S) : Prop :=
  ∃ (t : Nat) (h1 : H) (F1 : Nat → Prop) (g1 : List Gt) (v1 : List Nat) (zs : List Nat), k = n - (out.length + t) ∧ out.length + t ≤ n ∧ Gs h F id p q ls gs vs outs 0 t h1 F1 g1 v1 ∧ zs.length = t ∧ (∀ x ∈ zs, x < g1.length ∧ v1.getD x 0 = 0) ∧
    st = ⟨upd (upd (upd ρ0 0 (.ptr id 0)) 7 (.vec (Xs (out ++ zs)) (.own 0))) 13 (I n), m0, 1, [], h1⟩

theorem zerosVals {zs v1 : List Nat} (hz : ∀ x ∈ zs, v1.getD x 0 = 0) : (zs.map fun x => v1.getD x 0) = List.replicate zs.length 0 := by
  apply List.ext_getElem
  · simp
  · intro i h1 h2
    simp only [List.getElem_map, List.getElem_replicate]
    exact hz _ (List.getElem_mem _)

theorem padded {out zs v1 : List Nat} (hz : ∀ x ∈ zs, v1.getD x 0 = 0) : number ((out ++ zs).map fun x => v1.getD x 0) = number (out.map fun x => v1.getD x 0) := by
  rw [List.map_append, number_append, zerosVals hz, number_zeros]; omega

theorem Xs_elems {l : List Nat} : ∀ e ∈ Xs l, e.cells.length = 1 ∧ mkEl false e.cells = e := by
  intro e he
  obtain ⟨x, _, rfl⟩ := List.mem_map.1 he
  exact ⟨rfl, rfl⟩
theorem Xs_take {l : List Nat} {n : Nat} : (Xs l).take n = Xs (l.take n) := by simp [Xs, List.map_take]
theorem Xs_drop {l : List Nat} {n : Nat} : (Xs l).drop n = Xs (l.drop n) := by simp [Xs, List.map_drop]
theorem Xs_app {a b : List Nat} : Xs a ++ Xs b = Xs (a ++ b) := by simp [Xs]
theorem Xs_I {l : List Nat} : Xs l = (l.map fun (x : Nat) => (x : Int)).map I := by simp [Xs]

set_option maxHeartbeats 4000000 in
theorem mulBits_g {lx ly : List Nat} (b : Bd h id F p q ls gs vs outs) (hg : gs.length + 10 * lx.length * ly.length + 2 * (lx.length + ly.length) < 80000) (hlx : lx.length ≤ 64) (hly : ly.length ≤ 64) (hx : BitsAt gs vs lx) (hy : BitsAt gs vs ly)
    (hK : ∀ h' F' gs' vs' (rs : List Nat), Gs h F id p q ls gs vs outs (3 * lx.length * ly.length) (10 * lx.length * ly.length + 2 * (lx.length + ly.length) + 1) h' F' gs' vs' → BitsAt gs' vs' rs →
      number (rs.map fun x => vs'.getD x 0) = number (lx.map fun x => vs.getD x 0) * number (ly.map fun x => vs.getD x 0) → rs.length = lx.length + ly.length → K (.ret (.vec (Xs rs) .any)) h') :
    R 42 [.ptr id 0, .vec (Xs lx) .any, .vec (Xs ly) .any] h K := by
  have hp := b.good.p0
  have hp2 := b.good.two
  refine run42 (Nat.le_of_ble_eq_true rfl) ?_
  simp -dsimp -implicitDefEqProofs only [↓STP, STQ, ne_eq, implies_true, forall_const, if_false, if_true, reduceCtorEq, ↓reduceIte, Nat.reduceEqDiff, Nat.reduceAdd, Int.reduceEq, Int.reduceLT, Int.reduceLE, Int.reduceNeg, Int.reduceAdd, Int.reduceSub, Int.reduceMul, Int.reduceToNat, Nat.reduceMul, Nat.reduceSub, Nat.reduceLT, Nat.reduceLeDiff, ir42, Xs_len]
  refine codeT_loop (InvMB id p q ls gs vs outs lx ly h F) (i := ly.length) ⟨0, h, F, gs, vs, [], rfl, by omega, Gs.refl b.at_ b.good, by simp [BitsAt], rfl, by simp [number], by simp -dsimp -implicitDefEqProofs only [↓STP, STQ, ne_eq, implies_true, forall_const, if_false, if_true, reduceCtorEq, ↓reduceIte, Nat.reduceEqDiff, Nat.reduceAdd, Int.reduceEq, Int.reduceLT, Int.reduceLE, Int.reduceNeg, Int.reduceAdd, Int.reduceSub, Int.reduceMul, Int.reduceToNat, Nat.reduceMul, Nat.reduceSub, Nat.reduceLT, Nat.reduceLeDiff] <;> rfl⟩ ?_ mono
  rintro k st ⟨i, h1, F1, g1, v1, out, rfl, hi, s, hob, hol, hov, rfl⟩
  have sl := s.len
  have hib : 10 * lx.length * i ≤ 10 * lx.length * ly.length := Nat.mul_le_mul_left _ hi
  by_cases hlt : i < ly.length
  · have hyi : ly[i] < gs.length := (hy _ (List.getElem_mem hlt)).1
    have hyi1 := (hy _ (List.getElem_mem hlt)).2
    have hif : (if i ≤ 1 then 0 else 1) ≤ 1 := by split <;> omega
    simp -dsimp -implicitDefEqProofs only [↓STP, STQ, ne_eq, implies_true, forall_const, if_false, if_true, reduceCtorEq, ↓reduceIte, Nat.reduceEqDiff, Nat.reduceAdd, Int.reduceEq, Int.reduceLT, Int.reduceLE, Int.reduceNeg, Int.reduceAdd, Int.reduceSub, Int.reduceMul, Int.reduceToNat, Nat.reduceMul, Nat.reduceSub, Nat.reduceLT, Nat.reduceLeDiff, Int.ofNat_lt, hlt, Xs_get hlt, Xs_len]
    refine codeT_loop (InvRow id p q ls g1 v1 outs lx ly out i ly[i] h1 F1) (i := lx.length) ⟨0, h1, F1, g1, v1, [], rfl, by omega, Gs.refl s.bu s.good, rfl, by simp, rfl, by simp -dsimp -implicitDefEqProofs only [↓STP, STQ, ne_eq, implies_true, forall_const, if_false, if_true, reduceCtorEq, ↓reduceIte, Nat.reduceEqDiff, Nat.reduceAdd, Int.reduceEq, Int.reduceLT, Int.reduceLE, Int.reduceNeg, Int.reduceAdd, Int.reduceSub, Int.reduceMul, Int.reduceToNat, Nat.reduceMul, Nat.reduceSub, Nat.reduceLT, Nat.reduceLeDiff] <;> rfl⟩ ?_ mono
    rintro k st ⟨j, h2, F2, g2, v2, row, rfl, hj, t, hrl, hrb, hrv, rfl⟩
    have tl := t.len
    by_cases hlt2 : j < lx.length
    · have hxj : lx[j] < gs.length := (hx _ (List.getElem_mem hlt2)).1
      have hxj1 := (hx _ (List.getElem_mem hlt2)).2
      have hlen : (Xs row).length < 4294967296 := by rw [Xs_len]; omega
      simp -dsimp -implicitDefEqProofs only [↓STP, STQ, ne_eq, implies_true, forall_const, if_false, if_true, reduceCtorEq, ↓reduceIte, Nat.reduceEqDiff, Nat.reduceAdd, Int.reduceEq, Int.reduceLT, Int.reduceLE, Int.reduceNeg, Int.reduceAdd, Int.reduceSub, Int.reduceMul, Int.reduceToNat, Nat.reduceMul, Nat.reduceSub, Nat.reduceLT, Nat.reduceLeDiff, Int.ofNat_lt, hlt2, Xs_get hlt2]
      refine mul_g (t.bd (by omega)) (by omega) (by omega) fun h3 F3 g3 v3 i3 b3 e3 w3 l3 x3 => ?_
      simp -dsimp -implicitDefEqProofs only [↓STP, STQ, ne_eq, implies_true, forall_const, if_false, if_true, reduceCtorEq, ↓reduceIte, Nat.reduceEqDiff, Nat.reduceAdd, Int.reduceEq, Int.reduceLT, Int.reduceLE, Int.reduceNeg, Int.reduceAdd, Int.reduceSub, Int.reduceMul, Int.reduceToNat, Nat.reduceMul, Nat.reduceSub, Nat.reduceLT, Nat.reduceLeDiff]
      rw [app1_own (by simp) Xs_cells rfl (by decide) (by decide) hlen]
      simp -dsimp -implicitDefEqProofs only [↓STP, STQ, ne_eq, implies_true, forall_const, if_false, if_true, reduceCtorEq, ↓reduceIte, Nat.reduceEqDiff, Nat.reduceAdd, Int.reduceEq, Int.reduceLT, Int.reduceLE, Int.reduceNeg, Int.reduceAdd, Int.reduceSub, Int.reduceMul, Int.reduceToNat, Nat.reduceMul, Nat.reduceSub, Nat.reduceLT, Nat.reduceLeDiff, wi (show j < 9000000000000000000 by omega)]
      refine ⟨_, ?_, j + 1, h3, F3, g3, v3, row ++ [i3], rfl, by omega, t.step b3 e3 w3, by simp [hrl], fun x hx => ?_, ?_, by rw [← Xs_snoc]⟩
      · omega
      · rcases List.mem_append.1 hx with h | h
        · have := hrb x h; have := w3.len; omega
        · simp at h; subst h; exact l3
      · rw [List.map_append, List.take_add_one, List.getElem?_eq_getElem hlt2, List.map_append, List.map_append, ← hrv]
        congr 1
        · exact List.map_congr_left fun x hx => w3.pre x (hrb x hx)
        · simp only [Option.toList, List.map_cons, List.map_nil]
          rw [x3, t.pre (by omega), t.pre (by omega)]
          have e1 := s.pre hxj
          have e2 := s.pre hyi
          rw [e1, e2, Nat.mod_eq_of_lt]
          have : vs.getD lx[j] 0 * vs.getD ly[i] 0 ≤ 1 * 1 := Nat.mul_le_mul hxj1 hyi1
          omega
    · have hjl : j = lx.length := by omega
      subst hjl
      rw [List.take_length] at hrv
      have hX : (lx.map fun x => v1.getD x 0) = lx.map fun x => vs.getD x 0 := s.vals fun x h => (hx x h).1
      rw [hX, s.pre hyi] at hrv
      have hrn : number (row.map fun x => v2.getD x 0) = number (lx.map fun x => vs.getD x 0) * vs.getD ly[i] 0 := by rw [hrv, number_map_mul]
      have hrbits : BitsAt g2 v2 row := bitsAt_of hrb (by
        rw [hrv]
        intro w hw
        obtain ⟨x, hx', rfl⟩ := List.mem_map.1 hw
        exact Nat.le_trans (Nat.mul_le_mul (hx.bits x hx') hyi1) (by decide))
      have hnext : number ((ly.take (i + 1)).map fun x => vs.getD x 0) = number ((ly.take i).map fun x => vs.getD x 0) + 2 ^ i * vs.getD ly[i] 0 := by
        rw [List.take_add_one, List.getElem?_eq_getElem hlt, List.map_append]
        simp only [Option.toList, List.map_cons, List.map_nil]
        rw [number_snoc, List.length_map, List.length_take, Nat.min_eq_left hi]
      have wi1 := wi (show i < 9000000000000000000 by omega)
      have hmulI : 10 * lx.length * (i + 1) = 10 * lx.length * i + 10 * lx.length := Nat.mul_succ _ _
      have hmulM : 3 * lx.length * (i + 1) = 3 * lx.length * i + 3 * lx.length := Nat.mul_succ _ _
      by_cases h0 : i = 0
      · subst h0
        simp -dsimp -implicitDefEqProofs only [↓STP, STQ, ne_eq, implies_true, forall_const, if_false, if_true, reduceCtorEq, ↓reduceIte, Nat.reduceEqDiff, Nat.reduceAdd, Int.reduceEq, Int.reduceLT, Int.reduceLE, Int.reduceNeg, Int.reduceAdd, Int.reduceSub, Int.reduceMul, Int.reduceToNat, Nat.reduceMul, Nat.reduceSub, Nat.reduceLT, Nat.reduceLeDiff, Int.ofNat_lt, hlt2, eq_true (show ((0 : Nat) : Int) = 0 from rfl), wi1]
        refine ⟨_, ?_, 1, h2, F2, g2, v2, row, rfl, by omega, (s.trans t).weak (by omega) (by simp; omega), hrbits, hrl, ?_, rfl⟩
        · omega
        · rw [hrn, hnext]; simp [number]
      · simp -dsimp -implicitDefEqProofs only [↓STP, STQ, ne_eq, implies_true, forall_const, if_false, if_true, reduceCtorEq, ↓reduceIte, Nat.reduceEqDiff, Nat.reduceAdd, Int.reduceEq, Int.reduceLT, Int.reduceLE, Int.reduceNeg, Int.reduceAdd, Int.reduceSub, Int.reduceMul, Int.reduceToNat, Nat.reduceMul, Nat.reduceSub, Nat.reduceLT, Nat.reduceLeDiff, Int.ofNat_lt, hlt2, eq_false (show ¬ (i : Int) = 0 by omega)]
        refine codeT_loop (InvPad id p q ls g2 v2 outs lx ly out row i h2 F2) (i := i - out.length) ⟨0, h2, F2, g2, v2, [], rfl, .inl rfl, Gs.refl t.bu t.good, rfl, by simp, by simp -dsimp -implicitDefEqProofs only [↓STP, STQ, ne_eq, implies_true, forall_const, if_false, if_true, reduceCtorEq, ↓reduceIte, Nat.reduceEqDiff, Nat.reduceAdd, Int.reduceEq, Int.reduceLT, Int.reduceLE, Int.reduceNeg, Int.reduceAdd, Int.reduceSub, Int.reduceMul, Int.reduceToNat, Nat.reduceMul, Nat.reduceSub, Nat.reduceLT, Nat.reduceLeDiff, List.append_nil] <;> rfl⟩ ?_ mono
        rintro k st ⟨m, h3, F3, g3, v3, zs, rfl, hm, r, hzl, hzs, rfl⟩
        have rl := r.len
        have hml := mlen_le lx.length i
        by_cases hlt3 : out.length + m < i
        · have hlen : (Xs (out ++ zs)).length < 4294967296 := by rw [Xs_len, List.length_append]; omega
          simp -dsimp -implicitDefEqProofs only [↓STP, STQ, ne_eq, implies_true, forall_const, if_false, if_true, reduceCtorEq, ↓reduceIte, Nat.reduceEqDiff, Nat.reduceAdd, Int.reduceEq, Int.reduceLT, Int.reduceLE, Int.reduceNeg, Int.reduceAdd, Int.reduceSub, Int.reduceMul, Int.reduceToNat, Nat.reduceMul, Nat.reduceSub, Nat.reduceLT, Nat.reduceLeDiff, Xs_len, List.length_append, hzl, eq_true (show ((out.length + m : Nat) : Int) < (i : Int) by omega)]
          refine const_g (k := 0) (r.bd (by omega)) hp.1 fun h4 F4 g4 v4 i4 b4 e4 w4 l4 x4 => ?_
          simp -dsimp -implicitDefEqProofs only [↓STP, STQ, ne_eq, implies_true, forall_const, if_false, if_true, reduceCtorEq, ↓reduceIte, Nat.reduceEqDiff, Nat.reduceAdd, Int.reduceEq, Int.reduceLT, Int.reduceLE, Int.reduceNeg, Int.reduceAdd, Int.reduceSub, Int.reduceMul, Int.reduceToNat, Nat.reduceMul, Nat.reduceSub, Nat.reduceLT, Nat.reduceLeDiff]
          rw [app1_own (by simp) Xs_cells rfl (by decide) (by decide) hlen]
          simp -dsimp -implicitDefEqProofs only [↓STP, STQ, ne_eq, implies_true, forall_const, if_false, if_true, reduceCtorEq, ↓reduceIte, Nat.reduceEqDiff, Nat.reduceAdd, Int.reduceEq, Int.reduceLT, Int.reduceLE, Int.reduceNeg, Int.reduceAdd, Int.reduceSub, Int.reduceMul, Int.reduceToNat, Nat.reduceMul, Nat.reduceSub, Nat.reduceLT, Nat.reduceLeDiff]
          refine ⟨_, ?_, m + 1, h4, F4, g4, v4, zs ++ [i4], rfl, .inr (by omega), r.step b4 e4 w4, by simp [hzl], fun x hx => ?_, by rw [← List.append_assoc, ← Xs_snoc]⟩
          · omega
          · rcases List.mem_append.1 hx with h | h
            · have h5 := hzs x h; have := w4.len; exact ⟨by omega, by rw [w4.pre x h5.1]; exact h5.2⟩
            · simp at h; subst h; exact ⟨l4, x4⟩
        · have hge : i ≤ (out ++ zs).length := by rw [List.length_append, hzl]; omega
          have hcat : (out ++ zs).length ≤ lx.length + i := by rw [List.length_append, hzl]; omega
          have hob3 : BitsAt g3 v3 out := r.bits (t.bits hob)
          have hcb : BitsAt g3 v3 (out ++ zs) := fun x hx => by
            rcases List.mem_append.1 hx with h | h
            · exact hob3 x h
            · have := hzs x h; exact ⟨this.1, by rw [this.2]; decide⟩
          have hcn : number ((out ++ zs).map fun x => v3.getD x 0) = number (lx.map fun x => vs.getD x 0) * number ((ly.take i).map fun x => vs.getD x 0) := by
            rw [padded fun x h => (hzs x h).2, r.vals (fun x h => t.lt (hob x h).1), t.vals (fun x h => (hob x h).1), hov]
          generalize hcc : out ++ zs = cc at *
          simp -dsimp -implicitDefEqProofs only [↓STP, STQ, ne_eq, implies_true, forall_const, if_false, if_true, reduceCtorEq, ↓reduceIte, Nat.reduceEqDiff, Nat.reduceAdd, Int.reduceEq, Int.reduceLT, Int.reduceLE, Int.reduceNeg, Int.reduceAdd, Int.reduceSub, Int.reduceMul, Int.reduceToNat, Nat.reduceMul, Nat.reduceSub, Nat.reduceLT, Nat.reduceLeDiff, Xs_len, eq_false (show ¬ (cc.length : Int) < (i : Int) by omega)]
          simp -dsimp -implicitDefEqProofs only [↓STP, STQ, ne_eq, implies_true, forall_const, if_false, if_true, reduceCtorEq, ↓reduceIte, Nat.reduceEqDiff, Nat.reduceAdd, Int.reduceEq, Int.reduceLT, Int.reduceLE, Int.reduceNeg, Int.reduceAdd, Int.reduceSub, Int.reduceMul, Int.reduceToNat, Nat.reduceMul, Nat.reduceSub, Nat.reduceLT, Nat.reduceLeDiff, slc_take (xs := Xs cc) (i := i) (sz := 1) (k := .i64) (c := .own 0) (by rw [Xs_len]; exact hge) (by simp), slc_drop (xs := Xs cc) (i := i) (sz := 1) (k := .i64) (c := .own 0) (by rw [Xs_len]; exact hge) Xs_cells (by simp), Xs_take, Xs_drop]
          have hcl := @clone55 h3
          refine clone55 (v := .vec (Xs (cc.take i)) .any) (l := (cc.take i).map fun (x : Nat) => (x : Int)) ?_ ?_ (.inl ⟨_, rfl⟩) (by rw [List.length_map, List.length_take]; omega) ?_
          · show some ((Xs (cc.take i)).flatMap V.cells) = _
            rw [Xs_I]
            congr 1
            generalize ((cc.take i).map fun (x : Nat) => (x : Int)) = l
            induction l with
            | nil => rfl
            | cons a l ih => rw [List.map_cons, List.flatMap_cons, ih]; rfl
          · show some (Xs (cc.take i)).length = _
            rw [Xs_len, List.length_map]
          rw [← Xs_I]
          simp -dsimp -implicitDefEqProofs only [↓STP, STQ, ne_eq, implies_true, forall_const, if_false, if_true, reduceCtorEq, ↓reduceIte, Nat.reduceEqDiff, Nat.reduceAdd, Int.reduceEq, Int.reduceLT, Int.reduceLE, Int.reduceNeg, Int.reduceAdd, Int.reduceSub, Int.reduceMul, Int.reduceToNat, Nat.reduceMul, Nat.reduceSub, Nat.reduceLT, Nat.reduceLeDiff]
          refine addBits_g (lx := cc.drop i) (ly := row) (r.bd (by omega)) (by omega) (by rw [List.length_drop]; omega) (by omega) (fun x h => hcb x (List.mem_of_mem_drop h)) (r.bits hrbits) fun h4 F4 g4 v4 e rs he b4 e4 w4 hrsb hrsv hrsl => ?_
          rw [List.length_drop] at w4 hrsl
          have hmx : max (cc.length - i) row.length = lx.length := by omega
          rw [hmx] at w4 hrsl
          simp -dsimp -implicitDefEqProofs only [↓STP, STQ, ne_eq, implies_true, forall_const, if_false, if_true, reduceCtorEq, ↓reduceIte, Nat.reduceEqDiff, Nat.reduceAdd, Int.reduceEq, Int.reduceLT, Int.reduceLE, Int.reduceNeg, Int.reduceAdd, Int.reduceSub, Int.reduceMul, Int.reduceToNat, Nat.reduceMul, Nat.reduceSub, Nat.reduceLT, Nat.reduceLeDiff]
          rw [app_own (by simp) Xs_cells Xs_elems (by decide) (by decide) (by rw [Xs_len, Xs_len, List.length_take]; omega), if_neg (by rw [Xs_len]; omega)]
          simp -dsimp -implicitDefEqProofs only [↓STP, STQ, ne_eq, implies_true, forall_const, if_false, if_true, reduceCtorEq, ↓reduceIte, Nat.reduceEqDiff, Nat.reduceAdd, Int.reduceEq, Int.reduceLT, Int.reduceLE, Int.reduceNeg, Int.reduceAdd, Int.reduceSub, Int.reduceMul, Int.reduceToNat, Nat.reduceMul, Nat.reduceSub, Nat.reduceLT, Nat.reduceLeDiff, wi1]
          rw [Xs_app]
          have hcb4 : BitsAt g4 v4 (cc.take i) := fun x h => hcb.grow w4 x (List.mem_of_mem_take h)
          have hpad : m ≤ 1 ∧ (m = 0 ∨ i = 1) := by
            have h9 : out.length = mlen lx.length i := hol
            rcases hm with rfl | hm
            · exact ⟨by omega, .inl rfl⟩
            · unfold mlen at h9
              rw [if_neg h0] at h9
              by_cases i1 : i = 1
              · rw [if_pos i1] at h9; exact ⟨by omega, .inr i1⟩
              · rw [if_neg i1] at h9; exact ⟨by omega, .inl (by omega)⟩
          refine ⟨_, ?_, i + 1, h4, F4, g4, v4, cc.take i ++ rs, rfl, by omega, (((s.trans t).trans r).step b4 e4 w4).weak (by omega) ?_, fun x h => ?_, ?_, ?_, rfl⟩
          · omega
          · have e1 : (if i + 1 ≤ 1 then 0 else 1) = 1 := if_neg (by omega)
            rw [e1]
            rcases hpad with ⟨hp1, rfl | rfl⟩
            · omega
            · have e2 : (if 1 ≤ 1 then 0 else 1 : Nat) = 0 := rfl
              rw [e2]
              omega
          · rcases List.mem_append.1 h with h | h
            · exact hcb4 x h
            · exact hrsb x h
          · rw [List.length_append, List.length_take, hrsl]
            unfold mlen
            rw [if_neg (by omega), if_neg (by omega)]
            omega
          · rw [List.map_append, number_append, List.length_map, List.length_take, Nat.min_eq_left hge, hrsv, addL_number]
            have e1 : ((cc.take i).map fun x => v4.getD x 0) = (cc.take i).map fun x => v3.getD x 0 := List.map_congr_left fun x h => w4.pre x (hcb x (List.mem_of_mem_take h)).1
            have e2 : (row.map fun x => v3.getD x 0) = row.map fun x => v2.getD x 0 := r.vals hrb
            rw [e1, e2, hrn, hnext, Nat.mul_add, ← Nat.add_assoc]
            have e3 : number ((cc.take i).map fun x => v3.getD x 0) + 2 ^ i * number ((cc.drop i).map fun x => v3.getD x 0) = number (cc.map fun x => v3.getD x 0) := by
              conv => rhs; rw [← List.take_append_drop i cc, List.map_append, number_append, List.length_map, List.length_take, Nat.min_eq_left hge]
            rw [e3, hcn, Nat.mul_add]
            congr 1
            rw [← Nat.mul_assoc, ← Nat.mul_assoc, Nat.mul_comm (2 ^ i)]
  · have hil : i = ly.length := by omega
    subst hil
    rw [List.take_length] at hov
    have hw : IntKind.i64.wrap ((lx.length : Int) + (ly.length : Int)) = ((lx.length + ly.length : Nat) : Int) := wadd (by omega)
    simp -dsimp -implicitDefEqProofs only [↓STP, STQ, ne_eq, implies_true, forall_const, if_false, if_true, reduceCtorEq, ↓reduceIte, Nat.reduceEqDiff, Nat.reduceAdd, Int.reduceEq, Int.reduceLT, Int.reduceLE, Int.reduceNeg, Int.reduceAdd, Int.reduceSub, Int.reduceMul, Int.reduceToNat, Nat.reduceMul, Nat.reduceSub, Nat.reduceLT, Nat.reduceLeDiff, Int.ofNat_lt, hlt, Xs_len, hw]
    have hml := mlen_le lx.length ly.length
    refine codeT_loop (InvEnd id p q ls g1 v1 outs out (lx.length + ly.length) h1 F1) (i := lx.length + ly.length - out.length) ⟨0, h1, F1, g1, v1, [], rfl, by omega, Gs.refl s.bu s.good, rfl, by simp, by simp -dsimp -implicitDefEqProofs only [↓STP, STQ, ne_eq, implies_true, forall_const, if_false, if_true, reduceCtorEq, ↓reduceIte, Nat.reduceEqDiff, Nat.reduceAdd, Int.reduceEq, Int.reduceLT, Int.reduceLE, Int.reduceNeg, Int.reduceAdd, Int.reduceSub, Int.reduceMul, Int.reduceToNat, Nat.reduceMul, Nat.reduceSub, Nat.reduceLT, Nat.reduceLeDiff, List.append_nil] <;> rfl⟩ ?_ mono
    rintro k st ⟨m, h3, F3, g3, v3, zs, rfl, hm, r, hzl, hzs, rfl⟩
    have rl := r.len
    have hif : (if ly.length ≤ 1 then 0 else 1) ≤ 1 := by split <;> omega
    by_cases hlt3 : out.length + m < lx.length + ly.length
    · have hlen : (Xs (out ++ zs)).length < 4294967296 := by rw [Xs_len, List.length_append]; omega
      simp -dsimp -implicitDefEqProofs only [↓STP, STQ, ne_eq, implies_true, forall_const, if_false, if_true, reduceCtorEq, ↓reduceIte, Nat.reduceEqDiff, Nat.reduceAdd, Int.reduceEq, Int.reduceLT, Int.reduceLE, Int.reduceNeg, Int.reduceAdd, Int.reduceSub, Int.reduceMul, Int.reduceToNat, Nat.reduceMul, Nat.reduceSub, Nat.reduceLT, Nat.reduceLeDiff, Xs_len, List.length_append, hzl, eq_true (show ((out.length + m : Nat) : Int) < ((lx.length + ly.length : Nat) : Int) by omega)]
      refine const_g (k := 0) (r.bd (by omega)) hp.1 fun h4 F4 g4 v4 i4 b4 e4 w4 l4 x4 => ?_
      simp -dsimp -implicitDefEqProofs only [↓STP, STQ, ne_eq, implies_true, forall_const, if_false, if_true, reduceCtorEq, ↓reduceIte, Nat.reduceEqDiff, Nat.reduceAdd, Int.reduceEq, Int.reduceLT, Int.reduceLE, Int.reduceNeg, Int.reduceAdd, Int.reduceSub, Int.reduceMul, Int.reduceToNat, Nat.reduceMul, Nat.reduceSub, Nat.reduceLT, Nat.reduceLeDiff]
      rw [app1_own (by simp) Xs_cells rfl (by decide) (by decide) hlen]
      simp -dsimp -implicitDefEqProofs only [↓STP, STQ, ne_eq, implies_true, forall_const, if_false, if_true, reduceCtorEq, ↓reduceIte, Nat.reduceEqDiff, Nat.reduceAdd, Int.reduceEq, Int.reduceLT, Int.reduceLE, Int.reduceNeg, Int.reduceAdd, Int.reduceSub, Int.reduceMul, Int.reduceToNat, Nat.reduceMul, Nat.reduceSub, Nat.reduceLT, Nat.reduceLeDiff]
      refine ⟨_, ?_, m + 1, h4, F4, g4, v4, zs ++ [i4], rfl, by omega, r.step b4 e4 w4, by simp [hzl], fun x hx => ?_, by rw [← List.append_assoc, ← Xs_snoc]⟩
      · omega
      · rcases List.mem_append.1 hx with h | h
        · have h5 := hzs x h; have := w4.len; exact ⟨by omega, by rw [w4.pre x h5.1]; exact h5.2⟩
        · simp at h; subst h; exact ⟨l4, x4⟩
    · have hlen : (out ++ zs).length = lx.length + ly.length := by rw [List.length_append, hzl]; omega
      have hob3 : BitsAt g3 v3 out := r.bits hob
      simp -dsimp -implicitDefEqProofs only [↓STP, STQ, ne_eq, implies_true, forall_const, if_false, if_true, reduceCtorEq, ↓reduceIte, Nat.reduceEqDiff, Nat.reduceAdd, Int.reduceEq, Int.reduceLT, Int.reduceLE, Int.reduceNeg, Int.reduceAdd, Int.reduceSub, Int.reduceMul, Int.reduceToNat, Nat.reduceMul, Nat.reduceSub, Nat.reduceLT, Nat.reduceLeDiff, Xs_len, hlen, Int.lt_irrefl]
      simp -dsimp -implicitDefEqProofs only [↓STP, STQ, ne_eq, implies_true, forall_const, if_false, if_true, reduceCtorEq, ↓reduceIte, Nat.reduceEqDiff, Nat.reduceAdd, Int.reduceEq, Int.reduceLT, Int.reduceLE, Int.reduceNeg, Int.reduceAdd, Int.reduceSub, Int.reduceMul, Int.reduceToNat, Nat.reduceMul, Nat.reduceSub, Nat.reduceLT, Nat.reduceLeDiff, slc_take (xs := Xs (out ++ zs)) (i := lx.length + ly.length) (sz := 1) (k := .i64) (c := .own 0) (by rw [Xs_len]; omega) (by simp)]
      rw [List.take_of_length_le (by rw [Xs_len]; omega)]
      refine hK h3 F3 g3 v3 _ ((s.trans r).weak (by omega) ?_) (fun x hx => ?_) ?_ hlen
      · have h9 : out.length = mlen lx.length ly.length := hol
        unfold mlen at h9
        by_cases l0 : ly.length = 0
        · rw [if_pos l0] at h9
          rw [if_pos (by omega)]
          have : 10 * lx.length * ly.length = 0 := by rw [l0]; rfl
          omega
        · rw [if_neg l0] at h9
          by_cases l1 : ly.length = 1
          · rw [if_pos l1] at h9
            rw [if_pos (by omega)]
            omega
          · rw [if_neg l1] at h9
            rw [if_neg (by omega)]
            omega
      · rcases List.mem_append.1 hx with h | h
        · exact hob3 x h
        · have := hzs x h; exact ⟨this.1, by rw [this.2]; decide⟩
      · rw [padded fun x h => (hzs x h).2, r.vals (fun x h => (hob x h).1), hov]

end
end Go.Ab.Ytgfnhkedfmnijaa
