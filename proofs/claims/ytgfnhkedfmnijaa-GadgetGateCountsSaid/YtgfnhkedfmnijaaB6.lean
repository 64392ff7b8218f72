/- The circuit builder: pairs of bits. -/
import Derived.Test.YtgfnhkedfmnijaaB5
set_option linter.unusedVariables false
set_option linter.unusedSimpArgs false
namespace Go.Ab.Ytgfnhkedfmnijaa

/-- A step with a function value. -/
def withF (v : V) (f : FuncId → List V → List V → Prop) (F : Fix f) : Prop := match v with
  | .func (.func g) a b => f g a b
  | _ => False
theorem withF_func {g : FuncId} {a b : List V} {f : FuncId → List V → List V → Prop} {F : Fix f} : withF (.func (.func g) a b) f F = f g a b := rfl

theorem opT_callF {call : CallT} {ρ : Nat → V} {m : Nat → Option (List V)} {n : Nat} {u : List Nat} {h : H} {K : Ex → S → Prop} {next : S → Prop} {d : Option Nat} {f : Arg} {args : List Arg} : opT call d (.callv f args) ⟨ρ, m, n, u, h⟩ next K ⟨⟩ =
    withF (evA ρ f) (fun g a b => withVs (outs (args.map (evA ρ))) (fun vs => callT call g (a ++ vs ++ b) h (fun o h' => match o with
      | .ret v => next (S.put ⟨ρ, m, n, u, h'⟩ d (landV n v))
      | .pan v => K (.pan v) (.blank h')) ⟨⟩) ⟨⟩) ⟨⟩ := by
  cases hf : evA ρ f with
  | func fn a b =>
    cases fn with
    | func g => rw [opT_callv hf]; rfl
    | _ => simp only [opT, op1, isRd, eff, hf, withF, Bool.false_eq_true, if_false]
  | _ => simp only [opT, op1, isRd, eff, hf, withF, Bool.false_eq_true, if_false]

section
variable {h : H} {K : Out → H → Prop} {id p q : Nat} {F : Nat → Prop} {gs : List Gt} {vs : List Nat} {outs : List Int} {ls : List (List Nat)} {xs : List Nat}

/-- The closure's boxes: the builder's pointer, and the zero that is made at most once ('e': it is made). -/
structure Nt (h : H) (id nid bid e : Nat) (F : Nat → Prop) (gs : List Gt) (vs : List Nat) : Prop where
  bx : h.get bid = some [.ptr id 0]
  nx : (e = 0 ∧ h.get nid = some [I (-1)]) ∨ (e = 1 ∧ ∃ j : Nat, h.get nid = some [I j] ∧ j < gs.length ∧ vs.getD j 0 = 0)
  bl : bid < h.next
  nl : nid < h.next
  bf : ¬ F bid
  nf : ¬ F nid
  ne : bid ≠ nid

def With (F : Nat → Prop) (nid : Nat) : Nat → Prop := fun j => F j ∨ j = nid

theorem evo_plus {h h' : H} {F F' : Nat → Prop} {nid : Nat} (e : Evo h F h' F') : Evo h (With F nid) h' (With F' nid) :=
  ⟨e.1, fun j hj hF => ⟨(e.2 j hj (fun h => hF (.inl h))).1, fun h => h.elim (e.2 j hj (fun h => hF (.inl h))).2 (fun h => hF (.inr h))⟩⟩

theorem Nt.grow {h' : H} {F' : Nat → Prop} {nid bid e m n : Nat} {gs' : List Gt} {vs' : List Nat} (a : Nt h id nid bid e F gs vs) (ev : Evo h F h' F') (w : Grew p q ls gs vs m n gs' vs') : Nt h' id nid bid e F' gs' vs' := by
  obtain ⟨b1, b2, b3, b4, b5, b6, b7⟩ := a
  obtain ⟨e1, e2⟩ := ev.2 bid b3 b5
  obtain ⟨e3, e4⟩ := ev.2 nid b4 b6
  refine ⟨by unfold H.get at b1 ⊢; rw [e1]; exact b1, ?_, Nat.lt_of_lt_of_le b3 ev.1, Nat.lt_of_lt_of_le b4 ev.1, e2, e4, b7⟩
  have : h'.get nid = h.get nid := by unfold H.get; rw [e3]
  rw [this]
  rcases b2 with b2 | ⟨c1, j, c2, c3, c4⟩
  · exact .inl b2
  · exact .inr ⟨c1, j, c2, ltr w c3, by rw [w.pre j c3]; exact c4⟩

theorem evo_setN {h h' : H} {F F' : Nat → Prop} {nid : Nat} {o : O} (e : Evo h (With F nid) h' (With F' nid)) : Evo h (With F nid) (h'.set nid o) (With F' nid) :=
  ⟨e.1, fun j hj hF => ⟨by
    have : j ≠ nid := fun h => hF (.inr h)
    rw [show (h'.set nid o).objs j = h'.objs j by simp [H.set, upd, this]]
    exact (e.2 j hj hF).1, (e.2 j hj hF).2⟩⟩

/-- The bit of a row, 0 past its end. -/
theorem bit_g {l : List Nat} {i nid bid e : Nat} (b : Bd h id F p q ls gs vs outs) (nt : Nt h id nid bid e F gs vs) (hl : l.length ≤ 100) (hx : ∀ x ∈ l, x < gs.length)
    (hK : ∀ h' F' gs' vs' (k e' : Nat), BuAt h' id F' p gs' outs → Evo h (With F nid) h' (With F' nid) → e ≤ e' → e' ≤ 1 → Nt h' id nid bid e' F' gs' vs' → Grew p q ls gs vs 0 (e' - e) gs' vs' → k < gs'.length → vs'.getD k 0 = (l.map fun x => vs.getD x 0).getD i 0 → K (.ret (I k)) h') :
    R 72 [.vec (Xs l) .any, I i, .ptr nid 0, .ptr bid 0] h K := by
  have hp := b.good.p0
  refine run72 (Nat.le_of_ble_eq_true rfl) ?_
  by_cases hlt : i < l.length
  · simp -dsimp -implicitDefEqProofs only [↓STP, STQ, ne_eq, implies_true, forall_const, if_false, if_true, reduceCtorEq, ↓reduceIte, Nat.reduceEqDiff, Nat.reduceAdd, Int.reduceEq, Int.reduceLT, Int.reduceLE, Int.reduceNeg, Int.reduceAdd, Int.reduceSub, Int.reduceMul, Int.reduceToNat, Nat.reduceMul, Nat.reduceSub, Nat.reduceLT, Nat.reduceLeDiff, ir72, Xs_len, Int.ofNat_lt, hlt, Xs_get hlt]
    have he : e ≤ 1 := by rcases nt.nx with h | h <;> omega
    refine hK h F gs vs l[i] e b.at_ (Evo.refl _ _) (Nat.le_refl _) he nt (by rw [Nat.sub_self]; exact Grew.refl b.good) (hx _ (List.getElem_mem hlt)) ?_
    simp [List.getD_eq_getElem?_getD, hlt]
  · have hz : (l.map fun x => vs.getD x 0).getD i 0 = 0 := by
      rw [List.getD_eq_getElem?_getD, List.getElem?_eq_none (by rw [List.length_map]; omega)]; rfl
    rcases nt.nx with ⟨rfl, hn⟩ | ⟨rfl, j, hn, hj, hv⟩
    · simp -dsimp -implicitDefEqProofs only [↓STP, STQ, ne_eq, implies_true, forall_const, if_false, if_true, reduceCtorEq, ↓reduceIte, Nat.reduceEqDiff, Nat.reduceAdd, Int.reduceEq, Int.reduceLT, Int.reduceLE, Int.reduceNeg, Int.reduceAdd, Int.reduceSub, Int.reduceMul, Int.reduceToNat, Nat.reduceMul, Nat.reduceSub, Nat.reduceLT, Nat.reduceLeDiff, ir72, Xs_len, Int.ofNat_lt, hlt, hn, nt.bx]
      refine const_g (k := 0) b hp.1 fun h1 F1 g1 v1 i1 b1 e1 w1 l1 x1 => ?_
      have nt1 := nt.grow e1 w1
      have hn1 : h1.get nid = some [I (-1)] := by
        rcases nt1.nx with ⟨_, h⟩ | ⟨h, _⟩
        · exact h
        · omega
      simp -dsimp -implicitDefEqProofs only [↓STP, STQ, ne_eq, implies_true, forall_const, if_false, if_true, reduceCtorEq, ↓reduceIte, Nat.reduceEqDiff, Nat.reduceAdd, Int.reduceEq, Int.reduceLT, Int.reduceLE, Int.reduceNeg, Int.reduceAdd, Int.reduceSub, Int.reduceMul, Int.reduceToNat, Nat.reduceMul, Nat.reduceSub, Nat.reduceLT, Nat.reduceLeDiff, storeV, hn1, get_set]
      refine hK _ F1 g1 v1 i1 1 (b1.frame (Nat.le_refl _) fun j hj hF => ?_) (evo_setN (evo_plus e1)) (by omega) (Nat.le_refl _) ⟨?_, .inr ⟨rfl, i1, get_set, l1, x1⟩, nt1.bl, nt1.nl, nt1.bf, nt1.nf, nt1.ne⟩ w1 l1 (by rw [x1, hz])
      · have : j ≠ nid := fun h => nt1.nf (h ▸ hF)
        simp [H.set, upd, this]
      · have h2 := nt1.bx
        unfold H.get at h2 ⊢
        rw [show (h1.set nid _).objs bid = h1.objs bid by simp [H.set, upd, nt1.ne]]
        exact h2
    · simp -dsimp -implicitDefEqProofs only [↓STP, STQ, ne_eq, implies_true, forall_const, if_false, if_true, reduceCtorEq, ↓reduceIte, Nat.reduceEqDiff, Nat.reduceAdd, Int.reduceEq, Int.reduceLT, Int.reduceLE, Int.reduceNeg, Int.reduceAdd, Int.reduceSub, Int.reduceMul, Int.reduceToNat, Nat.reduceMul, Nat.reduceSub, Nat.reduceLT, Nat.reduceLeDiff, ir72, Xs_len, Int.ofNat_lt, hlt, hn, nt.bx, eq_false (show ¬ (j : Int) < 0 by omega)]
      exact hK h F gs vs j 1 b.at_ (Evo.refl _ _) (Nat.le_refl _) (Nat.le_refl _) nt (Grew.refl b.good) hj (by rw [hv, hz])

/-- The state ahead of pair 'j', and the bit of pair 'j'. -/
def prS (f2 : Nat → Nat → Nat → Nat) (xs ys : List Nat) (l0 : Nat) : Nat → Nat
  | 0 => l0
  | j + 1 => f2 (xs.getD j 0) (ys.getD j 0) (prS f2 xs ys l0 j)
def prZ (f1 f2 : Nat → Nat → Nat → Nat) (xs ys : List Nat) (l0 j : Nat) : Nat := f1 (xs.getD j 0) (ys.getD j 0) (prS f2 xs ys l0 j)

/-- What the function that is given to 'pairs' does. -/
def One (g id p q : Nat) (ls : List (List Nat)) (m n : Nat) (f1 f2 : Nat → Nat → Nat → Nat) : Prop :=
  ∀ (h : H) (F : Nat → Prop) (gs : List Gt) (vs : List Nat) (outs : List Int) (x y l : Nat) (K : Out → H → Prop), Bd h id F p q ls gs vs outs → gs.length < 99000 → x < gs.length → y < gs.length → l < gs.length →
    vs.getD x 0 ≤ 1 → vs.getD y 0 ≤ 1 → vs.getD l 0 ≤ 1 →
    (∀ h' F' gs' vs' (z l' : Nat), BuAt h' id F' p gs' outs → Evo h F h' F' → Grew p q ls gs vs m n gs' vs' → z < gs'.length → l' < gs'.length →
      vs'.getD z 0 = f1 (vs.getD x 0) (vs.getD y 0) (vs.getD l 0) → vs'.getD l' 0 = f2 (vs.getD x 0) (vs.getD y 0) (vs.getD l 0) → K (.ret (.tuple [I z, I l'])) h') →
    R g [.ptr id 0, I x, I y, I l] h K

def pairH (h : H) (id : Nat) : H := ((h.new (.cells [.ptr id 0])).new (.cells [V.int .i64 0])).set (h.next + 1) (.cells [V.int .i64 (-1)])

theorem pairH_old {j : Nat} (hj : j < h.next) : (pairH h id).objs j = h.objs j := by
  have h1 : j ≠ h.next + 1 := by omega
  have h2 : j ≠ h.next := by omega
  simp [pairH, H.set, H.new, upd, h1, h2]

theorem pairH_bu (b : BuAt h id F p gs outs) : BuAt (pairH h id) id F p gs outs := b.frame (Nat.le_trans (Nat.le_succ _) (Nat.le_succ _)) (fun j hj _ => pairH_old hj)

theorem pairH_nt (b : BuAt h id F p gs outs) : Nt (pairH h id) id (h.next + 1) h.next 0 F gs vs := by
  refine ⟨?_, .inl ⟨rfl, get_set⟩, Nat.lt_succ_of_lt (Nat.lt_succ_self _), Nat.lt_succ_self _, fun hF => ?_, fun hF => ?_, by omega⟩
  · have : h.next ≠ h.next + 1 := by omega
    simp [pairH, H.get, H.set, H.new, upd, this]
  · have := b.flt hF; omega
  · have := b.flt hF; omega

theorem pairH_evo {h' : H} {F' : Nat → Prop} (e : Evo (pairH h id) (With F (h.next + 1)) h' (With F' (h.next + 1))) : Evo h F h' F' :=
  ⟨Nat.le_trans (Nat.le_trans (Nat.le_succ _) (Nat.le_succ _)) e.1, fun j hj hF => by
    have h1 := e.2 j (Nat.lt_succ_of_lt (Nat.lt_succ_of_lt hj)) (fun h => h.elim hF (by omega))
    rw [pairH_old hj] at h1
    exact ⟨h1.1, fun h => h1.2 (.inl h)⟩⟩

structure PairSt (h0 : H) (id nid bid p q : Nat) (F0 : Nat → Prop) (ls : List (List Nat)) (gs : List Gt) (vs : List Nat) (outs : List Int) (m n : Nat) (f1 f2 : Nat → Nat → Nat → Nat) (xs ys : List Nat) (l0 j : Nat)
    (h : H) (F : Nat → Prop) (g1 : List Gt) (v1 : List Nat) (e lf : Nat) (zs : List Nat) : Prop where
  bu : BuAt h id F p g1 outs
  ev : Evo h0 (With F0 nid) h (With F nid)
  nt : Nt h id nid bid e F g1 v1
  e1 : e ≤ 1
  gr : Grew p q ls gs vs (m * j) (n * j + e) g1 v1
  ll : lf < g1.length
  lv : v1.getD lf 0 = prS f2 xs ys l0 j
  zl : zs.length = j
  zv : ∀ i, (hi : i < zs.length) → zs[i] < g1.length ∧ v1.getD zs[i] 0 = prZ f1 f2 xs ys l0 i

def InvPair (h0 : H) (id nid bid p q g N : Nat) (F0 : Nat → Prop) (ls : List (List Nat)) (gs : List Gt) (vs : List Nat) (outs : List Int) (m n : Nat) (f1 f2 : Nat → Nat → Nat → Nat) (lx ly : List Nat) (l0 k : Nat) (st : S) : Prop :=
  ∃ (j : Nat) (h : H) (F : Nat → Prop) (g1 : List Gt) (v1 : List Nat) (e lf : Nat) (zs : List Nat), k = N - j ∧ j ≤ N ∧
    PairSt h0 id nid bid p q F0 ls gs vs outs m n f1 f2 (lx.map fun x => vs.getD x 0) (ly.map fun x => vs.getD x 0) l0 j h F g1 v1 e lf zs ∧
    st = ⟨upd (upd (upd (upd (upd (upd (upd (upd ρ0 1 (.vec (Xs lx) .any)) 2 (.vec (Xs ly) .any)) 3 (I lf)) 4 (.func (.func g) [.ptr id 0] [])) 13 (.func (.func 72) [] [.ptr nid 0, .ptr bid 0])) 14 (.vec (Xs zs) (.own 0))) 22 (I N)) 23 (I j), m0, 1, [], h⟩

set_option maxHeartbeats 2000000 in
theorem pairs_g {g l0 N m n : Nat} {f1 f2 : Nat → Nat → Nat → Nat} {lx ly : List Nat} (one : One g id p q ls m n f1 f2)
    (hf2 : ∀ a b c, a ≤ 1 → b ≤ 1 → c ≤ 1 → f2 a b c ≤ 1) (b : Bd h id F p q ls gs vs outs) (hg : gs.length < 90000) (hn : n ≤ 20) (hlx : lx.length ≤ 100) (hly : ly.length ≤ 100) (hN : N = max lx.length ly.length)
    (hx : ∀ x ∈ lx, x < gs.length ∧ vs.getD x 0 ≤ 1) (hy : ∀ x ∈ ly, x < gs.length ∧ vs.getD x 0 ≤ 1) (hl : l0 < gs.length) (hl1 : vs.getD l0 0 ≤ 1)
    (hK : ∀ h' F' gs' vs' (e lf : Nat) (zs : List Nat), BuAt h' id F' p gs' outs → Evo h F h' F' → e ≤ 1 → Grew p q ls gs vs (m * N) (n * N + e) gs' vs' → zs.length = N →
      (∀ i, (hi : i < zs.length) → zs[i] < gs'.length ∧ vs'.getD zs[i] 0 = prZ f1 f2 (lx.map fun x => vs.getD x 0) (ly.map fun x => vs.getD x 0) (vs.getD l0 0) i) →
      lf < gs'.length → vs'.getD lf 0 = prS f2 (lx.map fun x => vs.getD x 0) (ly.map fun x => vs.getD x 0) (vs.getD l0 0) N → K (.ret (.tuple [.vec (Xs zs) (.own 0), I lf])) h') :
    R 57 [.ptr id 0, .vec (Xs lx) .any, .vec (Xs ly) .any, I l0, .func (.func g) [.ptr id 0] []] h K := by
  have hb : ∀ (l : List Nat), (∀ x ∈ l, x < gs.length ∧ vs.getD x 0 ≤ 1) → ∀ j, (l.map fun x => vs.getD x 0).getD j 0 ≤ 1 := by
    intro l hl j
    rcases Nat.lt_or_ge j l.length with h | h
    · have := (hl _ (List.getElem_mem h)).2
      simpa [List.getD_eq_getElem?_getD, h] using this
    · rw [List.getD_eq_getElem?_getD, List.getElem?_eq_none (by rw [List.length_map]; exact h)]; decide
  have bits : ∀ j, prS f2 (lx.map fun x => vs.getD x 0) (ly.map fun x => vs.getD x 0) (vs.getD l0 0) j ≤ 1 := by
    intro j
    induction j with
    | zero => exact hl1
    | succ j ih => exact hf2 _ _ _ (hb lx hx j) (hb ly hy j) ih
  refine run57 (Nat.le_of_ble_eq_true rfl) ?_
  have hmax : maxV (.int .i64 (lx.length : Int)) [.int .i64 (ly.length : Int)] = some (I N) := by
    simp only [maxV]
    congr 2
    split <;> omega
  have gn : ((h.new (.cells [.ptr id 0])).new (.cells [V.int .i64 0])).get (h.next + 1) = some [V.int .i64 0] := get_new (h := h.new _)
  simp -dsimp -implicitDefEqProofs only [↓STP, STQ, ne_eq, implies_true, forall_const, if_false, if_true, reduceCtorEq, ↓reduceIte, Nat.reduceEqDiff, Nat.reduceAdd, Int.reduceEq, Int.reduceLT, Int.reduceLE, Int.reduceNeg, Int.reduceAdd, Int.reduceSub, Int.reduceMul, Int.reduceToNat, Nat.reduceMul, Nat.reduceSub, Nat.reduceLT, Nat.reduceLeDiff, ir57, storeV, Xs_len, gn, next_new, hmax]
  have hn0 := b.at_.idn
  refine codeT_loop (InvPair (pairH h id) id (h.next + 1) h.next p q g N F ls gs vs outs m n f1 f2 lx ly (vs.getD l0 0)) (i := N) ⟨0, pairH h id, F, gs, vs, 0, l0, [], rfl, by omega, ⟨pairH_bu b.at_, Evo.refl _ _, pairH_nt b.at_, by omega, by simpa using Grew.refl b.good, hl, rfl, rfl, by simp⟩, by simp -dsimp -implicitDefEqProofs only [↓STP, STQ, ne_eq, implies_true, forall_const, if_false, if_true, reduceCtorEq, ↓reduceIte, Nat.reduceEqDiff, Nat.reduceAdd, Int.reduceEq, Int.reduceLT, Int.reduceLE, Int.reduceNeg, Int.reduceAdd, Int.reduceSub, Int.reduceMul, Int.reduceToNat, Nat.reduceMul, Nat.reduceSub, Nat.reduceLT, Nat.reduceLeDiff] <;> rfl⟩ ?_ mono
  rintro k st ⟨j, h2, F2, g2, v2, e, lf, zs, rfl, hj, s, rfl⟩
  have l2 := s.gr.len
  have se1 := s.e1
  have mj : n * j ≤ 20 * 100 := Nat.mul_le_mul hn (by omega)
  have hmap : ∀ (l : List Nat), (∀ x ∈ l, x < gs.length ∧ vs.getD x 0 ≤ 1) → (l.map fun x => v2.getD x 0) = (l.map fun x => vs.getD x 0) := fun l hl => List.map_congr_left fun x hx => s.gr.pre x (hl x hx).1
  by_cases hlt : j < N
  · have wj : IntKind.i64.wrap ((j : Int) + 1) = ((j + 1 : Nat) : Int) := by rw [wrap_i64] <;> omega
    have szl := s.zl
    have hlen : (Xs zs).length < 4294967296 := by rw [Xs_len]; omega
    have hxb := hb lx hx j
    have hyb := hb ly hy j
    have hsb := bits j
    have body : ∀ (K2 : Out → H → Prop), (∀ h5 F5 g5 v5 (z l' e5 : Nat), PairSt (pairH h id) id (h.next + 1) h.next p q F ls gs vs outs m n f1 f2 (lx.map fun x => vs.getD x 0) (ly.map fun x => vs.getD x 0) (vs.getD l0 0) (j + 1) h5 F5 g5 v5 e5 l' (zs ++ [z]) → K2 (.ret (.tuple [I z, I l'])) h5) → ∀ h3 F3 g3 v3 (k1 e3 : Nat), BuAt h3 id F3 p g3 outs → Evo h2 (With F2 (h.next + 1)) h3 (With F3 (h.next + 1)) → e ≤ e3 → e3 ≤ 1 → Nt h3 id (h.next + 1) h.next e3 F3 g3 v3 → Grew p q ls g2 v2 0 (e3 - e) g3 v3 → k1 < g3.length → v3.getD k1 0 = (lx.map fun x => v2.getD x 0).getD j 0 →
        ∀ h4 F4 g4 v4 (k2 e4 : Nat), BuAt h4 id F4 p g4 outs → Evo h3 (With F3 (h.next + 1)) h4 (With F4 (h.next + 1)) → e3 ≤ e4 → e4 ≤ 1 → Nt h4 id (h.next + 1) h.next e4 F4 g4 v4 → Grew p q ls g3 v3 0 (e4 - e3) g4 v4 → k2 < g4.length → v4.getD k2 0 = (ly.map fun x => v3.getD x 0).getD j 0 →
        R g [.ptr id 0, I k1, I k2, I lf] h4 K2 := by
      intro K2 hK2 h3 F3 g3 v3 k1 e3 b3 ev3 e13 e31 nt3 w3 k1l k1v h4 F4 g4 v4 k2 e4 b4 ev4 e34 e41 nt4 w4 k2l k2v
      have l3 := w3.len
      have l4 := w4.len
      have hmap3 : (ly.map fun x => v3.getD x 0) = (ly.map fun x => vs.getD x 0) := List.map_congr_left fun x hx => by
        have := (hy x hx).1
        rw [w3.pre x (by omega), s.gr.pre x this]
      rw [hmap lx hx] at k1v
      rw [hmap3] at k2v
      have k1v4 : v4.getD k1 0 = (lx.map fun x => vs.getD x 0).getD j 0 := by rw [w4.pre k1 k1l, k1v]
      have lfv : v4.getD lf 0 = prS f2 (lx.map fun x => vs.getD x 0) (ly.map fun x => vs.getD x 0) (vs.getD l0 0) j := by
        have := s.ll
        rw [w4.pre lf (by omega), w3.pre lf this, s.lv]
      have sll := s.ll
      refine one h4 F4 g4 v4 outs k1 k2 lf K2 ⟨b4, w4.good, by omega⟩ (by omega) (by omega) k2l (by omega) (by rw [k1v4]; exact hxb) (by rw [k2v]; exact hyb) (by rw [lfv]; exact hsb) fun h5 F5 g5 v5 z l' b5 ev5 w5 zl ll zv lv => ?_
      rw [k1v4, k2v, lfv] at zv lv
      have l5 := w5.len
      refine hK2 h5 F5 g5 v5 z l' e4 ⟨b5, ((s.ev.trans ev3).trans ev4).trans (evo_plus ev5), nt4.grow ev5 w5, e41, ?_, ll, lv, by rw [List.length_append, szl]; rfl, fun i hi => ?_⟩
      · have w := ((s.gr.trans w3).trans w4).trans w5
        have e1 : m * j + 0 + 0 + m = m * (j + 1) := by rw [Nat.mul_succ]; omega
        have e2 : n * j + e + (e3 - e) + (e4 - e3) + n = n * (j + 1) + e4 := by rw [Nat.mul_succ]; omega
        rw [e1, e2] at w
        exact w
      · rcases Nat.lt_or_ge i zs.length with h1 | h1
        · obtain ⟨c1, c2⟩ := s.zv i h1
          rw [List.getElem_append_left h1]
          exact ⟨by omega, by rw [w5.pre _ (by omega), w4.pre _ (by omega), w3.pre _ c1]; exact c2⟩
        · have : i = j := by rw [List.length_append] at hi; simp at hi; omega
          subst this
          rw [List.getElem_append_right h1]
          simp only [szl, Nat.sub_self, List.getElem_cons_zero]
          exact ⟨zl, zv⟩
    have hx2 : ∀ x ∈ lx, x < g2.length := fun x h => by have := (hx x h).1; omega
    simp -dsimp -implicitDefEqProofs only [↓STP, STQ, ne_eq, implies_true, forall_const, if_false, if_true, reduceCtorEq, ↓reduceIte, Nat.reduceEqDiff, Nat.reduceAdd, Int.reduceEq, Int.reduceLT, Int.reduceLE, Int.reduceNeg, Int.reduceAdd, Int.reduceSub, Int.reduceMul, Int.reduceToNat, Nat.reduceMul, Nat.reduceSub, Nat.reduceLT, Nat.reduceLeDiff, opT_callF, withF_func, Int.ofNat_lt, hlt]
    refine bit_g ⟨s.bu, s.gr.good, by omega⟩ s.nt hlx hx2 fun h3 F3 g3 v3 k1 e3 b3 ev3 e13 e31 nt3 w3 k1l k1v => ?_
    have l3 := w3.len
    simp -dsimp -implicitDefEqProofs only [↓STP, STQ, ne_eq, implies_true, forall_const, if_false, if_true, reduceCtorEq, ↓reduceIte, Nat.reduceEqDiff, Nat.reduceAdd, Int.reduceEq, Int.reduceLT, Int.reduceLE, Int.reduceNeg, Int.reduceAdd, Int.reduceSub, Int.reduceMul, Int.reduceToNat, Nat.reduceMul, Nat.reduceSub, Nat.reduceLT, Nat.reduceLeDiff, opT_callF, withF_func]
    refine bit_g ⟨b3, w3.good, by omega⟩ nt3 hly (fun x h => by have := (hy x h).1; omega) fun h4 F4 g4 v4 k2 e4 b4 ev4 e34 e41 nt4 w4 k2l k2v => ?_
    simp -dsimp -implicitDefEqProofs only [↓STP, STQ, ne_eq, implies_true, forall_const, if_false, if_true, reduceCtorEq, ↓reduceIte, Nat.reduceEqDiff, Nat.reduceAdd, Int.reduceEq, Int.reduceLT, Int.reduceLE, Int.reduceNeg, Int.reduceAdd, Int.reduceSub, Int.reduceMul, Int.reduceToNat, Nat.reduceMul, Nat.reduceSub, Nat.reduceLT, Nat.reduceLeDiff, opT_callF, withF_func]
    refine body _ (fun h5 F5 g5 v5 z l' e5 s5 => ?_) h3 F3 g3 v3 k1 e3 b3 ev3 e13 e31 nt3 w3 k1l k1v h4 F4 g4 v4 k2 e4 b4 ev4 e34 e41 nt4 w4 k2l k2v
    simp -dsimp -implicitDefEqProofs only [↓STP, STQ, ne_eq, implies_true, forall_const, if_false, if_true, reduceCtorEq, ↓reduceIte, Nat.reduceEqDiff, Nat.reduceAdd, Int.reduceEq, Int.reduceLT, Int.reduceLE, Int.reduceNeg, Int.reduceAdd, Int.reduceSub, Int.reduceMul, Int.reduceToNat, Nat.reduceMul, Nat.reduceSub, Nat.reduceLT, Nat.reduceLeDiff]
    rw [app1_own (by simp) Xs_cells rfl (by decide) (by decide) hlen]
    simp -dsimp -implicitDefEqProofs only [↓STP, STQ, ne_eq, implies_true, forall_const, if_false, if_true, reduceCtorEq, ↓reduceIte, Nat.reduceEqDiff, Nat.reduceAdd, Int.reduceEq, Int.reduceLT, Int.reduceLE, Int.reduceNeg, Int.reduceAdd, Int.reduceSub, Int.reduceMul, Int.reduceToNat, Nat.reduceMul, Nat.reduceSub, Nat.reduceLT, Nat.reduceLeDiff, wj]
    refine ⟨_, ?_, j + 1, h5, F5, g5, v5, e5, l', zs ++ [z], rfl, by omega, s5, by rw [Xs_snoc]⟩
    omega
  · have hjn : j = N := by omega
    subst hjn
    have fin := hK h2 F2 g2 v2 e lf zs s.bu (pairH_evo s.ev) s.e1 s.gr s.zl s.zv s.ll s.lv
    simp -dsimp -implicitDefEqProofs only [↓STP, STQ, ne_eq, implies_true, forall_const, if_false, if_true, reduceCtorEq, ↓reduceIte, Nat.reduceEqDiff, Nat.reduceAdd, Int.reduceEq, Int.reduceLT, Int.reduceLE, Int.reduceNeg, Int.reduceAdd, Int.reduceSub, Int.reduceMul, Int.reduceToNat, Nat.reduceMul, Nat.reduceSub, Nat.reduceLT, Nat.reduceLeDiff, Int.ofNat_lt, hlt]
    exact fin

end
end Go.Ab.Ytgfnhkedfmnijaa
