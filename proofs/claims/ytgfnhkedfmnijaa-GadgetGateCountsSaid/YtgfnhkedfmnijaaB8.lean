/- The circuit builder: comparisons; the reference's comparisons and numbers. -/
import Derived.Test.YtgfnhkedfmnijaaB7
set_option linter.unusedVariables false
set_option linter.unusedSimpArgs false
namespace Go.Ab.Ytgfnhkedfmnijaa

section
variable {h : H} {K : Out → H → Prop} {id p q : Nat} {F : Nat → Prop} {gs : List Gt} {vs : List Nat} {outs : List Int} {ls : List (List Nat)} {xs : List Nat}

theorem fLess_le {a b c : Nat} (ha : a ≤ 1) (hb : b ≤ 1) (hc : c ≤ 1) : fLess a b c ≤ 1 := by unfold fLess; split <;> omega
theorem fLike_le {a b c : Nat} (ha : a ≤ 1) (hb : b ≤ 1) (hc : c ≤ 1) : fLike a b c ≤ 1 := by unfold fLike; split <;> omega
theorem fCarry_le {a b c : Nat} (ha : a ≤ 1) (hb : b ≤ 1) (hc : c ≤ 1) : fCarry a b c ≤ 1 := by unfold fCarry; omega
theorem fBorrow_le {a b c : Nat} (ha : a ≤ 1) (hb : b ≤ 1) (hc : c ≤ 1) : fBorrow a b c ≤ 1 := by unfold fBorrow; split <;> omega

/-- A row of wires that carry bits. -/
def BitsAt (gs : List Gt) (vs : List Nat) (l : List Nat) : Prop := ∀ x ∈ l, x < gs.length ∧ vs.getD x 0 ≤ 1

theorem BitsAt.grow {m n : Nat} {gs' : List Gt} {vs' : List Nat} {l : List Nat} (a : BitsAt gs vs l) (w : Grew p q ls gs vs m n gs' vs') : BitsAt gs' vs' l := fun x hx => by
  obtain ⟨h1, h2⟩ := a x hx
  exact ⟨ltr w h1, by rw [w.pre x h1]; exact h2⟩
theorem BitsAt.vals {m n : Nat} {gs' : List Gt} {vs' : List Nat} {l : List Nat} (a : BitsAt gs vs l) (w : Grew p q ls gs vs m n gs' vs') : (l.map fun x => vs'.getD x 0) = l.map fun x => vs.getD x 0 :=
  List.map_congr_left fun x hx => w.pre x (a x hx).1

theorem less_g {lx ly : List Nat} (b : Bd h id F p q ls gs vs outs) (hg : gs.length < 89000) (hlx : lx.length ≤ 100) (hly : ly.length ≤ 100) (hx : BitsAt gs vs lx) (hy : BitsAt gs vs ly)
    (hK : ∀ h' F' gs' vs' (e i : Nat), e ≤ 1 → BuAt h' id F' p gs' outs → Evo h F h' F' → Grew p q ls gs vs (2 * max lx.length ly.length) (7 * max lx.length ly.length + e + 1) gs' vs' → i < gs'.length →
      vs'.getD i 0 = prS fLess (lx.map fun x => vs.getD x 0) (ly.map fun x => vs.getD x 0) 0 (max lx.length ly.length) → K (.ret (I i)) h') :
    R 34 [.ptr id 0, .vec (Xs lx) .any, .vec (Xs ly) .any] h K := by
  have hp := b.good.p0
  refine run34 (Nat.le_of_ble_eq_true rfl) ?_
  simp -dsimp -implicitDefEqProofs only [↓STP, STQ, ne_eq, implies_true, forall_const, if_false, if_true, reduceCtorEq, ↓reduceIte, Nat.reduceEqDiff, Nat.reduceAdd, Int.reduceEq, Int.reduceLT, Int.reduceLE, Int.reduceNeg, Int.reduceAdd, Int.reduceSub, Int.reduceMul, Int.reduceToNat, Nat.reduceMul, Nat.reduceSub, Nat.reduceLT, Nat.reduceLeDiff, ir34]
  refine const_g (k := 0) b hp.1 fun h1 F1 g1 v1 i1 b1 e1 w1 l1 x1 => ?_
  have n1 := w1.len
  simp -dsimp -implicitDefEqProofs only [↓STP, STQ, ne_eq, implies_true, forall_const, if_false, if_true, reduceCtorEq, ↓reduceIte, Nat.reduceEqDiff, Nat.reduceAdd, Int.reduceEq, Int.reduceLT, Int.reduceLE, Int.reduceNeg, Int.reduceAdd, Int.reduceSub, Int.reduceMul, Int.reduceToNat, Nat.reduceMul, Nat.reduceSub, Nat.reduceLT, Nat.reduceLeDiff]
  refine pairs_g less_one (fun a b c => fLess_le) ⟨b1, w1.good, by omega⟩ (by omega) (by decide) hlx hly rfl (hx.grow w1) (hy.grow w1) l1 (by rw [x1]; decide) fun h2 F2 g2 v2 e lf zs b2 e2 he w2 zl zv lfl lfv => ?_
  rw [hx.vals w1, hy.vals w1, x1] at lfv
  have w := w1.trans w2
  rw [show 0 + 2 * max lx.length ly.length = 2 * max lx.length ly.length by omega, show 1 + (7 * max lx.length ly.length + e) = 7 * max lx.length ly.length + e + 1 by omega] at w
  simp -dsimp -implicitDefEqProofs only [↓STP, STQ, ne_eq, implies_true, forall_const, if_false, if_true, reduceCtorEq, ↓reduceIte, Nat.reduceEqDiff, Nat.reduceAdd, Int.reduceEq, Int.reduceLT, Int.reduceLE, Int.reduceNeg, Int.reduceAdd, Int.reduceSub, Int.reduceMul, Int.reduceToNat, Nat.reduceMul, Nat.reduceSub, Nat.reduceLT, Nat.reduceLeDiff]
  exact hK h2 F2 g2 v2 e lf he b2 (e1.trans e2) w lfl lfv

theorem equal_g {lx ly : List Nat} (b : Bd h id F p q ls gs vs outs) (hg : gs.length < 89000) (hlx : lx.length ≤ 100) (hly : ly.length ≤ 100) (hx : BitsAt gs vs lx) (hy : BitsAt gs vs ly)
    (hK : ∀ h' F' gs' vs' (e i : Nat), e ≤ 1 → BuAt h' id F' p gs' outs → Evo h F h' F' → Grew p q ls gs vs (2 * max lx.length ly.length) (7 * max lx.length ly.length + e + 1) gs' vs' → i < gs'.length →
      vs'.getD i 0 = prS fLike (lx.map fun x => vs.getD x 0) (ly.map fun x => vs.getD x 0) 1 (max lx.length ly.length) → K (.ret (I i)) h') :
    R 35 [.ptr id 0, .vec (Xs lx) .any, .vec (Xs ly) .any] h K := by
  have hp := b.good.p0
  have hp2 := b.good.two
  refine run35 (Nat.le_of_ble_eq_true rfl) ?_
  simp -dsimp -implicitDefEqProofs only [↓STP, STQ, ne_eq, implies_true, forall_const, if_false, if_true, reduceCtorEq, ↓reduceIte, Nat.reduceEqDiff, Nat.reduceAdd, Int.reduceEq, Int.reduceLT, Int.reduceLE, Int.reduceNeg, Int.reduceAdd, Int.reduceSub, Int.reduceMul, Int.reduceToNat, Nat.reduceMul, Nat.reduceSub, Nat.reduceLT, Nat.reduceLeDiff, ir35]
  refine const_g (k := 1) b (by omega) fun h1 F1 g1 v1 i1 b1 e1 w1 l1 x1 => ?_
  have n1 := w1.len
  simp -dsimp -implicitDefEqProofs only [↓STP, STQ, ne_eq, implies_true, forall_const, if_false, if_true, reduceCtorEq, ↓reduceIte, Nat.reduceEqDiff, Nat.reduceAdd, Int.reduceEq, Int.reduceLT, Int.reduceLE, Int.reduceNeg, Int.reduceAdd, Int.reduceSub, Int.reduceMul, Int.reduceToNat, Nat.reduceMul, Nat.reduceSub, Nat.reduceLT, Nat.reduceLeDiff]
  refine pairs_g like_one (fun a b c => fLike_le) ⟨b1, w1.good, by omega⟩ (by omega) (by decide) hlx hly rfl (hx.grow w1) (hy.grow w1) l1 (by rw [x1]; decide) fun h2 F2 g2 v2 e lf zs b2 e2 he w2 zl zv lfl lfv => ?_
  rw [hx.vals w1, hy.vals w1, x1] at lfv
  have w := w1.trans w2
  rw [show 0 + 2 * max lx.length ly.length = 2 * max lx.length ly.length by omega, show 1 + (7 * max lx.length ly.length + e) = 7 * max lx.length ly.length + e + 1 by omega] at w
  simp -dsimp -implicitDefEqProofs only [↓STP, STQ, ne_eq, implies_true, forall_const, if_false, if_true, reduceCtorEq, ↓reduceIte, Nat.reduceEqDiff, Nat.reduceAdd, Int.reduceEq, Int.reduceLT, Int.reduceLE, Int.reduceNeg, Int.reduceAdd, Int.reduceSub, Int.reduceMul, Int.reduceToNat, Nat.reduceMul, Nat.reduceSub, Nat.reduceLT, Nat.reduceLeDiff]
  exact hK h2 F2 g2 v2 e lf he b2 (e1.trans e2) w lfl lfv

theorem bit02 {a : List Nat} {i : Nat} (hK : K (.ret (W (a.getD i 0))) h) : R 61 [.vec (Ws a) .any, I i] h K := by
  refine run61 (Nat.le_of_ble_eq_true rfl) ?_
  by_cases hlt : i < a.length
  · have hx : (Ws a)[i]? = some (W a[i]) := by rw [Ws_get, List.getElem?_eq_getElem hlt]; rfl
    have e : a.getD i 0 = a[i] := by simp [List.getD_eq_getElem?_getD, hlt]
    rw [e] at hK
    simp -dsimp -implicitDefEqProofs only [↓STP, STQ, ne_eq, implies_true, forall_const, if_false, if_true, reduceCtorEq, ↓reduceIte, Nat.reduceEqDiff, Nat.reduceAdd, Int.reduceEq, Int.reduceLT, Int.reduceLE, Int.reduceNeg, Int.reduceAdd, Int.reduceSub, Int.reduceMul, Int.reduceToNat, Nat.reduceMul, Nat.reduceSub, Nat.reduceLT, Nat.reduceLeDiff, ir61, Ws_length, Int.ofNat_lt, hlt, hx]
    exact hK
  · have e : a.getD i 0 = 0 := by rw [List.getD_eq_getElem?_getD, List.getElem?_eq_none (by omega)]; rfl
    rw [e] at hK
    simp -dsimp -implicitDefEqProofs only [↓STP, STQ, ne_eq, implies_true, forall_const, if_false, if_true, reduceCtorEq, ↓reduceIte, Nat.reduceEqDiff, Nat.reduceAdd, Int.reduceEq, Int.reduceLT, Int.reduceLE, Int.reduceNeg, Int.reduceAdd, Int.reduceSub, Int.reduceMul, Int.reduceToNat, Nat.reduceMul, Nat.reduceSub, Nat.reduceLT, Nat.reduceLeDiff, ir61, Ws_length, Int.ofNat_lt, hlt]
    exact hK

def InvLess02 (a b : List Nat) (N : Nat) (h : H) (k : Nat) (st : S) : Prop :=
  ∃ i : Nat, k = N - i ∧ i ≤ N ∧ st = ⟨upd (upd (upd (upd ρ0 0 (.vec (Ws a) .any)) 1 (.vec (Ws b) .any)) 5 (W (prS fLess a b 0 i))) 6 (I i), m0, 0, [], h⟩

theorem less02 {a b : List Nat} (ha : a.length ≤ 1000) (hb : b.length ≤ 1000) (hK : K (.ret (W (prS fLess a b 0 (max a.length b.length)))) h) : R 37 [.vec (Ws a) .any, .vec (Ws b) .any] h K := by
  refine run37 (Nat.le_of_ble_eq_true rfl) ?_
  simp -dsimp -implicitDefEqProofs only [↓STP, STQ, ne_eq, implies_true, forall_const, if_false, if_true, reduceCtorEq, ↓reduceIte, Nat.reduceEqDiff, Nat.reduceAdd, Int.reduceEq, Int.reduceLT, Int.reduceLE, Int.reduceNeg, Int.reduceAdd, Int.reduceSub, Int.reduceMul, Int.reduceToNat, Nat.reduceMul, Nat.reduceSub, Nat.reduceLT, Nat.reduceLeDiff, ir37]
  refine codeT_loop (InvLess02 a b (max a.length b.length) h) (i := max a.length b.length) ⟨0, rfl, by omega, by simp -dsimp -implicitDefEqProofs only [↓STP, STQ, ne_eq, implies_true, forall_const, if_false, if_true, reduceCtorEq, ↓reduceIte, Nat.reduceEqDiff, Nat.reduceAdd, Int.reduceEq, Int.reduceLT, Int.reduceLE, Int.reduceNeg, Int.reduceAdd, Int.reduceSub, Int.reduceMul, Int.reduceToNat, Nat.reduceMul, Nat.reduceSub, Nat.reduceLT, Nat.reduceLeDiff] <;> rfl⟩ ?_ mono
  rintro k st ⟨i, rfl, hi, rfl⟩
  by_cases hlt : i < max a.length b.length
  · have wi : IntKind.i64.wrap ((i : Int) + 1) = ((i + 1 : Nat) : Int) := by rw [wrap_i64] <;> omega
    have body : ∀ {st : S}, st = st := fun {st} => rfl
    have ab : i < a.length ∨ (¬ i < a.length ∧ i < b.length) := by omega
    rcases ab with g1 | ⟨g1, g2⟩
    · simp -dsimp -implicitDefEqProofs only [↓STP, STQ, ne_eq, implies_true, forall_const, if_false, if_true, reduceCtorEq, ↓reduceIte, Nat.reduceEqDiff, Nat.reduceAdd, Int.reduceEq, Int.reduceLT, Int.reduceLE, Int.reduceNeg, Int.reduceAdd, Int.reduceSub, Int.reduceMul, Int.reduceToNat, Nat.reduceMul, Nat.reduceSub, Nat.reduceLT, Nat.reduceLeDiff, Ws_length, Int.ofNat_lt, g1]
      refine bit02 ?_
      simp -dsimp -implicitDefEqProofs only [↓STP, STQ, ne_eq, implies_true, forall_const, if_false, if_true, reduceCtorEq, ↓reduceIte, Nat.reduceEqDiff, Nat.reduceAdd, Int.reduceEq, Int.reduceLT, Int.reduceLE, Int.reduceNeg, Int.reduceAdd, Int.reduceSub, Int.reduceMul, Int.reduceToNat, Nat.reduceMul, Nat.reduceSub, Nat.reduceLT, Nat.reduceLeDiff]
      refine bit02 ?_
      by_cases e : (a.getD i 0 : Int) = b.getD i 0
      · simp -dsimp -implicitDefEqProofs only [↓STP, STQ, ne_eq, implies_true, forall_const, if_false, if_true, reduceCtorEq, ↓reduceIte, Nat.reduceEqDiff, Nat.reduceAdd, Int.reduceEq, Int.reduceLT, Int.reduceLE, Int.reduceNeg, Int.reduceAdd, Int.reduceSub, Int.reduceMul, Int.reduceToNat, Nat.reduceMul, Nat.reduceSub, Nat.reduceLT, Nat.reduceLeDiff, eq_true e, wi]
        refine ⟨_, ?_, i + 1, rfl, by omega, ?_⟩
        · omega
        · have : prS fLess a b 0 (i + 1) = prS fLess a b 0 i := by show fLess _ _ _ = _; rw [fLess, if_pos (by omega)]
          rw [this]
      · simp -dsimp -implicitDefEqProofs only [↓STP, STQ, ne_eq, implies_true, forall_const, if_false, if_true, reduceCtorEq, ↓reduceIte, Nat.reduceEqDiff, Nat.reduceAdd, Int.reduceEq, Int.reduceLT, Int.reduceLE, Int.reduceNeg, Int.reduceAdd, Int.reduceSub, Int.reduceMul, Int.reduceToNat, Nat.reduceMul, Nat.reduceSub, Nat.reduceLT, Nat.reduceLeDiff, eq_false e, wi]
        refine ⟨_, ?_, i + 1, rfl, by omega, ?_⟩
        · omega
        · have : prS fLess a b 0 (i + 1) = b.getD i 0 := by show fLess _ _ _ = _; rw [fLess, if_neg (by omega)]
          rw [this]
    · simp -dsimp -implicitDefEqProofs only [↓STP, STQ, ne_eq, implies_true, forall_const, if_false, if_true, reduceCtorEq, ↓reduceIte, Nat.reduceEqDiff, Nat.reduceAdd, Int.reduceEq, Int.reduceLT, Int.reduceLE, Int.reduceNeg, Int.reduceAdd, Int.reduceSub, Int.reduceMul, Int.reduceToNat, Nat.reduceMul, Nat.reduceSub, Nat.reduceLT, Nat.reduceLeDiff, Ws_length, Int.ofNat_lt, g1, g2]
      refine bit02 ?_
      simp -dsimp -implicitDefEqProofs only [↓STP, STQ, ne_eq, implies_true, forall_const, if_false, if_true, reduceCtorEq, ↓reduceIte, Nat.reduceEqDiff, Nat.reduceAdd, Int.reduceEq, Int.reduceLT, Int.reduceLE, Int.reduceNeg, Int.reduceAdd, Int.reduceSub, Int.reduceMul, Int.reduceToNat, Nat.reduceMul, Nat.reduceSub, Nat.reduceLT, Nat.reduceLeDiff]
      refine bit02 ?_
      by_cases e : (a.getD i 0 : Int) = b.getD i 0
      · simp -dsimp -implicitDefEqProofs only [↓STP, STQ, ne_eq, implies_true, forall_const, if_false, if_true, reduceCtorEq, ↓reduceIte, Nat.reduceEqDiff, Nat.reduceAdd, Int.reduceEq, Int.reduceLT, Int.reduceLE, Int.reduceNeg, Int.reduceAdd, Int.reduceSub, Int.reduceMul, Int.reduceToNat, Nat.reduceMul, Nat.reduceSub, Nat.reduceLT, Nat.reduceLeDiff, eq_true e, wi]
        refine ⟨_, ?_, i + 1, rfl, by omega, ?_⟩
        · omega
        · have : prS fLess a b 0 (i + 1) = prS fLess a b 0 i := by show fLess _ _ _ = _; rw [fLess, if_pos (by omega)]
          rw [this]
      · simp -dsimp -implicitDefEqProofs only [↓STP, STQ, ne_eq, implies_true, forall_const, if_false, if_true, reduceCtorEq, ↓reduceIte, Nat.reduceEqDiff, Nat.reduceAdd, Int.reduceEq, Int.reduceLT, Int.reduceLE, Int.reduceNeg, Int.reduceAdd, Int.reduceSub, Int.reduceMul, Int.reduceToNat, Nat.reduceMul, Nat.reduceSub, Nat.reduceLT, Nat.reduceLeDiff, eq_false e, wi]
        refine ⟨_, ?_, i + 1, rfl, by omega, ?_⟩
        · omega
        · have : prS fLess a b 0 (i + 1) = b.getD i 0 := by show fLess _ _ _ = _; rw [fLess, if_neg (by omega)]
          rw [this]
  · have hie : i = max a.length b.length := by omega
    simp -dsimp -implicitDefEqProofs only [↓STP, STQ, ne_eq, implies_true, forall_const, if_false, if_true, reduceCtorEq, ↓reduceIte, Nat.reduceEqDiff, Nat.reduceAdd, Int.reduceEq, Int.reduceLT, Int.reduceLE, Int.reduceNeg, Int.reduceAdd, Int.reduceSub, Int.reduceMul, Int.reduceToNat, Nat.reduceMul, Nat.reduceSub, Nat.reduceLT, Nat.reduceLeDiff, Ws_length, Int.ofNat_lt, eq_false (show ¬ i < a.length by omega), eq_false (show ¬ i < b.length by omega)]
    rw [hie]
    exact hK

theorem like_zero {a b : List Nat} {i : Nat} (hi : prS fLike a b 1 i = 0) : ∀ n, prS fLike a b 1 (i + n) = 0
  | 0 => hi
  | n + 1 => by
    show fLike _ _ (prS fLike a b 1 (i + n)) = 0
    rw [like_zero hi n]; unfold fLike; split <;> rfl

def InvEq02 (a b : List Nat) (N : Nat) (h : H) (k : Nat) (st : S) : Prop :=
  ∃ i : Nat, k = N - i ∧ i ≤ N ∧ prS fLike a b 1 i = 1 ∧ st = ⟨upd (upd (upd ρ0 0 (.vec (Ws a) .any)) 1 (.vec (Ws b) .any)) 5 (I i), m0, 0, [], h⟩

theorem equal02 {a b : List Nat} (ha : a.length ≤ 1000) (hb : b.length ≤ 1000) (hK : K (.ret (W (prS fLike a b 1 (max a.length b.length)))) h) : R 38 [.vec (Ws a) .any, .vec (Ws b) .any] h K := by
  refine run38 (Nat.le_of_ble_eq_true rfl) ?_
  simp -dsimp -implicitDefEqProofs only [↓STP, STQ, ne_eq, implies_true, forall_const, if_false, if_true, reduceCtorEq, ↓reduceIte, Nat.reduceEqDiff, Nat.reduceAdd, Int.reduceEq, Int.reduceLT, Int.reduceLE, Int.reduceNeg, Int.reduceAdd, Int.reduceSub, Int.reduceMul, Int.reduceToNat, Nat.reduceMul, Nat.reduceSub, Nat.reduceLT, Nat.reduceLeDiff, ir38]
  refine codeT_loop (InvEq02 a b (max a.length b.length) h) (i := max a.length b.length) ⟨0, rfl, by omega, rfl, by simp -dsimp -implicitDefEqProofs only [↓STP, STQ, ne_eq, implies_true, forall_const, if_false, if_true, reduceCtorEq, ↓reduceIte, Nat.reduceEqDiff, Nat.reduceAdd, Int.reduceEq, Int.reduceLT, Int.reduceLE, Int.reduceNeg, Int.reduceAdd, Int.reduceSub, Int.reduceMul, Int.reduceToNat, Nat.reduceMul, Nat.reduceSub, Nat.reduceLT, Nat.reduceLeDiff] <;> rfl⟩ ?_ mono
  rintro k st ⟨i, rfl, hi, hpr, rfl⟩
  by_cases hlt : i < max a.length b.length
  · have wi : IntKind.i64.wrap ((i : Int) + 1) = ((i + 1 : Nat) : Int) := by rw [wrap_i64] <;> omega
    have no : ¬ (a.getD i 0 : Int) = b.getD i 0 → prS fLike a b 1 (max a.length b.length) = 0 := fun e => by
      have h0 : prS fLike a b 1 (i + 1) = 0 := by show fLike _ _ _ = _; rw [fLike, if_neg (by omega)]
      have := like_zero h0 (max a.length b.length - (i + 1))
      rwa [show i + 1 + (max a.length b.length - (i + 1)) = max a.length b.length by omega] at this
    have ye : (a.getD i 0 : Int) = b.getD i 0 → prS fLike a b 1 (i + 1) = 1 := fun e => by show fLike _ _ _ = _; rw [fLike, if_pos (by omega)]; exact hpr
    have ab : i < a.length ∨ (¬ i < a.length ∧ i < b.length) := by omega
    rcases ab with g1 | ⟨g1, g2⟩
    · simp -dsimp -implicitDefEqProofs only [↓STP, STQ, ne_eq, implies_true, forall_const, if_false, if_true, reduceCtorEq, ↓reduceIte, Nat.reduceEqDiff, Nat.reduceAdd, Int.reduceEq, Int.reduceLT, Int.reduceLE, Int.reduceNeg, Int.reduceAdd, Int.reduceSub, Int.reduceMul, Int.reduceToNat, Nat.reduceMul, Nat.reduceSub, Nat.reduceLT, Nat.reduceLeDiff, Ws_length, Int.ofNat_lt, g1]
      refine bit02 ?_
      simp -dsimp -implicitDefEqProofs only [↓STP, STQ, ne_eq, implies_true, forall_const, if_false, if_true, reduceCtorEq, ↓reduceIte, Nat.reduceEqDiff, Nat.reduceAdd, Int.reduceEq, Int.reduceLT, Int.reduceLE, Int.reduceNeg, Int.reduceAdd, Int.reduceSub, Int.reduceMul, Int.reduceToNat, Nat.reduceMul, Nat.reduceSub, Nat.reduceLT, Nat.reduceLeDiff]
      refine bit02 ?_
      by_cases e : (a.getD i 0 : Int) = b.getD i 0
      · simp -dsimp -implicitDefEqProofs only [↓STP, STQ, ne_eq, implies_true, forall_const, if_false, if_true, reduceCtorEq, ↓reduceIte, Nat.reduceEqDiff, Nat.reduceAdd, Int.reduceEq, Int.reduceLT, Int.reduceLE, Int.reduceNeg, Int.reduceAdd, Int.reduceSub, Int.reduceMul, Int.reduceToNat, Nat.reduceMul, Nat.reduceSub, Nat.reduceLT, Nat.reduceLeDiff, eq_true e, wi]
        exact ⟨_, by omega, i + 1, rfl, by omega, ye e, rfl⟩
      · simp -dsimp -implicitDefEqProofs only [↓STP, STQ, ne_eq, implies_true, forall_const, if_false, if_true, reduceCtorEq, ↓reduceIte, Nat.reduceEqDiff, Nat.reduceAdd, Int.reduceEq, Int.reduceLT, Int.reduceLE, Int.reduceNeg, Int.reduceAdd, Int.reduceSub, Int.reduceMul, Int.reduceToNat, Nat.reduceMul, Nat.reduceSub, Nat.reduceLT, Nat.reduceLeDiff, eq_false e, wi]
        rw [no e] at hK
        exact hK
    · simp -dsimp -implicitDefEqProofs only [↓STP, STQ, ne_eq, implies_true, forall_const, if_false, if_true, reduceCtorEq, ↓reduceIte, Nat.reduceEqDiff, Nat.reduceAdd, Int.reduceEq, Int.reduceLT, Int.reduceLE, Int.reduceNeg, Int.reduceAdd, Int.reduceSub, Int.reduceMul, Int.reduceToNat, Nat.reduceMul, Nat.reduceSub, Nat.reduceLT, Nat.reduceLeDiff, Ws_length, Int.ofNat_lt, g1, g2]
      refine bit02 ?_
      simp -dsimp -implicitDefEqProofs only [↓STP, STQ, ne_eq, implies_true, forall_const, if_false, if_true, reduceCtorEq, ↓reduceIte, Nat.reduceEqDiff, Nat.reduceAdd, Int.reduceEq, Int.reduceLT, Int.reduceLE, Int.reduceNeg, Int.reduceAdd, Int.reduceSub, Int.reduceMul, Int.reduceToNat, Nat.reduceMul, Nat.reduceSub, Nat.reduceLT, Nat.reduceLeDiff]
      refine bit02 ?_
      by_cases e : (a.getD i 0 : Int) = b.getD i 0
      · simp -dsimp -implicitDefEqProofs only [↓STP, STQ, ne_eq, implies_true, forall_const, if_false, if_true, reduceCtorEq, ↓reduceIte, Nat.reduceEqDiff, Nat.reduceAdd, Int.reduceEq, Int.reduceLT, Int.reduceLE, Int.reduceNeg, Int.reduceAdd, Int.reduceSub, Int.reduceMul, Int.reduceToNat, Nat.reduceMul, Nat.reduceSub, Nat.reduceLT, Nat.reduceLeDiff, eq_true e, wi]
        exact ⟨_, by omega, i + 1, rfl, by omega, ye e, rfl⟩
      · simp -dsimp -implicitDefEqProofs only [↓STP, STQ, ne_eq, implies_true, forall_const, if_false, if_true, reduceCtorEq, ↓reduceIte, Nat.reduceEqDiff, Nat.reduceAdd, Int.reduceEq, Int.reduceLT, Int.reduceLE, Int.reduceNeg, Int.reduceAdd, Int.reduceSub, Int.reduceMul, Int.reduceToNat, Nat.reduceMul, Nat.reduceSub, Nat.reduceLT, Nat.reduceLeDiff, eq_false e, wi]
        rw [no e] at hK
        exact hK
  · have hie : i = max a.length b.length := by omega
    simp -dsimp -implicitDefEqProofs only [↓STP, STQ, ne_eq, implies_true, forall_const, if_false, if_true, reduceCtorEq, ↓reduceIte, Nat.reduceEqDiff, Nat.reduceAdd, Int.reduceEq, Int.reduceLT, Int.reduceLE, Int.reduceNeg, Int.reduceAdd, Int.reduceSub, Int.reduceMul, Int.reduceToNat, Nat.reduceMul, Nat.reduceSub, Nat.reduceLT, Nat.reduceLeDiff, Ws_length, Int.ofNat_lt, eq_false (show ¬ i < a.length by omega), eq_false (show ¬ i < b.length by omega)]
    rw [← hie, hpr] at hK
    exact hK

def kk : Nat → Int
  | 0 => -1
  | j + 1 => (j : Int)

def InvNum (p : Nat) (l : List Nat) (h : H) (k : Nat) (st : S) : Prop :=
  k ≤ l.length ∧ st = ⟨upd (upd (upd (upd ρ0 0 (W p)) 1 (.vec (Ws l) .any)) 5 (W (number (l.drop k) % p))) 6 (.int .i64 (kk k)), m0, 0, [], h⟩

theorem number34 {l : List Nat} (hs : Supp p q) (hl : l.length ≤ 1000) (hb : ∀ x ∈ l, x ≤ 1) (hK : K (.ret (W (number l % p))) h) : R 39 [W p, .vec (Ws l) .any] h K := by
  have hp : 0 < p ∧ p ≤ 2305843009213693951 := by
    rcases hs with ⟨rfl, _⟩ | ⟨rfl, _⟩ | ⟨rfl, _⟩ | ⟨rfl, _⟩ | ⟨rfl, _⟩ | ⟨rfl, _⟩ | ⟨rfl, _⟩ <;> decide
  have wl : IntKind.i64.wrap ((l.length : Int) - 1) = kk l.length := by
    rw [wrap_i64] <;> first | omega | skip
    cases l with
    | nil => rfl
    | cons a l => simp only [List.length_cons, kk]; omega
  refine run39 (Nat.le_of_ble_eq_true rfl) ?_
  simp -dsimp -implicitDefEqProofs only [↓STP, STQ, ne_eq, implies_true, forall_const, if_false, if_true, reduceCtorEq, ↓reduceIte, Nat.reduceEqDiff, Nat.reduceAdd, Int.reduceEq, Int.reduceLT, Int.reduceLE, Int.reduceNeg, Int.reduceAdd, Int.reduceSub, Int.reduceMul, Int.reduceToNat, Nat.reduceMul, Nat.reduceSub, Nat.reduceLT, Nat.reduceLeDiff, ir39, Ws_length, wl]
  refine codeT_loop (InvNum p l h) (i := l.length) ⟨Nat.le_refl _, by rw [List.drop_length]; rw [show number [] % p = 0 from Nat.zero_mod p]; simp -dsimp -implicitDefEqProofs only [↓STP, STQ, ne_eq, implies_true, forall_const, if_false, if_true, reduceCtorEq, ↓reduceIte, Nat.reduceEqDiff, Nat.reduceAdd, Int.reduceEq, Int.reduceLT, Int.reduceLE, Int.reduceNeg, Int.reduceAdd, Int.reduceSub, Int.reduceMul, Int.reduceToNat, Nat.reduceMul, Nat.reduceSub, Nat.reduceLT, Nat.reduceLeDiff] <;> rfl⟩ ?_ mono
  rintro k st ⟨hk, rfl⟩
  cases k with
  | zero =>
    simp -dsimp -implicitDefEqProofs only [↓STP, STQ, ne_eq, implies_true, forall_const, if_false, if_true, reduceCtorEq, ↓reduceIte, Nat.reduceEqDiff, Nat.reduceAdd, Int.reduceEq, Int.reduceLT, Int.reduceLE, Int.reduceNeg, Int.reduceAdd, Int.reduceSub, Int.reduceMul, Int.reduceToNat, Nat.reduceMul, Nat.reduceSub, Nat.reduceLT, Nat.reduceLeDiff, kk]
    exact hK
  | succ j =>
    have hx : (Ws l)[j]? = some (W l[j]) := by rw [Ws_get, List.getElem?_eq_getElem hk]; rfl
    have hbj := hb _ (List.getElem_mem hk)
    have hd : number (l.drop j) = l[j] + 2 * number (l.drop (j + 1)) := by rw [List.drop_eq_getElem_cons hk]; rfl
    have hlt := Nat.mod_lt (number (l.drop (j + 1))) hp.1
    have hlt2 := Nat.mod_lt (number (l.drop (j + 1)) % p + number (l.drop (j + 1)) % p) hp.1
    have wj : IntKind.i64.wrap ((j : Int) - 1) = kk j := by
      rw [wrap_i64] <;> first | omega | skip
      cases j with
      | zero => rfl
      | succ j => simp only [kk]; omega
    simp -dsimp -implicitDefEqProofs only [↓STP, STQ, ne_eq, implies_true, forall_const, if_false, if_true, reduceCtorEq, ↓reduceIte, Nat.reduceEqDiff, Nat.reduceAdd, Int.reduceEq, Int.reduceLT, Int.reduceLE, Int.reduceNeg, Int.reduceAdd, Int.reduceSub, Int.reduceMul, Int.reduceToNat, Nat.reduceMul, Nat.reduceSub, Nat.reduceLT, Nat.reduceLeDiff, kk, hx, eq_true (show (0 : Int) ≤ (j : Int) by omega)]
    refine radd_spec hp.1 (by omega) ?_
    simp -dsimp -implicitDefEqProofs only [↓STP, STQ, ne_eq, implies_true, forall_const, if_false, if_true, reduceCtorEq, ↓reduceIte, Nat.reduceEqDiff, Nat.reduceAdd, Int.reduceEq, Int.reduceLT, Int.reduceLE, Int.reduceNeg, Int.reduceAdd, Int.reduceSub, Int.reduceMul, Int.reduceToNat, Nat.reduceMul, Nat.reduceSub, Nat.reduceLT, Nat.reduceLeDiff, hx]
    refine radd_spec hp.1 (by omega) ?_
    simp -dsimp -implicitDefEqProofs only [↓STP, STQ, ne_eq, implies_true, forall_const, if_false, if_true, reduceCtorEq, ↓reduceIte, Nat.reduceEqDiff, Nat.reduceAdd, Int.reduceEq, Int.reduceLT, Int.reduceLE, Int.reduceNeg, Int.reduceAdd, Int.reduceSub, Int.reduceMul, Int.reduceToNat, Nat.reduceMul, Nat.reduceSub, Nat.reduceLT, Nat.reduceLeDiff, wj]
    refine ⟨j, Nat.lt_succ_self _, by omega, ?_⟩
    rw [hd]
    have : (l[j] + 2 * number (l.drop (j + 1))) % p = ((number (l.drop (j + 1)) % p + number (l.drop (j + 1)) % p) % p + l[j]) % p := by
      rw [Nat.mod_add_mod, Nat.add_right_comm, Nat.add_mod_mod, Nat.add_assoc, Nat.mod_add_mod]
      congr 1; omega
    rw [this]

end
end Go.Ab.Ytgfnhkedfmnijaa
