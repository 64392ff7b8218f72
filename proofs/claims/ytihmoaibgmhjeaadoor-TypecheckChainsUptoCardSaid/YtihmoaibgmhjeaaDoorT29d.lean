/- Chains of additions and of products: how wide they are. -/
import Derived.Test.YtihmoaibgmhjeaaDoorT29a
set_option linter.unusedVariables false
set_option linter.unusedSimpArgs false
namespace Go.Ab
theorem exprT_numd {p : Prg} {σ : TE} {n : Nat} (h : n < 1152921504606846976) : exprT p σ (numX n) = .ok (kcon n, max 0 (wid n)) := by
  rw [numX, exprT, exprsT, andT_ok]
  have hw : wid n ≤ 60 := wid_le (k := 60) (by omega) (by decide)
  show andT (.ok (kcon n)) _ = _
  rw [andT_ok]
  unfold toldT
  rw [if_pos (show (kcon n).kind = 1 from rfl), if_neg (by show ¬ 60 < wid n; omega)]
  rfl
def chS (t : Bool) (r : Exp × Nat × Nat) (n : Nat) : Exp × Nat × Nat :=
  (opX (if t then 3 else 1) r.1 (numX n), (if t then r.2.1 + wid n else max r.2.1 (wid n) + 1), max (max r.2.2 (wid n)) (if t then r.2.1 + wid n else max r.2.1 (wid n) + 1))
def chN (t : Bool) (l : List Nat) : Nat → Exp × Nat × Nat
  | 0 => (numX (l.getD 0 0 % 1000), wid (l.getD 0 0 % 1000), wid (l.getD 0 0 % 1000))
  | i + 1 => chS t (chN t l i) (l.getD (i + 1) 0 % 1000)
theorem wid10 (n : Nat) : wid (n % 1000) ≤ 10 := wid_le (k := 10) (by have := Nat.mod_lt n (show 1000 > 0 by decide); omega) (by decide)
theorem ch_le {t : Bool} {l : List Nat} : ∀ i, (chN t l i).2.1 ≤ 11 * (i + 1) ∧ (chN t l i).2.2 ≤ 11 * (i + 1) ∧ (chN t l i).2.1 ≤ (chN t l i).2.2
  | 0 => by have := wid10 (l.getD 0 0); unfold chN; exact ⟨by show wid _ ≤ _; omega, by show wid _ ≤ _; omega, Nat.le_refl _⟩
  | i + 1 => by
    obtain ⟨h1, h2, h3⟩ := @ch_le t l i
    have := wid10 (l.getD (i + 1) 0)
    unfold chN chS
    cases t
    · simp only [Bool.false_eq_true, if_false]; omega
    · simp only [if_true]; omega
theorem ch_exp {t : Bool} {l : List Nat} {p : Prg} {σ : TE} : ∀ i, ((chN t l i).2.2 ≤ 60 ∧ ∃ k, exprT p σ (chN t l i).1 = .ok (k, (chN t l i).2.2) ∧ k.kind = 1 ∧ k.w = (chN t l i).2.1) ∨ (60 < (chN t l i).2.2 ∧ exprT p σ (chN t l i).1 = .error 11)
  | 0 => by
    have h := wid10 (l.getD 0 0)
    refine .inl ⟨by show wid _ ≤ _; omega, kcon (l.getD 0 0 % 1000), ?_, rfl, rfl⟩
    show exprT p σ (numX _) = _
    rw [exprT_numd (by have := Nat.mod_lt (l.getD 0 0) (show 1000 > 0 by decide); omega), Nat.zero_max]
    rfl
  | i + 1 => by
    have hn : l.getD (i + 1) 0 % 1000 < 1000 := Nat.mod_lt _ (by decide)
    have hw := wid10 (l.getD (i + 1) 0)
    obtain ⟨b1, b2, b3⟩ := @ch_le t l i
    rw [chN]
    generalize l.getD (i + 1) 0 % 1000 = n at hn hw ⊢
    have ih := @ch_exp t l p σ i
    generalize chN t l i = r at ih b1 b2 b3
    obtain ⟨e, want, most⟩ := r
    have ho : ∀ a b : Exp, exprsT p σ [a, b] = andT (exprT p σ a) fun (x, m) => andT (exprT p σ b) fun (y, m') => .ok ([x, y], max m (max m' 0)) := by
      intro a b
      rw [exprsT, exprsT, exprsT]
      cases exprT p σ a with
      | error e => rfl
      | ok x => cases exprT p σ b with
        | error e => rfl
        | ok y => rfl
    rcases ih with ⟨hm, k, he, hk, hkw⟩ | ⟨hm, he⟩
    · have he : exprT p σ e = .ok (k, most) := he
      have hkw : k.w = want := hkw
      have hm : most ≤ 60 := hm
      have b3 : want ≤ most := b3
      have hr : exprT p σ (chS t (e, want, most) n).1 = toldT (max most (wid n)) (if t then ⟨1, want + wid n, k.is && true, if k.is && true then k.val * n else 0⟩ else ⟨1, max want (wid n) + 1, k.is && true, if k.is && true then k.val + n else 0⟩) := by
        show exprT p σ (opX (if t then 3 else 1) e (numX n)) = _
        rw [opX, exprT, ho, he, exprT_numd (by omega)]
        simp only [andT_ok, Nat.zero_max, Nat.max_zero]
        unfold madeT opK
        cases t
        · simp [nthK, opKind, hk, kcon, hkw]
        · simp [nthK, opKind, hk, kcon, hkw]
      have hq : ∃ q : Kn, exprT p σ (chS t (e, want, most) n).1 = toldT (max most (wid n)) q ∧ q.kind = 1 ∧ q.w = (chS t (e, want, most) n).2.1 := ⟨_, hr, by cases t <;> rfl, by cases t <;> rfl⟩
      obtain ⟨q, hr, hq1, hq2⟩ := hq
      have hmx : (chS t (e, want, most) n).2.2 = max (max most (wid n)) (chS t (e, want, most) n).2.1 := rfl
      rw [hmx, hr]
      unfold toldT
      rw [if_pos hq1, hq2]
      by_cases c : 60 < (chS t (e, want, most) n).2.1
      · rw [if_pos c]
        exact .inr ⟨by omega, rfl⟩
      · rw [if_neg c]
        exact .inl ⟨by omega, q, rfl, hq1, hq2⟩
    · refine .inr ⟨?_, ?_⟩
      · show 60 < max (max most _) _
        have : 60 < most := hm
        omega
      · have he : exprT p σ e = .error 11 := he
        show exprT p σ (opX (if t then 3 else 1) e (numX n)) = _
        rw [opX, exprT, ho, he]
        rfl
theorem ch_ve {t : Bool} {l : List Nat} : ∀ i lv, lv + i ≤ 24 → VE (chN t l i).1 lv
  | 0, lv, h => VE_numX (by have := Nat.mod_lt (l.getD 0 0) (show 1000 > 0 by decide); omega) (by omega)
  | i + 1, lv, h => by
    rw [chN]
    exact VE_opX (by cases t <;> decide) (by cases t <;> decide) (ch_ve i (lv + 1) (by omega)) (VE_numX (by have := Nat.mod_lt (l.getD (i + 1) 0) (show 1000 > 0 by decide); omega) (by omega)) (by omega)
theorem ch_ok {t : Bool} {l : List Nat} : ∀ i, EOk (chN t l i).1
  | 0 => EOk_num (by have := Nat.mod_lt (l.getD 0 0) (show 1000 > 0 by decide); omega)
  | i + 1 => by
    rw [chN]
    exact EOk_op (by cases t <;> decide) (by cases t <;> decide) (ch_ok i) (EOk_num (by have := Nat.mod_lt (l.getD (i + 1) 0) (show 1000 > 0 by decide); omega))
def Exp.cs : Exp → List V
  | .mk k o n s ks => [I k, I o, W n, .str s, .vec (ks.map Exp.v) .any]
def outP (e : Exp) : Prg := ⟨[], [], [.mk 5 noName [e] [] []]⟩
theorem out_vt {e : Exp} (h : EOk e) (v : VE e 2) : VT (outP e) := by
  refine ⟨⟨by simp [outP], by simp [outP], fun x hx => ?_, Nat.zero_le _, Nat.zero_le _, by show (1 : Nat) ≤ maxLen; decide⟩, VSs_all.2 fun x hx => ?_, by simp [outP], by simp [outP]⟩
  · rw [show (outP e).body = [.mk 5 noName [e] [] []] from rfl, List.mem_singleton] at hx
    subst hx
    exact .mk (i64s (by decide) (by decide)) (by decide) (by show (1 : Nat) ≤ maxLen; decide) (by decide) (by decide) (fun y hy => by
          rw [List.mem_singleton] at hy; subst hy
          exact h) (by simp) (by simp)
  · rw [show (outP e).body = [.mk 5 noName [e] [] []] from rfl, List.mem_singleton] at hx
    subst hx
    exact VS_mk.2 ⟨by decide, by decide, by decide, rfl, fun hn => absurd rfl hn.2, fun _ => rfl, fun _ => rfl, fun _ _ => rfl, fun y hy => by
          rw [List.mem_singleton] at hy; subst hy
          exact v, trivial, trivial⟩
theorem out_check {e : Exp} : (∀ k m, exprT (outP e) (initT (outP e)).env e = .ok (k, m) → errT (checkT (outP e)) = 0 ∧ mostT (checkT (outP e)) = m) ∧ (∀ n, exprT (outP e) (initT (outP e)).env e = .error n → errT (checkT (outP e)) = n ∧ mostT (checkT (outP e)) = 0) := by
  have hck : checkT (outP e) = stmtsT (outP e) [.mk 5 noName [e] [] []] (initT (outP e)) := rfl
  have hs : stmtsT (outP e) [.mk 5 noName [e] [] []] (initT (outP e)) = andT (exprT (outP e) (initT (outP e)).env e) fun (k, m) => .ok { { initT (outP e) with steps := 1 } with most := max 0 (max m 0) } := by
    rw [stmtsT, stmtT, show stepT (initT (outP e)) = .ok { initT (outP e) with steps := 1 } from rfl, andT_ok, exprsT, exprsT]
    show andT (andT (andT (exprT (outP e) (initT (outP e)).env e) _) _) _ = _
    cases exprT (outP e) (initT (outP e)).env e with
    | error n => rfl
    | ok x =>
      simp only [andT_ok]
      unfold stmt1
      rw [if_neg (by decide), if_neg (by decide), if_neg (by decide), if_neg (by decide), if_neg (show ¬ 0 < (initT (outP e)).ifs from Nat.lt_irrefl 0), andT_ok, stmtsT]
      rfl
  rw [hck, hs]
  refine ⟨fun k m h => ?_, fun n h => ?_⟩
  · rw [h, andT_ok]
    exact ⟨rfl, by show max 0 (max m 0) = m; omega⟩
  · rw [h, andT_error]
    exact ⟨rfl, rfl⟩

namespace YtihmoaibgmhjeaaDoor
section
variable {h : H} {K : Out → H → Prop}
theorem width02 {n : Nat} (hn : n < 18446744073709551616) (hK : K (.ret (I (wid n))) h) : R 20 [W n] h K := by
  refine run20 (Nat.le_of_ble_eq_true rfl) ?_
  simp -dsimp -implicitDefEqProofs only [↓STP, STQ, seval, ir20]
  refine codeT_loop (fun k st => ∃ m w : Nat, k = m ∧ m ≤ n ∧ wid n + 1 = w + wid m ∧ st = ⟨upd (upd ρ0 0 (W m)) 3 (I w), m0, 0, [], h⟩) (i := n) ⟨n, 1, rfl, Nat.le_refl _, by omega, by simp -dsimp -implicitDefEqProofs only [↓STP, STQ, seval] <;> rfl⟩ ?_ mono
  rintro m st ⟨_, w, rfl, hm, hw, rfl⟩
  have hle : wid n ≤ 64 := wid_le (k := 64) (by omega) (by decide)
  have hp := wid_pos m
  by_cases c : (1 : Int) < (m : Int)
  · have q1 : IntKind.u64.wrap (Int.tdiv (m : Int) 2) = ((m / 2 : Nat) : Int) := by
      rw [show Int.tdiv (m : Int) 2 = ((m / 2 : Nat) : Int) from rfl, wrap_u64_self] <;> omega
    have q2 : IntKind.i64.wrap ((w : Int) + 1) = ((w + 1 : Nat) : Int) := wi (by omega)
    have hb : wid m = wid (m / 2) + 1 := by
      unfold wid
      rw [blen_pos (show m ≠ 0 by omega)]
      have : 1 ≤ blen (m / 2) := by rw [blen_pos (show m / 2 ≠ 0 by omega)]; omega
      omega
    simp -dsimp -implicitDefEqProofs only [↓STP, STQ, seval, eq_true c, q1, q2]
    exact ⟨m / 2, by omega, m / 2, w + 1, rfl, by omega, by omega, rfl⟩
  · have h1 : wid m = 1 := by
      rcases (show m = 0 ∨ m = 1 by omega) with rfl | rfl
      · unfold wid; rw [blen_zero]; rfl
      · exact wid_one
    simp -dsimp -implicitDefEqProofs only [↓STP, STQ, seval, eq_false c]
    rw [show wid n = w by omega] at hK
    exact hK

theorem max_if {x y : Nat} : (if (y : Int) > (x : Int) then (y : Int) else (x : Int)) = ((max x y : Nat) : Int) := by
  split <;> omega
theorem chains29 {l : List Nat} {t : Bool} (hl : ∀ w ∈ l, w < 18446744073709551616) (hlen : l.length ≤ maxLen) (hK : ∀ h', K (.ret (.bool true)) h') : R 7 [.vec (Ws l) .any, .bool t] h K := by
  refine run7 (Nat.le_of_ble_eq_true rfl) ?_
  by_cases c0 : l.length = 0
  · simp -dsimp -implicitDefEqProofs only [↓STP, STQ, seval, ir7, Ws_length, c0, eq_self]
    refine awake29 fun h' _ => ?_
    simp -dsimp -implicitDefEqProofs only [↓STP, STQ, seval]
    exact hK _
  have c0' : ¬ (l.length : Int) = 0 := by omega
  by_cases c1 : (20 : Int) < (l.length : Int)
  · simp -dsimp -implicitDefEqProofs only [↓STP, STQ, seval, ir7, Ws_length, eq_false c0', eq_true c1]
    refine awake29 fun h' _ => ?_
    simp -dsimp -implicitDefEqProofs only [↓STP, STQ, seval]
    exact hK _
  have get : ∀ i, i < l.length → (Ws l)[i]? = some (W (l.getD i 0)) := fun i hi => by
    rw [Ws_get, List.getElem?_eq_getElem hi, List.getD_eq_getElem?_getD, List.getElem?_eq_getElem hi]; rfl
  have md : ∀ n : Nat, Int.tmod (n : Int) 1000 = ((n % 1000 : Nat) : Int) := fun n => rfl
  have lt : ∀ n : Nat, n % 1000 < 18446744073709551616 := fun n => by have := Nat.mod_lt n (show 1000 > 0 by decide); omega
  have g0 := get 0 (by omega)
  simp -dsimp -implicitDefEqProofs only [↓STP, STQ, seval, ir7, Ws_length, eq_false c0', eq_false c1, g0, md]
  refine numE29 ?_
  simp -dsimp -implicitDefEqProofs only [↓STP, STQ, seval, numX, Exp.v_mk, storeV, g0, md]
  refine width02 (lt _) ?_
  simp -dsimp -implicitDefEqProofs only [↓STP, STQ, seval]
  refine codeT_for (N := l.length - 1) (fun j => ⟨upd (upd (upd (upd (upd (upd ρ0 0 (.vec (Ws l) .any)) 1 (.bool t)) 5 (.lptr 0 5 0)) 6 (I (chN t l j).2.1)) 7 (I (chN t l j).2.2)) 8 (I (j + 1 : Nat)), upd m0 0 (some (chN t l j).1.cs), 1, [], h⟩) (fun _ => True) (by simp -dsimp -implicitDefEqProofs only [↓STP, STQ, seval] <;> rfl) trivial (fun j hj _ => ?_) (fun _ => ?_) mono
  · have g1 := get (j + 1) (by omega)
    obtain ⟨⟨⟨k, o, n, s, ks⟩, want, most⟩, hr⟩ : ∃ r, r = chN t l j := ⟨_, rfl⟩
    have b := @ch_le t l j
    have e1 : chN t l (j + 1) = chS t (chN t l j) (l.getD (j + 1) 0 % 1000) := rfl
    rw [e1]
    rw [← hr] at b ⊢
    obtain ⟨b1, b2, b3⟩ := b
    have b1 : want ≤ 11 * (j + 1) := b1
    have b2 : most ≤ 11 * (j + 1) := b2
    have hw := wid10 (l.getD (j + 1) 0)
    have hlt := lt (l.getD (j + 1) 0)
    have w1 : IntKind.i64.wrap ((want : Int) + ((wid (l.getD (j + 1) 0 % 1000) : Nat) : Int)) = ((want + wid (l.getD (j + 1) 0 % 1000) : Nat) : Int) := by
      rw [wrap_i64 (by omega) (by omega)]; exact (Int.natCast_add _ _).symm
    have lj : ((j + 1 : Nat) : Int) < (l.length : Int) := by omega
    have mx : ∀ x y : Nat, maxV (I x) [I y] = some (I (max x y : Nat)) := fun x y => by rw [maxV_two, max_if]
    have mx3 : ∀ x y z : Nat, maxV (I x) [I y, I z] = some (I (max (max x y) z : Nat)) := fun x y z => by
      show maxV (.int .i64 (if (y : Int) > x then (y : Int) else x)) [I z] = _
      rw [max_if]; exact mx _ _
    have w2 : IntKind.i64.wrap (((max want (wid (l.getD (j + 1) 0 % 1000)) : Nat) : Int) + 1) = ((max want (wid (l.getD (j + 1) 0 % 1000)) + 1 : Nat) : Int) := wi (by omega)
    have w3 : IntKind.i64.wrap (((j + 1 : Nat) : Int) + 1) = ((j + 1 + 1 : Nat) : Int) := wi (by omega)
    cases t
    · simp -dsimp -implicitDefEqProofs only [↓STP, STQ, seval, Exp.cs, Ws_length, eq_true lj, g1, md]
      refine width02 hlt ?_
      simp -dsimp -implicitDefEqProofs only [↓STP, STQ, seval, mx, w2]
      refine numE29 ?_
      simp -dsimp -implicitDefEqProofs only [↓STP, STQ, seval, numX, Exp.v_mk]
      rw [show V.agg [I k, I o, W n, .str s, .vec (ks.map Exp.v) .any] = (Exp.mk k o n s ks).v from Exp.v_mk.symm]
      refine opE29 (k := 1) (a := .mk k o n s ks) (b := numX (l.getD (j + 1) 0 % 1000)) ?_
      simp -dsimp -implicitDefEqProofs only [↓STP, STQ, seval, opX, numX, Exp.v_mk, storeV, mx3, w3]
      simp only [chS, opX, numX, Exp.cs, List.map_cons, List.map_nil, Exp.v_mk, Bool.false_eq_true, if_false, if_true]
    · simp -dsimp -implicitDefEqProofs only [↓STP, STQ, seval, Exp.cs, Ws_length, eq_true lj, g1, md]
      refine width02 hlt ?_
      simp -dsimp -implicitDefEqProofs only [↓STP, STQ, seval, w1]
      refine numE29 ?_
      simp -dsimp -implicitDefEqProofs only [↓STP, STQ, seval, numX, Exp.v_mk]
      rw [show V.agg [I k, I o, W n, .str s, .vec (ks.map Exp.v) .any] = (Exp.mk k o n s ks).v from Exp.v_mk.symm]
      refine opE29 (k := 3) (a := .mk k o n s ks) (b := numX (l.getD (j + 1) 0 % 1000)) ?_
      simp -dsimp -implicitDefEqProofs only [↓STP, STQ, seval, opX, numX, Exp.v_mk, storeV, mx3, w3]
      simp only [chS, opX, numX, Exp.cs, List.map_cons, List.map_nil, Exp.v_mk, Bool.false_eq_true, if_false, if_true]
  · have lj : ¬ ((l.length - 1 + 1 : Nat) : Int) < (l.length : Int) := by omega
    obtain ⟨⟨⟨k, o, n, s, ks⟩, want, most⟩, hr⟩ : ∃ r, r = chN t l (l.length - 1) := ⟨_, rfl⟩
    have ce := @ch_exp t l (outP (chN t l (l.length - 1)).1) (initT (outP (chN t l (l.length - 1)).1)).env (l.length - 1)
    have v : VT (outP (chN t l (l.length - 1)).1) := out_vt (ch_ok _) (ch_ve _ 2 (by omega))
    rw [← hr] at v ce ⊢
    have oc := @out_check (.mk k o n s ks)
    simp -dsimp -implicitDefEqProofs only [↓STP, STQ, seval, Ws_length, eq_false lj, Exp.cs, storeV]
    rw [show V.agg [I k, I o, W n, .str s, .vec (ks.map Exp.v) .any] = (Exp.mk k o n s ks).v from Exp.v_mk.symm]
    refine maxG v fun h1 u1 => ?_
    rcases ce with ⟨hm, kk, he, hk, hkw⟩ | ⟨hm, he⟩
    · obtain ⟨o1, o2⟩ := oc.1 _ _ he
      have d : ¬ (60 : Int) < (most : Int) := by have : most ≤ 60 := hm; omega
      simp -dsimp -implicitDefEqProofs only [↓STP, STQ, seval, o1, o2, eq_false d]
      refine awake29 fun h' _ => ?_
      simp -dsimp -implicitDefEqProofs only [↓STP, STQ, seval, o1, o2]
      exact hK _
    · obtain ⟨o1, o2⟩ := oc.2 _ he
      have d : (60 : Int) < (most : Int) := by have : 60 < most := hm; omega
      simp -dsimp -implicitDefEqProofs only [↓STP, STQ, seval, o1, o2, eq_true d]
      refine awake29 fun h' _ => ?_
      simp -dsimp -implicitDefEqProofs only [↓STP, STQ, seval, o1, o2]
      exact hK _
end
end YtihmoaibgmhjeaaDoor
end Go.Ab
