import Derived.Test.YtihmoaibgmhjeaaDoorD10
set_option linter.unusedVariables false
set_option linter.unusedSimpArgs false
namespace Go.Ab
theorem eta_loops {τ : TS} {l : List (ByteArray × Nat)} (h : τ.env.loops = l) : ({ τ with env := { τ.env with loops := l } } : TS) = τ := by
 obtain ⟨⟨a, b, c⟩, d, e, f⟩ := τ
 simp only at h
 subst h; rfl
theorem wuaddM {n : Nat} (h : n < 18446744073709551615) : IntKind.u64.wrap ((n : Int) + 1) = ((n + 1 : Nat) : Int) := by rw [wrap_u64_self] <;> omega
namespace YtihmoaibgmhjeaaDoor
section
variable {K : Out → H → Prop} {p : Prg}
def EndS (p : Prg) (L : Lk) (h : H) (K : Out → H → Prop) (r : TR TS) : Prop :=
 Ans r (fun σ' => ∀ L' h', At p L' σ' h' → Fr L L' h h' → K (.ret (.tuple [])) h') (fun e => ∀ L' h', Fr L L' h h' → K (.pan (wrongV e)) h')
def SpSs (p : Prg) (a : List Stm) (lv : Nat) : Prop := ∀ (L : Lk) (σ : TS) (h : H) (K : Out → H → Prop), At p L σ h → TOk p σ → σ.ifs ≤ lv → EndS p L h K (stmtsT p a σ) →
 R 37 [.ptr L.x 0, .vec (a.map Stm.v) .any] h K
theorem EndS.frame {L L1 : Lk} {h h1 : H} {r : TR TS} (F : Fr L L1 h h1) (hK : EndS p L h K r) : EndS p L1 h1 K r := by
 cases r with
 | ok σ => exact fun L' h' A' F' => hK _ _ A' (F.trans F')
 | error e => exact fun L' h' F' => hK _ _ (F.trans F')
theorem loopG {k : Int} {s : ByteArray} {e : List Exp} {a b : List Stm} {l : List Kn} {lv : Nat} (hp : PV p) (ha : SpSs p a lv) (good : GoodT p (stmtsT p a)) {L : Lk} {σ : TS} {h : H} (A : At p L σ h) (ok : TOk p σ) (hifs : σ.ifs ≤ lv)
  (hl : ∀ k ∈ l, KOk k) (hK : EndS p L h K (forT p s l (stmtsT p a) σ)) : R 58 [.ptr L.x 0, (Stm.mk k s e a b).v, (nthK l 0).v, (nthK l 1).v] h K := by
 have ok0 := nthK_ok hl 0
 have ok1 := nthK_ok hl 1
 unfold forT at hK
 generalize nthK l 0 = k0 at *
 generalize nthK l 1 = k1 at *
 refine run58 (Nat.le_of_ble_eq_true rfl) ?_
 by_cases c0 : k0.kind = 1
 rotate_left
 ·rw [if_pos (.inl c0)] at hK
  simp -dsimp -implicitDefEqProofs only [↓STP, STQ, seval, ir58, kn_cells, Stm.v_mk, eq_false c0]
  refine failG ?_
  simp -dsimp -implicitDefEqProofs only [↓STP, STQ, seval]
  exact hK _ _ (Fr.refl _ _)
 by_cases c1 : k1.kind = 1
 rotate_left
 ·rw [if_pos (.inr (.inl c1))] at hK
  simp -dsimp -implicitDefEqProofs only [↓STP, STQ, seval, ir58, kn_cells, Stm.v_mk, eq_true c0, eq_false c1]
  refine failG ?_
  simp -dsimp -implicitDefEqProofs only [↓STP, STQ, seval]
  exact hK _ _ (Fr.refl _ _)
 cases i0 : k0.is with
 | false =>
  rw [if_pos (.inr (.inr (.inl i0)))] at hK
  simp -dsimp -implicitDefEqProofs only [↓STP, STQ, seval, ir58, kn_cells, Stm.v_mk, eq_true c0, eq_true c1, i0]
  refine failG ?_
  simp -dsimp -implicitDefEqProofs only [↓STP, STQ, seval]
  exact hK _ _ (Fr.refl _ _)
 | true =>
 cases i1 : k1.is with
 | false =>
  rw [if_pos (.inr (.inr (.inr i1)))] at hK
  simp -dsimp -implicitDefEqProofs only [↓STP, STQ, seval, ir58, kn_cells, Stm.v_mk, eq_true c0, eq_true c1, i0, i1]
  refine failG ?_
  simp -dsimp -implicitDefEqProofs only [↓STP, STQ, seval]
  exact hK _ _ (Fr.refl _ _)
 | true =>
 rw [if_neg (by simp [c0, c1, i0, i1])] at hK
 simp -dsimp -implicitDefEqProofs only [↓STP, STQ, seval, ir58, kn_cells, Stm.v_mk, eq_true c0, eq_true c1, i0, i1]
 refine takenG A ?_
 cases ht : takenT p σ.env s with
 | true =>
  rw [ht, if_pos rfl] at hK
  simp -dsimp -implicitDefEqProofs only [↓STP, STQ, seval]
  refine failG ?_
  simp -dsimp -implicitDefEqProofs only [↓STP, STQ, seval]
  exact hK _ _ (Fr.refl _ _)
 | false =>
 rw [ht, if_neg (by decide)] at hK
 have hsl : s ∉ σ.env.loops.map (·.1) := by
  unfold takenT at ht
  simp only [Bool.or_eq_false_iff] at ht
  have := ht.2
  cases hf : findL s σ.env.loops with
  | none => exact findL_none.1 hf
  | some v => rw [hf] at this; cases this
 have gx := get_of A.x
 obtain ⟨ver, hv⟩ := A.v
 obtain ⟨h1, hmd, n1, s1, v1⟩ := mdel_ok (s := s) hv
 simp -dsimp -implicitDefEqProofs only [↓STP, STQ, seval, gx, Lk.cs, hmd]
 obtain ⟨A1, F1⟩ := A.setVars (h' := h1) ⟨n1, s1⟩ v1 (vars' := setV σ.env.vars s none) (fun t => by rw [findL_delE A.esn, A.es]; rfl) (List.Nodup.sublist sub_delE A.esn)
 have ok1' : TOk p { σ with env := { σ.env with vars := setV σ.env.vars s none } } := ⟨ok.env.setV (fun k w h => by cases h), ok.steps, ok.most⟩
 generalize hσ1 : ({ σ with env := { σ.env with vars := setV σ.env.vars s none } } : TS) = σ1 at *
 generalize hL1 : ({ L with es := delE s L.es } : Lk) = L1 at *
 have hlp : σ1.env.loops = σ.env.loops := by subst hσ1; rfl
 have hif : σ1.ifs = σ.ifs := by subst hσ1; rfl
 have hx1 : L1.x = L.x := by subst hL1; rfl
 have hv1 := ok1.lt
 have hv0 := ok0.lt
 refine codeT_loop (fun c s' => ∃ n τ tl L' h', c = k1.val + 1 - n ∧ n ≤ 1152921504606846976 ∧ (tl = [] ∨ ∃ q, tl = [(s, q)]) ∧ At p L' { τ with env := { τ.env with loops := σ.env.loops ++ tl } } h' ∧ TOk p τ ∧ τ.env.loops = σ.env.loops ∧ τ.ifs = σ.ifs ∧ Fr L L' h h' ∧
  EndS p L h K (iterT (turnT s (stmtsT p a)) (k1.val + 1 - n) n τ) ∧
  s' = ⟨upd (upd (upd (upd ρ0 0 (.ptr L.x 0)) 5 (.lptr 0 5 0)) 7 (.lptr 1 4 0)) 8 (W n), upd (upd m0 0 (some [I k, .str s, .vec (e.map Exp.v) .any, .vec (a.map Stm.v) .any, .vec (b.map Stm.v) .any])) 1 (some [I k1.kind, I k1.w, .bool true, W k1.val]), 2, [], h'⟩)
  (i := k1.val + 1 - k0.val) ⟨k0.val, σ1, [], L1, h1, rfl, by omega, .inl rfl, by rw [List.append_nil, ← hlp]; exact A1, ok1', hlp, hif, F1, hK, by simp -dsimp -implicitDefEqProofs only [↓STP, STQ, seval] <;> rfl⟩ ?_ mono
 rintro c s' ⟨n, τ, tl, L', h', rfl, hn, htl, A', okτ, hτl, hτi, F', hK', rfl⟩
 have gx' := get_of A'.x
 rw [F'.x] at gx'
 by_cases hle : n ≤ k1.val
 rotate_left
 ·-- behind the last iteration
  have hle' : ¬ ((n : Nat) : Int) ≤ ((k1.val : Nat) : Int) := by omega
  rw [show k1.val + 1 - n = 0 by omega, iterT] at hK'
  obtain ⟨ver', hl'⟩ := A'.l
  obtain ⟨h2, hmd2, n2, s2, v2⟩ := mdel_ok (s := s) hl'
  simp -dsimp -implicitDefEqProofs only [↓STP, STQ, seval, eq_false hle', gx', Lk.cs, hmd2]
  have hdel : delE s (σ.env.loops ++ tl) = σ.env.loops := by
   rcases htl with rfl | ⟨q, rfl⟩
   ·rw [List.append_nil]; exact delE_none hsl
   ·exact delE_last hsl
  simp only at v2
  rw [hdel] at v2
  obtain ⟨A2, F2⟩ := A'.setLoops (h' := h2) ⟨n2, s2⟩ v2
  have A2' : At p L' { τ with env := { τ.env with loops := σ.env.loops } } h2 := A2
  rw [eta_loops hτl] at A2'
  exact hK' _ _ A2' (F'.trans F2)
 ·have hle' : ((n : Nat) : Int) ≤ ((k1.val : Nat) : Int) := by omega
  simp -dsimp -implicitDefEqProofs only [↓STP, STQ, seval, eq_true hle']
  rw [show k1.val + 1 - n = (k1.val + 1 - (n + 1)) + 1 by omega, iterT] at hK'
  unfold turnT at hK'
  rw [← F'.x]
  refine stepG A' okτ.steps ?_
  unfold stepT at hK' ⊢
  by_cases hst : 10000 ≤ τ.steps
  ·rw [if_pos hst]
   rw [if_pos hst] at hK'
   simp -dsimp -implicitDefEqProofs only [↓STP, STQ, seval]
   exact hK' _ _ F'
  ·rw [if_neg hst]
   rw [if_neg hst] at hK'
   simp only [andT_ok] at hK'
   rw [Ans_ok]
   intro h2 A2 F2
   have gx2 := get_of A2.x
   obtain ⟨ver2, hl2⟩ := A2.l
   simp only at hl2
   obtain ⟨ver3, hup⟩ := mup_ok (f := conV) (s := s) (v := n) hl2
   have hset : setE s n (σ.env.loops ++ tl) = σ.env.loops ++ [(s, n)] := by
    rcases htl with rfl | ⟨q, rfl⟩
    ·rw [List.append_nil]; exact setE_new hsl
    ·exact setE_last hsl
   rw [hset] at hup
   simp -dsimp -implicitDefEqProofs only [↓STP, STQ, seval, gx2, Lk.cs]
   refine constantG (by omega) ?_
   rw [show conV n = V.agg [I (kcon n).kind, I (kcon n).w, .bool (kcon n).is, W (kcon n).val] from rfl] at hup
   simp -dsimp -implicitDefEqProofs only [↓STP, STQ, seval, gx2, Lk.cs, kn_cells, hup]
   obtain ⟨A3, F3⟩ := A2.setLoops (h' := h2.set L'.l (.map (mapO conV (σ.env.loops ++ [(s, n)])) ver3)) chg_set (loops' := σ.env.loops ++ [(s, n)]) ⟨ver3, by rw [set_objs, if_pos rfl]⟩
   have ok3 : TOk p { τ with steps := τ.steps + 1, env := { τ.env with loops := τ.env.loops ++ [(s, n)] } } := ⟨⟨okτ.env.vars, fun t m hm => by
    have hm : (t, m) ∈ τ.env.loops ++ [(s, n)] := hm
    rcases List.mem_append.1 hm with hm | hm
    ·exact okτ.env.loops t m hm
    ·rw [List.mem_singleton] at hm; cases hm; omega, okτ.env.wlen, okτ.env.words⟩, by show τ.steps + 1 ≤ 10000; omega, okτ.most⟩
   have A3' : At p L' { τ with steps := τ.steps + 1, env := { τ.env with loops := τ.env.loops ++ [(s, n)] } } (h2.set L'.l (.map (mapO conV (σ.env.loops ++ [(s, n)])) ver3)) := by rw [hτl]; exact A3
   refine ha _ _ _ _ A3' ok3 (by show τ.ifs ≤ lv; omega) ?_
   cases hr : stmtsT p a { τ with steps := τ.steps + 1, env := { τ.env with loops := τ.env.loops ++ [(s, n)] } } with
   | error er =>
    rw [hr] at hK'
    intro L4 h4 F4
    simp -dsimp -implicitDefEqProofs only [↓STP, STQ, seval]
    exact hK' _ _ (((F'.trans F2).trans F3).trans F4)
   | ok σ4 =>
    rw [hr] at hK'
    simp only [andT_ok] at hK'
    have kp := good _ _ ok3 hr
    intro L4 h4 A4 F4
    simp -dsimp -implicitDefEqProofs only [↓STP, STQ, seval, wuaddM (show n < 18446744073709551615 by omega)]
    have FF := ((F'.trans F2).trans F3).trans F4
    refine ⟨k1.val + 1 - (n + 1), by omega, n + 1, { σ4 with env := { σ4.env with loops := τ.env.loops } }, [(s, n)], L4, h4, rfl, by omega, .inr ⟨n, rfl⟩, ?_, ⟨⟨kp.ok.env.vars, okτ.env.loops, kp.ok.env.wlen, kp.ok.env.words⟩, kp.ok.steps, kp.ok.most⟩, hτl, kp.ifs.trans hτi, FF, hK', ?_⟩
    ·have hl4 : σ4.env.loops = σ.env.loops ++ [(s, n)] := by rw [kp.loops, ← hτl]
     show At p L4 { σ4 with env := { σ4.env with loops := σ.env.loops ++ [(s, n)] } } h4
     rw [eta_loops hl4]
     exact A4
    ·rw [F'.x]
end
end YtihmoaibgmhjeaaDoor
end Go.Ab
