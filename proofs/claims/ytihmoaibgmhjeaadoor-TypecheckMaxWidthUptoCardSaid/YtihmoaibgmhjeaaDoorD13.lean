import Derived.Test.YtihmoaibgmhjeaaDoorD12
set_option linter.unusedVariables false
set_option linter.unusedSimpArgs false
namespace Go.Ab
theorem stmsV_cells {x : Stm} : x.v = .agg [I x.kind, .str x.name, .vec (x.e.map Exp.v) .any, .vec (x.thn.map Stm.v) .any, .vec (x.els.map Stm.v) .any] := Stm.v_eq x
namespace YtihmoaibgmhjeaaDoor
section
variable {K : Out → H → Prop} {p : Prg}
def SpS (p : Prg) (x : Stm) (lv : Nat) : Prop := ∀ (L : Lk) (σ : TS) (h : H) (K : Out → H → Prop) (l : List Kn), At p L σ h → TOk p σ → σ.ifs ≤ lv → (∀ k ∈ l, KOk k) → l.length = x.e.length →
 EndS p L h K (stmt1 p x.kind x.name l (stmtsT p x.thn) (stmtsT p x.els) σ) → R 48 [.ptr L.x 0, x.v, .vec (l.map Kn.v) .any] h K
theorem stmtG {k : Int} {s : ByteArray} {e : List Exp} {a b : List Stm} {lv : Nat} (hp : PV p) (hv : VS (.mk k s e a b) lv) (ha : SpSs p a (lv + 1)) (hb : SpSs p b (lv + 1)) (ga : GoodT p (stmtsT p a)) (gb : GoodT p (stmtsT p b)) : SpS p (.mk k s e a b) lv := by
 intro L σ h K l A ok hifs hl hll hK
 obtain ⟨v1, v2, v3, v4, v5, v6, v7, v8, v9, v10, v11⟩ := VS_mk.1 hv
 have hle : l.length = e.length := hll
 have hK : EndS p L h K (stmt1 p k s l (stmtsT p a) (stmtsT p b) σ) := hK
 have okn := fun i => nthK_ok hl i
 have gx := get_of A.x
 have kk : k = 1 ∨ k = 2 ∨ k = 3 ∨ k = 4 ∨ k = 5 := by omega
 have h0 : 0 < l.length := by rw [hle, v4]; split <;> decide
 have g0 := nthK_get (l := l) (i := 0) h0
 refine run48 (Nat.le_of_ble_eq_true rfl) ?_
 unfold stmt1 at hK
 rcases kk with rfl | rfl | rfl | rfl | rfl
 ·rw [if_pos rfl] at hK
  unfold setT at hK
  simp -dsimp -implicitDefEqProofs only [↓STP, STQ, seval, Stm.v_mk, ir48]
  refine takenG A ?_
  cases ht : takenT p σ.env s with
  | true =>
   rw [ht, if_pos rfl] at hK
   simp -dsimp -implicitDefEqProofs only [↓STP, STQ, seval]
   refine failG ?_
   simp -dsimp -implicitDefEqProofs only [↓STP, STQ, seval]
   exact hK _ _ (Fr.refl _ _)
  | false =>
   rw [ht, if_neg (by decide)] at hK
   obtain ⟨ver, hvv⟩ := A.v
   obtain ⟨ver', hup⟩ := mup_ok (f := vkV) (s := s) (v := ((nthK l 0).kind, (nthK l 0).w)) hvv
   rw [show vkV ((nthK l 0).kind, (nthK l 0).w) = V.agg [I (nthK l 0).kind, I (nthK l 0).w, .bool false, .int .u64 0] from rfl] at hup
   simp -dsimp -implicitDefEqProofs only [↓STP, STQ, seval, gx, Lk.cs, g0, Kn.v_clen, kn_cells, hup]
   obtain ⟨A', F'⟩ := A.setVars (h' := h.set L.v (.map (mapO vkV (setE s ((nthK l 0).kind, (nthK l 0).w) L.es)) ver')) chg_set (es' := setE s ((nthK l 0).kind, (nthK l 0).w) L.es) ⟨ver', by rw [set_objs, if_pos rfl]⟩
    (vars' := setV σ.env.vars s (some ((nthK l 0).kind, (nthK l 0).w))) (fun t => by rw [findL_setE, A.es]; rfl) (nodup_setE A.esn)
   exact hK _ _ A' F'
 ·rw [if_neg (by decide), if_pos rfl] at hK
  have h1 : 1 < l.length := by rw [hle, v4, if_pos (.inl rfl)]; decide
  have g1 := nthK_get (l := l) (i := 1) h1
  unfold storeT at hK
  obtain ⟨ver, hs⟩ := A.s
  obtain ⟨verw, hw⟩ := A.w
  have e2 := findL_ars (p := p) (s := s)
  cases c2 : arOf p s with
  | none =>
   rw [c2] at e2 hK
   simp -dsimp -implicitDefEqProofs only [↓STP, STQ, seval, Stm.v_mk, ir48, gx, Lk.cs, lkp_two hs, e2, Option.map_none, getD_none, getD_some, map_none', map_some', isSome_none', isSome_some']
   refine failG ?_
   simp -dsimp -implicitDefEqProofs only [↓STP, STQ, seval]
   exact hK _ _ (Fr.refl _ _)
  | some i =>
   rw [c2] at e2 hK
   obtain ⟨d, hd, hn, hg⟩ := arOf_some c2
   rw [Option.map_some, hg] at e2
   simp only at hK
   rw [hg] at hK
   obtain ⟨id, ws, hws, hfw, hob⟩ := A.ws i d hd
   rw [hn] at hfw
   have hlen := (ok.env.words i ws d hws hd).1
   have hds := hp.ars d (List.mem_of_getElem? hd)
   simp -dsimp -implicitDefEqProofs only [↓STP, STQ, seval, Stm.v_mk, ir48, gx, Lk.cs, lkp_two hs, e2, getD_none, getD_some, map_none', map_some', isSome_none', isSome_some', intV, g0, Kn.v_clen, Kn.v_mkEl]
   refine placeG (by omega) (by omega) (okn 0).lt ?_
   cases hpl : placeT (nthK l 0) d.size with
   | error er =>
    rw [hpl] at hK
    rw [Ans_error]
    simp -dsimp -implicitDefEqProofs only [↓STP, STQ, seval]
    exact hK _ _ (Fr.refl _ _)
   | ok n =>
    rw [hpl, andT_ok] at hK
    rw [Ans_ok]
    have hnl : n < ws.length := by
     unfold placeT at hpl
     split at hpl
     ·cases hpl
     ·split at hpl
      ·cases hpl
      ·cases hpl; omega
    simp -dsimp -implicitDefEqProofs only [↓STP, STQ, seval, g1, Kn.v_clen, Kn.v_mkEl]
    refine mustG (fun c => ?_) (fun c => ?_)
    rotate_left
    ·rw [if_pos c] at hK
     simp -dsimp -implicitDefEqProofs only [↓STP, STQ, seval]
     exact hK _ _ (Fr.refl _ _)
    rw [if_neg (by simp [c])] at hK
    have hnI : ((n : Nat) : Int) < ((ws.length : Nat) : Int) := by omega
    have stw := fun ρ m n' u => storeF (ρ := ρ) (m := m) (n := n') (u := u) (j := n) (v := I (((nthK l 1).w : Nat) : Int)) (get_of hob) (by rw [natVs_len]; exact hnl) rfl rfl
    rw [nat_vs_set] at stw
    simp -dsimp -implicitDefEqProofs only [↓STP, STQ, seval, gx, Lk.cs, lkp_one hw, hfw, map_some', getD_some, refV, g1, Kn.v_clen, kn_cells, eq_true hnI, Nat.mul_one, stw]
    obtain ⟨A', F'⟩ := A.setWord hp (n := n) (w := (nthK l 1).w) c2 hws hfw
    exact hK _ _ A' F'
 ·rw [if_neg (by decide), if_neg (by decide), if_pos rfl] at hK
  unfold ifT at hK
  simp -dsimp -implicitDefEqProofs only [↓STP, STQ, seval, Stm.v_mk, ir48, g0, Kn.v_clen, Kn.v_mkEl]
  refine mustG (fun c => ?_) (fun c => ?_)
  rotate_left
  ·rw [if_pos c] at hK
   simp -dsimp -implicitDefEqProofs only [↓STP, STQ, seval]
   exact hK _ _ (Fr.refl _ _)
  rw [if_neg (by simp [c])] at hK
  simp -dsimp -implicitDefEqProofs only [↓STP, STQ, seval]
  refine branchG hp ha hb ga gb A ok hifs (by omega) ?_
  refine ans_mono hK (fun σ' hq L' h' A' F' => ?_) (fun er hq L' h' F' => ?_)
  ·simp -dsimp -implicitDefEqProofs only [↓STP, STQ, seval]
   exact hq _ _ A' F'
  ·simp -dsimp -implicitDefEqProofs only [↓STP, STQ, seval]
   exact hq _ _ F'
 ·rw [if_neg (by decide), if_neg (by decide), if_neg (by decide), if_pos rfl] at hK
  have h1 : 1 < l.length := by rw [hle, v4, if_pos (.inr rfl)]; decide
  have g1 := nthK_get (l := l) (i := 1) h1
  simp -dsimp -implicitDefEqProofs only [↓STP, STQ, seval, Stm.v_mk, ir48, g0, g1, Kn.v_clen, Kn.v_mkEl]
  rw [← Stm.v_mk]
  refine loopG (k := 4) (e := e) (b := b) hp (lv := lv + 1) ha ga A ok (by omega) hl ?_
  refine ans_mono hK (fun σ' hq L' h' A' F' => ?_) (fun er hq L' h' F' => ?_)
  ·simp -dsimp -implicitDefEqProofs only [↓STP, STQ, seval]
   exact hq _ _ A' F'
  ·simp -dsimp -implicitDefEqProofs only [↓STP, STQ, seval]
   exact hq _ _ F'
 ·rw [if_neg (by decide), if_neg (by decide), if_neg (by decide), if_neg (by decide)] at hK
  by_cases c : 0 < σ.ifs
  ·have c' : (0 : Int) < (σ.ifs : Int) := by omega
   rw [if_pos c] at hK
   simp -dsimp -implicitDefEqProofs only [↓STP, STQ, seval, Stm.v_mk, ir48, gx, Lk.cs, eq_true c']
   refine failG ?_
   simp -dsimp -implicitDefEqProofs only [↓STP, STQ, seval]
   exact hK _ _ (Fr.refl _ _)
  ·have c' : ¬ (0 : Int) < (σ.ifs : Int) := by omega
   rw [if_neg c] at hK
   simp -dsimp -implicitDefEqProofs only [↓STP, STQ, seval, Stm.v_mk, ir48, gx, Lk.cs, eq_false c']
   exact hK _ _ A (Fr.refl _ _)
theorem stmtsT_append {p : Prg} : ∀ {a b : List Stm} {σ : TS}, stmtsT p (a ++ b) σ = andT (stmtsT p a σ) (stmtsT p b)
 | [], b, σ => by rw [List.nil_append, stmtsT, andT_ok]
 | x :: xs, b, σ => by
  rw [List.cons_append, stmtsT, stmtsT]
  cases stmtT p x σ with
  | error e => rfl
  | ok τ => rw [andT_ok, andT_ok, stmtsT_append]
theorem stmtsT_take {p : Prg} {l : List Stm} {j : Nat} (hj : j < l.length) {σ τ : TS} (h : stmtsT p (l.take j) σ = .ok τ) : stmtsT p (l.take (j + 1)) σ = stmtT p l[j] τ := by
 rw [List.take_add_one, List.getElem?_eq_getElem hj, Option.toList_some, stmtsT_append, h, andT_ok, stmtsT]
 cases stmtT p l[j] τ with
 | error e => rfl
 | ok q => rw [andT_ok, stmtsT]
theorem stmtsT_fail {p : Prg} {l : List Stm} {j : Nat} {σ : TS} {e : Int} (h : stmtsT p (l.take j) σ = .error e) : stmtsT p l σ = .error e := by
 have : l = l.take j ++ l.drop j := (List.take_append_drop j l).symm
 rw [this, stmtsT_append, h]; rfl
theorem stmtsG_of {l : List Stm} {lv : Nat} (hp : PV p) (hlen : l.length ≤ 9223372036854775807) (ih : ∀ x ∈ l, SpS p x lv) (hv : VSs l lv) (okl : ∀ x ∈ l, SOk x) : SpSs p l lv := by
 intro L σ h K A ok hifs hK
 have good : ∀ j, GoodT p (stmtsT p (l.take j)) := fun j => stmtsT_ok hp (VSs_all.2 fun x hx => VSs_all.1 hv x (List.mem_of_mem_take hx))
 refine run37 (Nat.le_of_ble_eq_true rfl) ?_
 simp -dsimp -implicitDefEqProofs only [↓STP, STQ, seval, ir37, List.length_map]
 refine codeT_loop (fun k s => ∃ j τ L' h', j ≤ l.length ∧ k = l.length - j ∧ stmtsT p (l.take j) σ = .ok τ ∧ At p L' τ h' ∧ Fr L L' h h' ∧
  s = ⟨upd (upd (upd (upd ρ0 0 (.ptr L.x 0)) 6 (.vec (l.map Stm.v) .any)) 7 (I l.length)) 8 (I j), m0, 0, [], h'⟩) (i := l.length) ⟨0, σ, L, h, Nat.zero_le _, rfl, by rw [List.take_zero, stmtsT], A, Fr.refl _ _, by simp -dsimp -implicitDefEqProofs only [↓STP, STQ, seval] <;> rfl⟩ ?_ mono
 rintro k s ⟨j, τ, L', h', hj, rfl, hr, A', F', rfl⟩
 have kp := good j _ _ ok hr
 rcases Nat.lt_or_ge j l.length with hi | hi
 ·have hget := get_map (f := Stm.v) hi
  have hx := ih _ (List.getElem_mem hi)
  have hvx := VSs_all.1 hv _ (List.getElem_mem hi)
  have okx := okl _ (List.getElem_mem hi)
  have w1 := wiM (show j < 9223372036854775807 by omega)
  have htk := stmtsT_take hi hr
  generalize hxe : l[j] = x at *
  obtain ⟨k, s, e, a, b⟩ := x
  obtain ⟨v1, v2, v3, v4, v5, v6, v7, v8, v9, v10, v11⟩ := VS_mk.1 hvx
  obtain ⟨_, _, _, _, _, oke, _, _⟩ := SOk_mk okx
  simp -dsimp -implicitDefEqProofs only [↓STP, STQ, seval, Int.ofNat_lt, hi, hget, storeSt, Stm.v_outs, Stm.v_clen, Stm.v_tk, Stm.v_ag, Stm.v_out, eq_self]
  rw [← F'.x]
  refine stepG A' kp.ok.steps ?_
  rw [stmtT] at htk
  cases hst : stepT τ with
  | error er =>
   rw [hst] at htk
   have hfa := stmtsT_fail htk
   rw [hfa] at hK
   rw [Ans_error]
   simp -dsimp -implicitDefEqProofs only [↓STP, STQ, seval]
   exact hK _ _ F'
  | ok τ1 =>
   rw [hst, andT_ok] at htk
   rw [Ans_ok]
   obtain ⟨rfl, kp1⟩ := stepT_ok kp.ok hst
   intro h2 A2 F2
   simp -dsimp -implicitDefEqProofs only [↓STP, STQ, seval, Stm.v_mk]
   refine exprsG_of hp (by rw [v4]; split <;> decide) (fun x hx => exprG hp x _ (v9 x hx) (oke x hx)) v9 A2 kp1.ok ?_
   cases hex : exprsT p ({ τ with steps := τ.steps + 1 } : TS).env e with
   | error er =>
    rw [hex] at htk
    have hfa := stmtsT_fail htk
    rw [hfa] at hK
    intro h3 F3
    simp -dsimp -implicitDefEqProofs only [↓STP, STQ, seval]
    exact hK _ _ ((F'.trans F2).trans F3)
   | ok lm =>
    obtain ⟨lk, m⟩ := lm
    rw [hex, andT_ok] at htk
    obtain ⟨hkl, hm, hll⟩ := exprsT_ok hp kp1.ok.env v9 lk m hex
    intro h3 A3 F3
    simp -dsimp -implicitDefEqProofs only [↓STP, STQ, seval]
    rw [← Stm.v_mk]
    have ok3 : TOk p { ({ τ with steps := τ.steps + 1 } : TS) with most := max τ.most m } := ⟨kp.ok.env, kp1.ok.steps, by have := kp.ok.most; show max τ.most m ≤ 60; omega⟩
    refine hx _ _ _ _ lk A3 ok3 (by show τ.ifs ≤ lv; rw [kp.ifs]; exact hifs) hkl hll ?_
    show EndS p L' h3 _ (stmt1 p k s lk (stmtsT p a) (stmtsT p b) { ({ τ with steps := τ.steps + 1 } : TS) with most := max τ.most m })
    cases hs1 : stmt1 p k s lk (stmtsT p a) (stmtsT p b) { ({ τ with steps := τ.steps + 1 } : TS) with most := max τ.most m } with
    | error er =>
     have htk' : stmtsT p (l.take (j + 1)) σ = .error er := htk.trans hs1
     have hfa := stmtsT_fail htk'
     rw [hfa] at hK
     intro L4 h4 F4
     simp -dsimp -implicitDefEqProofs only [↓STP, STQ, seval]
     exact hK _ _ (((F'.trans F2).trans F3).trans F4)
    | ok τ2 =>
     have htk' : stmtsT p (l.take (j + 1)) σ = .ok τ2 := htk.trans hs1
     intro L4 h4 A4 F4
     have FF := ((F'.trans F2).trans F3).trans F4
     simp -dsimp -implicitDefEqProofs only [↓STP, STQ, seval, w1]
     exact ⟨l.length - (j + 1), by omega, j + 1, τ2, L4, h4, hi, rfl, htk', A4, FF, by rw [F'.x]⟩
 ·have hj' : j = l.length := by omega
  subst hj'
  rw [List.take_length] at hr
  rw [hr] at hK
  simp -dsimp -implicitDefEqProofs only [↓STP, STQ, seval, Int.lt_irrefl]
  exact hK _ _ A' F'
theorem stmtGG (hp : PV p) (x : Stm) : ∀ lv, VS x lv → SOk x → SpS p x lv := by
 induction x using Stm.ind with
 | h k s e a b iha ihb =>
  intro lv hv ok
  obtain ⟨v1, v2, v3, v4, v5, v6, v7, v8, v9, v10, v11⟩ := VS_mk.1 hv
  obtain ⟨_, _, _, la, lb, oke, oka, okb⟩ := SOk_mk ok
  have hm := maxLen_eq
  exact stmtG hp hv (stmtsG_of hp (by omega) (fun x hx => iha x hx _ (VSs_all.1 v10 x hx) (oka x hx)) v10 oka) (stmtsG_of hp (by omega) (fun x hx => ihb x hx _ (VSs_all.1 v11 x hx) (okb x hx)) v11 okb) (stmtsT_ok hp v10) (stmtsT_ok hp v11)
theorem stmtsG (hp : PV p) {l : List Stm} {lv : Nat} (hl : l.length ≤ maxLen) (hv : VSs l lv) (ok : ∀ x ∈ l, SOk x) : SpSs p l lv :=
 stmtsG_of hp (by have := maxLen_eq; omega) (fun x hx => stmtGG hp x _ (VSs_all.1 hv x hx) (ok x hx)) hv ok
end
end YtihmoaibgmhjeaaDoor
end Go.Ab
