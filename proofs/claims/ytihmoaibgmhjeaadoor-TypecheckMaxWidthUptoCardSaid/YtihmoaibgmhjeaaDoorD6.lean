import Derived.Test.YtihmoaibgmhjeaaDoorD5
set_option linter.unusedVariables false
set_option linter.unusedSimpArgs false
namespace Go.Ab
theorem Kn.v_outs {k : Kn} : k.v.outS = some k.v := rfl
theorem Kn.v_out {k : Kn} : k.v.out = some k.v := rfl
theorem Kn.v_clen {k : Kn} : k.v.cells.length = 4 := rfl
theorem Kn.v_mkEl {k : Kn} : mkEl true k.v.cells = k.v := rfl
theorem mapK_cells {l : List Kn} : ∀ e ∈ l.map Kn.v, e.cells.length = 4 := by
 intro e he
 obtain ⟨x, _, rfl⟩ := List.mem_map.1 he
 rfl
theorem most_env {σ : TS} {m : Nat} : ({ σ with most := m } : TS).env = σ.env := rfl
theorem TOk.most' {p : Prg} {σ : TS} (h : TOk p σ) {m : Nat} (hm : m ≤ 60) : TOk p { σ with most := max σ.most m } := ⟨h.env, h.steps, by have := h.most; show max σ.most m ≤ 60; omega⟩
theorem kids4 {k : Int} {n : Nat} (h : kidsN k = n) : n ≤ 3 := by
 unfold kidsN at h
 repeat' split at h
 all_goals omega
theorem nthK_get {l : List Kn} {i : Nat} (h : i < l.length) : (l.map Kn.v)[i]? = some (nthK l i).v := by
 rw [List.getElem?_map, nthK, List.getD_eq_getElem?_getD, List.getElem?_eq_getElem h]; rfl
theorem ans_mono {α : Type} {r : TR α} {K K' : α → Prop} {F F' : Int → Prop} (h : Ans r K F) (h1 : ∀ a, K a → K' a) (h2 : ∀ e, F e → F' e) : Ans r K' F' := by
 cases r with
 | ok a => exact h1 _ h
 | error e => exact h2 _ h
namespace YtihmoaibgmhjeaaDoor
section
variable {K : Out → H → Prop} {p : Prg} {L : Lk}
def SpE (p : Prg) (L : Lk) (e : Exp) : Prop := ∀ (σ : TS) (h : H) (K : Out → H → Prop), At p L σ h → TOk p σ →
 Ans (exprT p σ.env e) (fun r => ∀ h', At p L { σ with most := max σ.most r.2 } h' → Fr L L h h' → K (.ret r.1.v) h') (fun er => ∀ h', Fr L L h h' → K (.pan (wrongV er)) h') →
 R 59 [.ptr L.x 0, e.v] h K
theorem exprsG_of {l : List Exp} {lv : Nat} (hp : PV p) (hl : l.length ≤ 4) (ih : ∀ x ∈ l, SpE p L x) (hv : ∀ x ∈ l, VE x lv) {σ : TS} {h : H} (A : At p L σ h) (ok : TOk p σ)
  (hK : Ans (exprsT p σ.env l) (fun r => ∀ h', At p L { σ with most := max σ.most r.2 } h' → Fr L L h h' → K (.ret (.vec (r.1.map Kn.v) .any)) h') (fun er => ∀ h', Fr L L h h' → K (.pan (wrongV er)) h')) :
  R 49 [.ptr L.x 0, .vec (l.map Exp.v) .any] h K := by
 refine run49 (Nat.le_of_ble_eq_true rfl) ?_
 simp -dsimp -implicitDefEqProofs only [↓STP, STQ, seval, ir49, List.length_map]
 refine codeT_loop (fun k s => ∃ j acc m h', j ≤ l.length ∧ k = l.length - j ∧ exprsT p σ.env (l.take j) = .ok (acc, m) ∧ acc.length = j ∧ m ≤ 60 ∧ At p L { σ with most := max σ.most m } h' ∧ Fr L L h h' ∧
  s = ⟨upd (upd (upd (upd (upd ρ0 0 (.ptr L.x 0)) 5 (.vec (acc.map Kn.v) (.own 0))) 8 (.vec (l.map Exp.v) .any)) 9 (I l.length)) 10 (I j), m0, 1, [], h'⟩) (i := l.length) ⟨0, [], 0, h, Nat.zero_le _, rfl, rfl, rfl, by decide, by rw [Nat.max_eq_left (Nat.zero_le _)]; exact A, Fr.refl _ _, by simp -dsimp -implicitDefEqProofs only [↓STP, STQ, seval] <;> rfl⟩ ?_ mono
 rintro k s ⟨j, acc, m, h', hj, rfl, hr, hac, hm, A', F', rfl⟩
 rcases Nat.lt_or_ge j l.length with hi | hi
 ·have hget := get_map (f := Exp.v) hi
  have hx := ih _ (List.getElem_mem hi)
  have hvx := hv _ (List.getElem_mem hi)
  have w1 := wiM (show j < 9223372036854775807 by omega)
  have htk := exprsT_take hi hr
  have hok := exprT_ok hp ok.env l[j] lv hvx
  generalize l[j] = x at *
  simp -dsimp -implicitDefEqProofs only [↓STP, STQ, seval, Int.ofNat_lt, hi, hget, storeE, Exp.v_outs, Exp.v_clen, Exp.v_tk, Exp.v_ag, Exp.v_out, eq_self]
  refine hx _ _ _ A' (ok.most' hm) ?_
  rw [most_env]
  cases hex : exprT p σ.env x with
  | error er =>
   rw [hex] at htk
   rw [exprsT_fail htk, Ans_error] at hK
   rw [Ans_error]
   intro h'' F''
   simp -dsimp -implicitDefEqProofs only [↓STP, STQ, seval]
   exact hK _ (F'.trans F'')
  | ok r =>
   obtain ⟨a, ma⟩ := r
   rw [hex] at htk
   rw [Ans_ok]
   intro h'' A'' F''
   obtain ⟨ka, hma⟩ := hok a ma hex
   simp -dsimp -implicitDefEqProofs only [↓STP, STQ, seval, kn_cells]
   rw [app1_own (sz := 4) (by simp) mapK_cells rfl (by decide) (by decide) (by rw [List.length_map]; omega)]
   simp -dsimp -implicitDefEqProofs only [↓STP, STQ, seval, w1, mkEl, V.cells]
   refine ⟨l.length - (j + 1), by omega, j + 1, acc ++ [a], max m ma, h'', hi, rfl, htk, by simp [hac], by omega, ?_, F'.trans F'', ?_⟩
   ·have e : ({ σ with most := max σ.most (max m ma) } : TS) = { ({ σ with most := max σ.most m } : TS) with most := max (max σ.most m) ma } := by rw [Nat.max_assoc]
    rw [e]; exact A''
   ·rw [List.map_append]; rfl
 ·have hj' : j = l.length := by omega
  subst hj'
  rw [List.take_length] at hr
  rw [hr, Ans_ok] at hK
  simp -dsimp -implicitDefEqProofs only [↓STP, STQ, seval, Int.lt_irrefl]
  exact hK _ A' F'
theorem made_told {m : Nat} {σ : TS} {h0 h : H} {K : Out → H → Prop} {r : Kn} (A : At p L { σ with most := max σ.most m } h) (F : Fr L L h0 h) (hm : max σ.most m ≤ 60) (hw : r.w ≤ 1000)
  (hK : Ans (toldT m r) (fun r => ∀ h', At p L { σ with most := max σ.most r.2 } h' → Fr L L h0 h' → K (.ret r.1.v) h') (fun er => ∀ h', Fr L L h0 h' → K (.pan (wrongV er)) h')) :
  R 76 [.ptr L.x 0, r.v] h K := by
 refine toldG A hw hm ?_
 show Ans (toldT (max σ.most m) r) _ _
 rw [toldT_max]
 cases ht : toldT m r with
 | error e =>
  rw [ht] at hK
  exact hK _ F
 | ok q =>
  rw [ht] at hK
  intro h' A' F'
  exact hK _ A' (F.trans F')
theorem exprG (hp : PV p) (e : Exp) : ∀ lv, VE e lv → EOk e → SpE p L e := by
 induction e using Exp.ind with
 | h k o n s ks ih =>
  intro lv hv ok σ h K A okt hK
  obtain ⟨v1, v2, v3, v4, v5, v6, v7, v8, v9⟩ := VE_mk.1 hv
  obtain ⟨hk, ho, hn, hs, hl, hks⟩ := EOk_mk ok
  have hl3 := kids4 v2
  refine run59 (Nat.le_of_ble_eq_true rfl) ?_
  simp -dsimp -implicitDefEqProofs only [↓STP, STQ, seval, Exp.v_mk, ir59]
  rw [exprT] at hK
  refine exprsG_of hp (by omega) (fun x hx => ih x hx _ (v9 x hx) (hks x hx)) v9 A okt ?_
  cases h1 : exprsT p σ.env ks with
  | error er =>
   rw [h1] at hK
   intro h' F'
   simp -dsimp -implicitDefEqProofs only [↓STP, STQ, seval]
   exact hK _ F'
  | ok lm =>
   obtain ⟨l, m⟩ := lm
   rw [h1, andT_ok] at hK
   simp only at hK
   intro h' A' F'
   obtain ⟨hkl, hm, hll⟩ := exprsT_ok hp okt.env v9 l m h1
   have hmm : max σ.most m ≤ 60 := (okt.most' hm).most
   have hn' : n < 1152921504606846976 := by omega
   have okn := fun i => nthK_ok hkl i
   have hkk : k = 1 ∨ k = 2 ∨ k = 3 ∨ k = 4 ∨ k = 5 ∨ k = 6 := by
    unfold kidsN at v2
    repeat' split at v2
    all_goals omega
   unfold madeT at hK
   rcases hkk with rfl | rfl | rfl | rfl | rfl | rfl
   ·rw [if_pos rfl, andT_ok] at hK
    simp -dsimp -implicitDefEqProofs only [↓STP, STQ, seval]
    refine constantG (by omega) ?_
    simp -dsimp -implicitDefEqProofs only [↓STP, STQ, seval, kn_cells]
    refine made_told (r := kcon n) A' F' hmm (by have := (KOk_con hn').w; omega) ?_
    refine ans_mono hK (fun q hq h'' A'' F'' => ?_) (fun er hq h'' F'' => ?_)
    ·simp -dsimp -implicitDefEqProofs only [↓STP, STQ, seval, kn_cells, storeV]
     exact hq _ A'' F''
    ·simp -dsimp -implicitDefEqProofs only [↓STP, STQ, seval]
     exact hq _ F''
   ·rw [if_neg (by decide), if_pos rfl] at hK
    simp -dsimp -implicitDefEqProofs only [↓STP, STQ, seval]
    refine nameG hp A' ?_
    rw [most_env]
    cases h2 : nameT p σ.env s with
    | error er =>
     rw [h2] at hK
     rw [Ans_error]
     simp -dsimp -implicitDefEqProofs only [↓STP, STQ, seval]
     exact hK _ F'
    | ok r =>
     rw [h2, andT_ok] at hK
     rw [Ans_ok]
     simp -dsimp -implicitDefEqProofs only [↓STP, STQ, seval, kn_cells]
     refine made_told (r := r) A' F' hmm (by have := (nameT_ok hp okt.env h2).w; omega) ?_
     refine ans_mono hK (fun q hq h'' A'' F'' => ?_) (fun er hq h'' F'' => ?_)
     ·simp -dsimp -implicitDefEqProofs only [↓STP, STQ, seval, kn_cells, storeV]
      exact hq _ A'' F''
     ·simp -dsimp -implicitDefEqProofs only [↓STP, STQ, seval]
      exact hq _ F''
   ·rw [if_neg (by decide), if_neg (by decide), if_pos rfl] at hK
    have hl1 : l.length = 1 := by rw [hll]; have : kidsN 3 = 1 := rfl; omega
    have g0 := nthK_get (l := l) (i := 0) (by omega)
    simp -dsimp -implicitDefEqProofs only [↓STP, STQ, seval, g0, Kn.v_clen, Kn.v_mkEl]
    refine indexG hp A' okt.env (okn 0) ?_
    rw [most_env]
    cases h2 : indexT p σ.env s (nthK l 0) with
    | error er =>
     rw [h2] at hK
     rw [Ans_error]
     simp -dsimp -implicitDefEqProofs only [↓STP, STQ, seval]
     exact hK _ F'
    | ok r =>
     rw [h2, andT_ok] at hK
     rw [Ans_ok]
     simp -dsimp -implicitDefEqProofs only [↓STP, STQ, seval, kn_cells]
     refine made_told (r := r) A' F' hmm (by have := (indexT_ok hp okt.env h2).w; omega) ?_
     refine ans_mono hK (fun q hq h'' A'' F'' => ?_) (fun er hq h'' F'' => ?_)
     ·simp -dsimp -implicitDefEqProofs only [↓STP, STQ, seval, kn_cells, storeV]
      exact hq _ A'' F''
     ·simp -dsimp -implicitDefEqProofs only [↓STP, STQ, seval]
      exact hq _ F''
   ·rw [if_neg (by decide), if_neg (by decide), if_neg (by decide), if_pos rfl] at hK
    have hl1 : l.length = 2 := by rw [hll]; have : kidsN 4 = 2 := rfl; omega
    have g0 := nthK_get (l := l) (i := 0) (by omega)
    have g1 := nthK_get (l := l) (i := 1) (by omega)
    obtain ⟨o1, o2⟩ := v5 rfl
    simp -dsimp -implicitDefEqProofs only [↓STP, STQ, seval, g0, g1, Kn.v_clen, Kn.v_mkEl]
    refine opG o1 o2 (okn 0) (okn 1) ?_
    cases h2 : opK o (nthK l 0) (nthK l 1) with
    | error er =>
     rw [h2] at hK
     rw [Ans_error]
     simp -dsimp -implicitDefEqProofs only [↓STP, STQ, seval]
     exact hK _ F'
    | ok r =>
     rw [h2, andT_ok] at hK
     rw [Ans_ok]
     intro v hv
     have hmd := opK_ok (okn 0) (okn 1) h2
     simp -dsimp -implicitDefEqProofs only [↓STP, STQ, seval, kn_cells]
     refine made_told (r := { r with val := v }) A' F' hmm hmd.w ?_
     have hsame : toldT m ({ r with val := v } : Kn) = toldT m r := by
      by_cases hc : r.kind = 1 ∧ 60 < r.w
      ·unfold toldT
       show (if r.kind = 1 then (if 60 < r.w then _ else _) else _) = (if r.kind = 1 then (if 60 < r.w then _ else _) else _)
       rw [if_pos hc.1, if_pos hc.1, if_pos hc.2, if_pos hc.2]
      ·have hle : r.w ≤ 60 := by
        rcases (show r.kind = 1 ∨ r.kind ≠ 1 from Decidable.em _) with hq | hq
        ·exact Nat.le_of_not_lt fun hw => hc ⟨hq, hw⟩
        ·exact (hmd.other hq).w
       rw [hv hle]
     rw [hsame]
     refine ans_mono hK (fun q hq h'' A'' F'' => ?_) (fun er hq h'' F'' => ?_)
     ·simp -dsimp -implicitDefEqProofs only [↓STP, STQ, seval, kn_cells, storeV]
      exact hq _ A'' F''
     ·simp -dsimp -implicitDefEqProofs only [↓STP, STQ, seval]
      exact hq _ F''
   ·rw [if_neg (by decide), if_neg (by decide), if_neg (by decide), if_neg (by decide), if_pos rfl] at hK
    have hl1 : l.length = 1 := by rw [hll]; have : kidsN 5 = 1 := rfl; omega
    have g0 := nthK_get (l := l) (i := 0) (by omega)
    simp -dsimp -implicitDefEqProofs only [↓STP, STQ, seval, g0, Kn.v_clen, Kn.v_mkEl]
    refine mustG (fun c => ?_) (fun c => ?_)
    ·rw [if_neg (by simp [c]), andT_ok] at hK
     simp -dsimp -implicitDefEqProofs only [↓STP, STQ, seval, storeV]
     exact hK _ A' F'
    ·rw [if_pos c] at hK
     simp -dsimp -implicitDefEqProofs only [↓STP, STQ, seval]
     exact hK _ F'
   ·rw [if_neg (by decide), if_neg (by decide), if_neg (by decide), if_neg (by decide), if_neg (by decide)] at hK
    have hl1 : l.length = 3 := by rw [hll]; have : kidsN 6 = 3 := rfl; omega
    have g0 := nthK_get (l := l) (i := 0) (by omega)
    have g1 := nthK_get (l := l) (i := 1) (by omega)
    have g2 := nthK_get (l := l) (i := 2) (by omega)
    simp -dsimp -implicitDefEqProofs only [↓STP, STQ, seval, g0, Kn.v_clen, Kn.v_mkEl]
    refine mustG (fun c => ?_) (fun c => ?_)
    rotate_left
    ·rw [if_pos (.inl c)] at hK
     simp -dsimp -implicitDefEqProofs only [↓STP, STQ, seval]
     exact hK _ F'
    simp -dsimp -implicitDefEqProofs only [↓STP, STQ, seval, g1, g2, Kn.v_clen, Kn.v_mkEl, kn_cells]
    rw [show (V.agg [I (nthK l 2).kind, I (nthK l 2).w, .bool (nthK l 2).is, W (nthK l 2).val]) = (nthK l 2).v from rfl]
    refine mustG (fun c2 => ?_) (fun c2 => ?_)
    rotate_left
    ·rw [if_pos (.inr c2)] at hK
     simp -dsimp -implicitDefEqProofs only [↓STP, STQ, seval]
     exact hK _ F'
    rw [if_neg (by simp [c, c2]), andT_ok] at hK
    have hmx : (if ((nthK l 2).w : Int) > ((nthK l 1).w : Int) then ((nthK l 2).w : Int) else ((nthK l 1).w : Int)) = ((max (nthK l 1).w (nthK l 2).w : Nat) : Int) := by split <;> omega
    simp -dsimp -implicitDefEqProofs only [↓STP, STQ, seval, g1, g2, Kn.v_clen, Kn.v_mkEl, kn_cells, maxV_two, hmx]
    have hw1 := (okn 1).w
    have hw2 := (okn 2).w
    refine made_told (r := ⟨(nthK l 1).kind, max (nthK l 1).w (nthK l 2).w, false, 0⟩) A' F' hmm (by show max _ _ ≤ 1000; omega) ?_
    refine ans_mono hK (fun q hq h'' A'' F'' => ?_) (fun er hq h'' F'' => ?_)
    ·simp -dsimp -implicitDefEqProofs only [↓STP, STQ, seval, kn_cells, storeV]
     exact hq _ A'' F''
    ·simp -dsimp -implicitDefEqProofs only [↓STP, STQ, seval]
     exact hq _ F''
end
end YtihmoaibgmhjeaaDoor
end Go.Ab
