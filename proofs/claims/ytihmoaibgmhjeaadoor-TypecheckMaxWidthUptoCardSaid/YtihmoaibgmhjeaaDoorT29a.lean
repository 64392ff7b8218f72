import Derived.Test.YtihmoaibgmhjeaaDoorD17
import Derived.Test.YtihmoaibgmhjeaaDoorF3
set_option linter.unusedVariables false
set_option linter.unusedSimpArgs false
namespace Go.Ab
theorem exprT_body {p p' : Prg} (hi : p'.ins = p.ins) (ha : p'.arrays = p.arrays) {σ : TE} (e : Exp) : exprT p' σ e = exprT p σ e := by
 induction e using Exp.ind with
 | h k o n s ks ih =>
  have hl : ∀ l : List Exp, (∀ x ∈ l, exprT p' σ x = exprT p σ x) → exprsT p' σ l = exprsT p σ l := by
   intro l
   induction l with
   | nil => intro _; rw [exprsT, exprsT]
   | cons x xs ihl =>
    intro h
    rw [exprsT, exprsT, h x (by simp), ihl fun y hy => h y (by simp [hy])]
  rw [exprT, exprT, hl ks ih]
  congr 1
  funext r
  congr 1
  unfold madeT nameT indexT inOf arOf
  rw [hi, ha]
theorem exprsT_body {p p' : Prg} (hi : p'.ins = p.ins) (ha : p'.arrays = p.arrays) {σ : TE} : ∀ l : List Exp, exprsT p' σ l = exprsT p σ l
 | [] => by rw [exprsT, exprsT]
 | x :: xs => by rw [exprsT, exprsT, exprT_body hi ha, exprsT_body hi ha]
theorem stmtsT_body_of {p p' : Prg} : ∀ {l : List Stm}, (∀ x ∈ l, stmtT p' x = stmtT p x) → stmtsT p' l = stmtsT p l
 | [], _ => by funext σ; rw [stmtsT, stmtsT]
 | x :: xs, h => by
  funext σ
  rw [stmtsT, stmtsT, h x (by simp), stmtsT_body_of fun y hy => h y (by simp [hy])]
theorem stmtT_body {p p' : Prg} (hi : p'.ins = p.ins) (ha : p'.arrays = p.arrays) (x : Stm) : stmtT p' x = stmtT p x := by
 induction x using Stm.ind with
 | h k s e a b iha ihb =>
  funext σ
  rw [stmtT, stmtT]
  congr 1
  funext τ
  rw [exprsT_body hi ha, stmtsT_body_of iha, stmtsT_body_of ihb]
  congr 1
  funext r
  unfold stmt1 setT storeT forT takenT inOf arOf
  rw [hi, ha]
theorem stmtsT_body {p p' : Prg} (hi : p'.ins = p.ins) (ha : p'.arrays = p.arrays) (l : List Stm) : stmtsT p' l = stmtsT p l := stmtsT_body_of fun x _ => stmtT_body hi ha x
theorem TOk_init {p : Prg} (hin : ∀ d ∈ p.ins, VIn d) (har : ∀ d ∈ p.arrays, VAr d) : TOk p (initT p) := by
 refine ⟨⟨(fun s k w h => by cases h), (fun s n h => by cases h), by simp [initT], fun i l d hl hd => ?_⟩, Nat.zero_le _, by have := maxI_le hin; show maxI p.ins ≤ 60; omega⟩
 have hl : (p.arrays.map fun d => List.replicate d.size.toNat 1)[i]? = some l := hl
 rw [List.getElem?_map, hd] at hl
 cases hl
 have := (har d (List.mem_of_getElem? hd)).s1
 refine ⟨by rw [List.length_replicate]; omega, fun w hw => ?_⟩
 have := (List.mem_replicate.1 hw).2
 omega
theorem PV_of {p : Prg} (v : VT p) (h : unlikeT p = true) : PV p :=
 ⟨fun d hd => ⟨(v.ins d hd).w1, (v.ins d hd).w2, (v.ins d hd).s1, (v.ins d hd).s2⟩, fun d hd => ⟨(v.ars d hd).s1, (v.ars d hd).s2⟩, of_decide_eq_true h⟩
theorem check_inv {p : Prg} {σ : TS} (h : checkT p = .ok σ) : unlikeT p = true ∧ stmtsT p p.body (initT p) = .ok σ := by
 unfold checkT at h
 split at h
 ·rename_i hu; exact ⟨hu, h⟩
 ·cases h
theorem errT_ok {r : TR TS} (h : errT r = 0) (hne : ∀ e, r = .error e → e ≠ 0) : ∃ σ, r = .ok σ := by
 cases r with
 | ok σ => exact ⟨σ, rfl⟩
 | error e => exact absurd h (hne e rfl)
def Nz {α : Type} (r : TR α) : Prop := ∀ e, r = .error e → e ≠ 0
theorem Nz.ok {α : Type} {a : α} : Nz (.ok a : TR α) := fun e h => by cases h
theorem Nz.err {α : Type} {e : Int} (h : e ≠ 0) : Nz (.error e : TR α) := fun e' h' => by cases h'; exact h
theorem Nz.and {α β : Type} {r : TR α} {f : α → TR β} (h : Nz r) (hf : ∀ a, Nz (f a)) : Nz (andT r f) := by
 cases r with
 | ok a => exact hf a
 | error e => exact fun e' h' => h e' (by cases h'; rfl)
theorem Nz.ite {α : Type} {c : Prop} [Decidable c] {a b : TR α} (ha : Nz a) (hb : Nz b) : Nz (if c then a else b) := by
 split
 ·exact ha
 ·exact hb
theorem placeT_nz {k : Kn} {z : Int} : Nz (placeT k z) := .ite (.err (by decide)) (.ite (.err (by decide)) .ok)
theorem madeT_nz {p : Prg} {σ : TE} {k o : Int} {n : Nat} {s : ByteArray} {l : List Kn} : Nz (madeT p σ k o n s l) := by
 unfold madeT
 refine .ite .ok (.ite ?_ (.ite ?_ (.ite ?_ (.ite (.ite (.err (by decide)) .ok) (.ite (.err (by decide)) .ok)))))
 ·unfold nameT
  split
  ·exact .ok
  ·split
   ·exact .ok
   ·split
    ·exact .ite .ok (.err (by decide))
    ·exact .err (by decide)
 ·unfold indexT
  split
  ·exact .and placeT_nz fun _ => .ok
  ·split
   ·exact .ite (.err (by decide)) (.and placeT_nz fun _ => .ok)
   ·exact .err (by decide)
 ·unfold opK
  exact .ite (.err (by decide)) (.ite .ok (.ite .ok (.ite .ok .ok)))
theorem toldT_nz {m : Nat} {k : Kn} : Nz (toldT m k) := .ite (.ite (.err (by decide)) .ok) .ok
theorem exprsT_nz_of {p : Prg} {σ : TE} : ∀ {l : List Exp}, (∀ x ∈ l, Nz (exprT p σ x)) → Nz (exprsT p σ l)
 | [], _ => by rw [exprsT]; exact .ok
 | x :: xs, h => by
  rw [exprsT]
  exact .and (h x (by simp)) fun _ => .and (exprsT_nz_of fun y hy => h y (by simp [hy])) fun _ => .ok
theorem exprT_nz {p : Prg} {σ : TE} (e : Exp) : Nz (exprT p σ e) := by
 induction e using Exp.ind with
 | h k o n s ks ih =>
  rw [exprT]
  exact .and (exprsT_nz_of ih) fun _ => .and madeT_nz fun _ => toldT_nz
theorem stepT_nz {σ : TS} : Nz (stepT σ) := .ite (.err (by decide)) .ok
theorem iterT_nz {f : Nat → TS → TR TS} (h : ∀ n σ, Nz (f n σ)) : ∀ c n σ, Nz (iterT f c n σ)
 | 0, n, σ => by rw [iterT]; exact .ok
 | c + 1, n, σ => by rw [iterT]; exact .and (h n σ) fun _ => iterT_nz h c (n + 1) _
theorem stmt1_nz {p : Prg} {k : Int} {s : ByteArray} {l : List Kn} {fa fb : TS → TR TS} (ha : ∀ σ, Nz (fa σ)) (hb : ∀ σ, Nz (fb σ)) {σ : TS} : Nz (stmt1 p k s l fa fb σ) := by
 unfold stmt1
 refine .ite ?_ (.ite ?_ (.ite ?_ (.ite ?_ (.ite (.err (by decide)) .ok))))
 ·exact .ite (.err (by decide)) .ok
 ·unfold storeT
  split
  ·exact .err (by decide)
  ·exact .and placeT_nz fun _ => .ite (.err (by decide)) .ok
 ·exact .ite (.err (by decide)) (.and (ha _) fun _ => .and (hb _) fun _ => .ok)
 ·exact .ite (.err (by decide)) (.ite (.err (by decide)) (iterT_nz (fun n τ => .and stepT_nz fun _ => .and (ha _) fun _ => .ok) _ _ _))
theorem stmtsT_nz_of {p : Prg} : ∀ {l : List Stm}, (∀ x ∈ l, ∀ σ, Nz (stmtT p x σ)) → ∀ σ, Nz (stmtsT p l σ)
 | [], _ => fun σ => by rw [stmtsT]; exact .ok
 | x :: xs, h => fun σ => by
  rw [stmtsT]
  exact .and (h x (by simp) σ) fun _ => stmtsT_nz_of (fun y hy => h y (by simp [hy])) _
theorem stmtT_nz {p : Prg} (x : Stm) : ∀ σ, Nz (stmtT p x σ) := by
 induction x using Stm.ind with
 | h k s e a b iha ihb =>
  intro σ
  rw [stmtT]
  exact .and stepT_nz fun _ => .and (exprsT_nz_of fun x _ => exprT_nz x) fun _ => stmt1_nz (stmtsT_nz_of iha) (stmtsT_nz_of ihb)
theorem checkT_nz {p : Prg} : Nz (checkT p) := .ite (stmtsT_nz_of (fun x _ => stmtT_nz x) _) (.err (by decide))
def Prg.init (p : Prg) : Prg := ⟨p.ins, p.arrays, p.body.take (p.body.length - 1)⟩
theorem VT.init {p : Prg} (v : VT p) : VT p.init :=
 ⟨⟨v.ok.ins, v.ok.arrays, fun x hx => v.ok.body x (List.mem_of_mem_take hx), v.ok.li, v.ok.la, Nat.le_trans (by simp [Prg.init]) v.ok.lb⟩, VSs_all.2 fun x hx => VSs_all.1 v.body x (List.mem_of_mem_take hx), v.ins, v.ars⟩
theorem check_init {p : Prg} (v : VT p) {σ : TS} (h : checkT p = .ok σ) : ∃ τ, checkT p.init = .ok τ ∧ τ.most ≤ σ.most := by
 obtain ⟨hu, hs⟩ := check_inv h
 have hp := PV_of v hu
 have T := TOk_init v.ins v.ars
 have e : p.body = p.body.take (p.body.length - 1) ++ p.body.drop (p.body.length - 1) := (List.take_append_drop _ _).symm
 rw [e, YtihmoaibgmhjeaaDoor.stmtsT_append] at hs
 obtain ⟨τ, h1, h2⟩ := andT_inv hs
 have k1 := stmtsT_ok hp (VSs_all.2 fun x hx => VSs_all.1 v.body x (List.mem_of_mem_take hx)) _ _ T h1
 have k2 := stmtsT_ok hp (VSs_all.2 fun x hx => VSs_all.1 v.body x (List.mem_of_mem_drop hx)) _ _ k1.ok h2
 refine ⟨τ, ?_, k2.most⟩
 unfold checkT
 rw [show unlikeT p.init = unlikeT p from rfl, hu, if_pos rfl, stmtsT_body (p := p) (p' := p.init) rfl rfl]
 exact h1
namespace YtihmoaibgmhjeaaDoor
section
variable {h : H} {K : Out → H → Prop}
theorem prefix29 {p : Prg} (ok : POk p) (hb : p.v.bulk ≤ 1048576) (hK : ∀ h', K (.ret (.bool true)) h') : R 5 [p.v] h K := by
 refine run5 (Nat.le_of_ble_eq_true rfl) ?_
 have hv0 : p.v = V.agg [.vec (p.ins.map InD.v) .any, .vec (p.arrays.map ArD.v) .any, .vec (p.body.map Stm.v) .any] := rfl
 simp -dsimp -implicitDefEqProofs only [↓STP, STQ, seval, ir5, hv0]
 rw [← hv0]
 refine small29 ok hb fun b hvp => ?_
 cases b with
 | false =>
  simp -dsimp -implicitDefEqProofs only [↓STP, STQ, seval]
  refine awake29 fun h' _ => ?_
  simp -dsimp -implicitDefEqProofs only [↓STP, STQ, seval]
  exact hK _
 | true =>
 have v := (hvp rfl).vt ok
 by_cases c : (p.body.length : Int) = 0
 ·simp -dsimp -implicitDefEqProofs only [↓STP, STQ, seval, hv0, List.length_map, eq_true c]
  refine awake29 fun h' _ => ?_
  simp -dsimp -implicitDefEqProofs only [↓STP, STQ, seval]
  exact hK _
 simp -dsimp -implicitDefEqProofs only [↓STP, STQ, seval, hv0, List.length_map, eq_false c]
 rw [← hv0]
 refine maxG v fun h1 u1 => ?_
 by_cases e : errT (checkT p) = 0
 rotate_left
 ·have hm : mostT (checkT p) = 0 := by
   cases hc : checkT p with
   | ok σ => rw [hc] at e; exact absurd rfl e
   | error er => rfl
  simp -dsimp -implicitDefEqProofs only [↓STP, STQ, seval, eq_false e]
  refine awake29 fun h' _ => ?_
  rw [hm]
  simp -dsimp -implicitDefEqProofs only [↓STP, STQ, seval]
  exact hK _
 obtain ⟨σ, hσ⟩ := errT_ok e checkT_nz
 obtain ⟨τ, hτ, hle⟩ := check_init v hσ
 have w1 : IntKind.i64.wrap ((p.body.length : Int) - 1) = ((p.body.length - 1 : Nat) : Int) := by
  have := v.ok.lb
  have := maxLen_eq
  rw [wrap_i64] <;> omega
 have hst := slc_take (xs := p.body.map Stm.v) (c := .any) (i := p.body.length - 1) (sz := 5) (k := .i64) (by simp) (by simp)
 have hv1 : p.init.v = V.agg [.vec (p.ins.map InD.v) .any, .vec (p.arrays.map ArD.v) .any, .vec ((p.body.take (p.body.length - 1)).map Stm.v) .any] := rfl
 simp -dsimp -implicitDefEqProofs only [↓STP, STQ, seval, eq_true e, List.length_map, w1, hst, ← List.map_take]
 rw [← hv1]
 refine maxG v.init fun h2 u2 => ?_
 simp -dsimp -implicitDefEqProofs only [↓STP, STQ, seval]
 refine awake29 fun h' _ => ?_
 have hle' : ((mostT (checkT p.init) : Nat) : Int) ≤ ((mostT (checkT p) : Nat) : Int) := by
  rw [hτ, hσ]; exact Int.ofNat_le.2 hle
 have he2 : errT (checkT p.init) = 0 := by rw [hτ]; rfl
 simp -dsimp -implicitDefEqProofs only [↓STP, STQ, seval, eq_true he2, eq_true hle']
 exact hK _
end
end YtihmoaibgmhjeaaDoor
end Go.Ab
