import Derived.Test.YtihmoaibgmhjeaaDoorD15
set_option linter.unusedVariables false
set_option linter.unusedSimpArgs false
namespace Go.Ab
namespace YtihmoaibgmhjeaaDoor
section
variable {h : H} {K : Out → H → Prop}
def SzE (l : List Exp) : Prop := ∀ (h : H) (K : Out → H → Prop), (∀ n : Int, K (.ret (I n)) h) → R 46 [.vec (l.map Exp.v) .any] h K
def SzS (l : List Stm) : Prop := ∀ (h : H) (K : Out → H → Prop), (∀ n : Int, K (.ret (I n)) h) → R 33 [.vec (l.map Stm.v) .any] h K
theorem szE_of (l : List Exp) (hl : l.length ≤ maxLen) (ih : ∀ x ∈ l, SzE x.kids) : SzE l := by
 intro h K hK
 have hm := maxLen_eq
 refine run46 (Nat.le_of_ble_eq_true rfl) ?_
 simp -dsimp -implicitDefEqProofs only [↓STP, STQ, seval, ir46]
 refine codeT_loop (fun k st => ∃ (i : Nat) (t : Int), k = l.length - i ∧ i ≤ l.length ∧ st = ⟨upd (upd (upd ρ0 0 (.vec (l.map Exp.v) .any)) 3 (I t)) 4 (I i), m0, 0, [], h⟩) (i := l.length) ?_ ?_ mono
 ·exact ⟨0, _, by omega, Nat.zero_le _, rfl⟩
 rintro k st ⟨i, t, rfl, hi, rfl⟩
 by_cases hlt : i < l.length
 rotate_left
 ·have : i = l.length := by omega
  subst this
  simp -dsimp -implicitDefEqProofs only [↓STP, STQ, seval, List.length_map, Int.lt_irrefl]
  exact hK _
 have hget := get_map (f := Exp.v) hlt
 have ihx := ih _ (List.getElem_mem hlt)
 have w1 := wiM (show i < 9223372036854775807 by omega)
 generalize l[i] = x at *
 obtain ⟨k, o, n, s, ks⟩ := x
 simp -dsimp -implicitDefEqProofs only [↓STP, STQ, seval, List.length_map, Int.ofNat_lt, hlt, hget, Exp.v_mk]
 refine ihx _ _ fun n => ?_
 simp -dsimp -implicitDefEqProofs only [↓STP, STQ, seval, w1]
 exact ⟨l.length - (i + 1), by omega, i + 1, _, rfl, by omega, rfl⟩
theorem szE_kids (e : Exp) : EOk e → SzE e.kids := by
 induction e using Exp.ind with
 | h k o n s ks ih =>
  intro ok
  obtain ⟨_, _, _, _, hl, hks⟩ := EOk_mk ok
  exact szE_of ks hl fun x hx => ih x hx (hks x hx)
theorem szE {l : List Exp} (hl : l.length ≤ maxLen) (ok : ∀ x ∈ l, EOk x) : SzE l := szE_of l hl fun x hx => szE_kids x (ok x hx)
theorem szS_of (l : List Stm) (hl : l.length ≤ maxLen) (ihe : ∀ x ∈ l, SzE x.e) (iha : ∀ x ∈ l, SzS x.thn) (ihb : ∀ x ∈ l, SzS x.els) : SzS l := by
 intro h K hK
 have hm := maxLen_eq
 refine run33 (Nat.le_of_ble_eq_true rfl) ?_
 simp -dsimp -implicitDefEqProofs only [↓STP, STQ, seval, ir33]
 refine codeT_loop (fun k st => ∃ (i : Nat) (t : Int), k = l.length - i ∧ i ≤ l.length ∧ st = ⟨upd (upd (upd ρ0 0 (.vec (l.map Stm.v) .any)) 3 (I t)) 4 (I i), m0, 0, [], h⟩) (i := l.length) ?_ ?_ mono
 ·exact ⟨0, _, by omega, Nat.zero_le _, rfl⟩
 rintro k st ⟨i, t, rfl, hi, rfl⟩
 by_cases hlt : i < l.length
 rotate_left
 ·have : i = l.length := by omega
  subst this
  simp -dsimp -implicitDefEqProofs only [↓STP, STQ, seval, List.length_map, Int.lt_irrefl]
  exact hK _
 have hget := get_map (f := Stm.v) hlt
 have h1 := ihe _ (List.getElem_mem hlt)
 have h2 := iha _ (List.getElem_mem hlt)
 have h3 := ihb _ (List.getElem_mem hlt)
 have w1 := wiM (show i < 9223372036854775807 by omega)
 generalize l[i] = x at *
 obtain ⟨k, s, e, a, b⟩ := x
 simp -dsimp -implicitDefEqProofs only [↓STP, STQ, seval, List.length_map, Int.ofNat_lt, hlt, hget, Stm.v_mk]
 refine h1 _ _ fun n => ?_
 simp -dsimp -implicitDefEqProofs only [↓STP, STQ, seval, hget, Stm.v_mk]
 refine h2 _ _ fun n => ?_
 simp -dsimp -implicitDefEqProofs only [↓STP, STQ, seval, hget, Stm.v_mk]
 refine h3 _ _ fun n => ?_
 simp -dsimp -implicitDefEqProofs only [↓STP, STQ, seval, w1]
 exact ⟨l.length - (i + 1), by omega, i + 1, _, rfl, by omega, rfl⟩
theorem szS_parts (x : Stm) : SOk x → SzE x.e ∧ SzS x.thn ∧ SzS x.els := by
 induction x using Stm.ind with
 | h k s e a b iha ihb =>
  intro ok
  obtain ⟨_, _, le, la, lb, oke, oka, okb⟩ := SOk_mk ok
  exact ⟨szE le oke, szS_of a la (fun x hx => (iha x hx (oka x hx)).1) (fun x hx => (iha x hx (oka x hx)).2.1) (fun x hx => (iha x hx (oka x hx)).2.2),
   szS_of b lb (fun x hx => (ihb x hx (okb x hx)).1) (fun x hx => (ihb x hx (okb x hx)).2.1) (fun x hx => (ihb x hx (okb x hx)).2.2)⟩
theorem szS {l : List Stm} (hl : l.length ≤ maxLen) (ok : ∀ x ∈ l, SOk x) : SzS l :=
 szS_of l hl (fun x hx => (szS_parts x (ok x hx)).1) (fun x hx => (szS_parts x (ok x hx)).2.1) (fun x hx => (szS_parts x (ok x hx)).2.2)
theorem sizeR {p : Prg} (ok : POk p) (hK : ∀ n : Int, K (.ret (I n)) h) : R 23 [p.v] h K := by
 refine run23 (Nat.le_of_ble_eq_true rfl) ?_
 simp -dsimp -implicitDefEqProofs only [↓STP, STQ, seval, ir23, Prg.v, Prg.cells]
 refine szS ok.lb ok.body _ _ fun n => ?_
 simp -dsimp -implicitDefEqProofs only [↓STP, STQ, seval]
 exact hK _
theorem small29L {p : Prg} (ok : POk p) (hb : p.v.bulk ≤ 1048576) {n : Int} (hK : ∀ b : Bool, (b = true → VP p ∧ p.ins.length ≤ 20 ∧ p.arrays.length ≤ 10) → K (.ret (.bool b)) h) : R 9 [p.v, I n] h K := by
 refine run9 (Nat.le_of_ble_eq_true rfl) ?_
 have hv0 : p.v = V.agg [.vec (p.ins.map InD.v) .any, .vec (p.arrays.map ArD.v) .any, .vec (p.body.map Stm.v) .any] := rfl
 have no : K (.ret (.bool false)) h := hK false (by simp)
 by_cases c1 : (p.ins.length : Int) ≤ 20
 rotate_left
 ·simp -dsimp -implicitDefEqProofs only [↓STP, STQ, seval, ir9, hv0, List.length_map, eq_false c1]
  exact no
 by_cases c2 : (p.arrays.length : Int) ≤ 10
 rotate_left
 ·simp -dsimp -implicitDefEqProofs only [↓STP, STQ, seval, ir9, hv0, List.length_map, eq_true c1, eq_false c2]
  exact no
 by_cases c3 : (p.body.length : Int) ≤ 100
 rotate_left
 ·simp -dsimp -implicitDefEqProofs only [↓STP, STQ, seval, ir9, hv0, List.length_map, eq_true c1, eq_true c2, eq_false c3]
  exact no
 simp -dsimp -implicitDefEqProofs only [↓STP, STQ, seval, ir9, hv0, List.length_map, eq_true c1, eq_true c2, eq_true c3]
 rw [← hv0]
 refine valid27 ok (fun h1 h2 h3 => by have := flen_bulk ok h3; omega) fun b hvb => ?_
 cases b with
 | false =>
  simp -dsimp -implicitDefEqProofs only [↓STP, STQ, seval]
  exact no
 | true =>
  simp -dsimp -implicitDefEqProofs only [↓STP, STQ, seval, hv0]
  rw [← hv0]
  refine sizeR ok fun z => ?_
  by_cases c4 : z ≤ n
  ·simp -dsimp -implicitDefEqProofs only [↓STP, STQ, seval, eq_true c4]
   exact hK _ fun _ => ⟨hvb.1 rfl, by omega, by omega⟩
  ·simp -dsimp -implicitDefEqProofs only [↓STP, STQ, seval, eq_false c4]
   exact no
theorem small29 {p : Prg} (ok : POk p) (hb : p.v.bulk ≤ 1048576) {n : Int} (hK : ∀ b : Bool, (b = true → VP p) → K (.ret (.bool b)) h) : R 9 [p.v, I n] h K :=
 small29L ok hb fun b hv => hK b fun e => (hv e).1
end
end YtihmoaibgmhjeaaDoor
end Go.Ab
