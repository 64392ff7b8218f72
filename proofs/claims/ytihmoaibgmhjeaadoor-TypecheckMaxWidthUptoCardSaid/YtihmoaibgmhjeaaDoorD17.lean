import Derived.Test.YtihmoaibgmhjeaaDoorD16
set_option linter.unusedVariables false
set_option linter.unusedSimpArgs false
namespace Go.Ab
def nameX (s : ByteArray) : Exp := .mk 2 0 0 s []
def numX (n : Nat) : Exp := .mk 1 0 n noName []
def opX (k : Int) (a b : Exp) : Exp := .mk 4 k 0 noName [a, b]
def nA : ByteArray := ⟨#[97]⟩
def nX : ByteArray := ⟨#[120]⟩
theorem isA : isName nA := ⟨by decide, by decide, ⟨97, [], rfl, by decide⟩, by decide, by simp [words26, nA]⟩
theorem isX : isName nX := ⟨by decide, by decide, ⟨120, [], rfl, by decide⟩, by decide, by simp [words26, nX]⟩
def sqP : Prg := ⟨[⟨nA, 1, 4, 0⟩], [], [.mk 1 nX [opX 1 (nameX nA) (numX 1)] [] [], .mk 5 noName [opX 3 (nameX nX) (nameX nX)] [] []]⟩
def badP : Prg := ⟨[], [], [.mk 5 noName [nameX nX] [] []]⟩
theorem wid_one : wid 1 = 1 := by
 unfold wid
 rw [blen_pos (by decide), show (1 : Nat) / 2 = 0 from rfl, blen_zero]; rfl
theorem ax : ¬ nA = nX := by decide
theorem xa : ¬ nX = nA := by decide
theorem sq_check : ∃ σ, checkT sqP = .ok σ ∧ σ.most = 10 := by
 refine ⟨_, by
  simp [checkT, unlikeT, sqP, initT, stmtsT, stmtT, stepT, opX, nameX, numX, exprsT, exprT, madeT, nameT, findL, inOf, List.find?, toldT, opK, opKind, nthK, kcon, knum, wid_one, stmt1, setT, takenT, arOf, setV, maxI, ax, xa]
  rfl, rfl⟩
theorem bad_check : checkT badP = .error 4 := by
 simp [checkT, unlikeT, badP, initT, stmtsT, stmtT, stepT, nameX, exprsT, exprT, madeT, nameT, findL, inOf]
theorem sq_most : mostT (checkT sqP) = 10 := by obtain ⟨σ, h, hm⟩ := sq_check; rw [h]; exact hm
theorem sq_err : errT (checkT sqP) = 0 := by obtain ⟨σ, h, hm⟩ := sq_check; rw [h]; rfl
theorem bad_err : errT (checkT badP) = 4 := by rw [bad_check]; rfl
theorem VE_name {s : ByteArray} {lv : Nat} (h : isName s) (hl : lv ≤ 24) : VE (nameX s) lv :=
 VE_mk.2 ⟨hl, rfl, fun _ => h, fun hn => absurd (.inl rfl) hn, fun h => absurd h (by decide), fun _ => rfl, by decide, fun _ => rfl, by simp⟩
theorem VE_numX {n lv : Nat} (h : n ≤ 1152921504606846975) (hl : lv ≤ 24) : VE (numX n) lv :=
 VE_mk.2 ⟨hl, rfl, fun h => absurd h (by decide), fun _ => rfl, fun h => absurd h (by decide), fun _ => rfl, h, fun h => absurd rfl h, by simp⟩
theorem VE_opX {k : Int} {a b : Exp} {lv : Nat} (h1 : 1 ≤ k) (h7 : k ≤ 7) (ha : VE a (lv + 1)) (hb : VE b (lv + 1)) (hl : lv ≤ 24) : VE (opX k a b) lv :=
 VE_mk.2 ⟨hl, rfl, fun h => absurd h (by decide), fun _ => rfl, fun _ => ⟨h1, h7⟩, fun h => absurd rfl h, by decide, fun _ => rfl, fun x hx => by
  rcases List.mem_cons.1 hx with rfl | hx
  ·exact ha
  ·rcases List.mem_cons.1 hx with rfl | hx
   ·exact hb
   ·cases hx⟩
theorem i64s {k : Int} (h0 : -100 ≤ k) (h1 : k ≤ 100000000) : I64 k := ⟨by omega, by omega⟩
theorem EOk_name {s : ByteArray} (h : s.size ≤ maxLen) : EOk (nameX s) := .mk (i64s (by decide) (by decide)) (i64s (by decide) (by decide)) (by decide) h (by decide) (by simp)
theorem EOk_num {n : Nat} (h : n < 18446744073709551616) : EOk (numX n) := .mk (i64s (by decide) (by decide)) (i64s (by decide) (by decide)) h (by decide) (by decide) (by simp)
theorem EOk_op {k : Int} {a b : Exp} (h1 : 1 ≤ k) (h7 : k ≤ 7) (ha : EOk a) (hb : EOk b) : EOk (opX k a b) := .mk (i64s (by decide) (by decide)) (i64s (by omega) (by omega)) (by decide) (by decide) (by show 2 ≤ maxLen; decide) (fun x hx => by
  rcases List.mem_cons.1 hx with rfl | hx
  ·exact ha
  ·rcases List.mem_cons.1 hx with rfl | hx
   ·exact hb
   ·cases hx)
theorem sq_vt : VT sqP := by
 refine ⟨⟨fun x hx => ?_, by simp [sqP], fun x hx => ?_, by decide, by decide, by decide⟩, ?_, fun d hd => ?_, by simp [sqP]⟩
 ·rw [show sqP.ins = [⟨nA, 1, 4, 0⟩] from rfl, List.mem_singleton] at hx
  subst hx
  exact ⟨i64s (by decide) (by decide), i64s (by decide) (by decide), i64s (by decide) (by decide), by show (1 : Nat) ≤ maxLen; decide⟩
 ·rcases List.mem_cons.1 hx with rfl | hx
  ·exact .mk (i64s (by decide) (by decide)) (by show (1 : Nat) ≤ maxLen; decide) (by show (1 : Nat) ≤ maxLen; decide) (by decide) (by decide) (fun y hy => by
    rw [List.mem_singleton] at hy; subst hy
    exact EOk_op (by decide) (by decide) (EOk_name (by show (1 : Nat) ≤ maxLen; decide)) (EOk_num (by decide))) (by simp) (by simp)
  ·rcases List.mem_cons.1 hx with rfl | hx
   ·exact .mk (i64s (by decide) (by decide)) (by decide) (by show (1 : Nat) ≤ maxLen; decide) (by decide) (by decide) (fun y hy => by
     rw [List.mem_singleton] at hy; subst hy
     exact EOk_op (by decide) (by decide) (EOk_name (by show (1 : Nat) ≤ maxLen; decide)) (EOk_name (by show (1 : Nat) ≤ maxLen; decide))) (by simp) (by simp)
   ·cases hx
 ·refine VSs_all.2 fun x hx => ?_
  rcases List.mem_cons.1 hx with rfl | hx
  ·exact VS_mk.2 ⟨by decide, by decide, by decide, rfl, fun _ => isX, fun hn => absurd ⟨by decide, by decide⟩ hn, fun _ => rfl, fun _ _ => rfl, fun y hy => by
    rw [List.mem_singleton] at hy; subst hy
    exact VE_opX (by decide) (by decide) (VE_name isA (by decide)) (VE_numX (by decide) (by decide)) (by decide), trivial, trivial⟩
  ·rcases List.mem_cons.1 hx with rfl | hx
   ·exact VS_mk.2 ⟨by decide, by decide, by decide, rfl, fun hn => absurd rfl hn.2, fun _ => rfl, fun _ => rfl, fun _ _ => rfl, fun y hy => by
     rw [List.mem_singleton] at hy; subst hy
     exact VE_opX (by decide) (by decide) (VE_name isX (by decide)) (VE_name isX (by decide)) (by decide), trivial, trivial⟩
   ·cases hx
 ·rw [show sqP.ins = [⟨nA, 1, 4, 0⟩] from rfl, List.mem_singleton] at hd
  subst hd
  exact ⟨isA, by decide, by decide, by decide, by decide, by decide, by decide⟩
theorem bad_vt : VT badP := by
 refine ⟨⟨by simp [badP], by simp [badP], fun x hx => ?_, by decide, by decide, by decide⟩, ?_, by simp [badP], by simp [badP]⟩
 ·rw [show badP.body = [.mk 5 noName [nameX nX] [] []] from rfl, List.mem_singleton] at hx
  subst hx
  exact .mk (i64s (by decide) (by decide)) (by decide) (by show (1 : Nat) ≤ maxLen; decide) (by decide) (by decide) (fun y hy => by
     rw [List.mem_singleton] at hy; subst hy
     exact EOk_name (by show (1 : Nat) ≤ maxLen; decide)) (by simp) (by simp)
 ·refine VSs_all.2 fun x hx => ?_
  rw [show badP.body = [.mk 5 noName [nameX nX] [] []] from rfl, List.mem_singleton] at hx
  subst hx
  exact VS_mk.2 ⟨by decide, by decide, by decide, rfl, fun hn => absurd rfl hn.2, fun _ => rfl, fun _ => rfl, fun _ _ => rfl, fun y hy => by
     rw [List.mem_singleton] at hy; subst hy
     exact VE_name isX (by decide), trivial, trivial⟩
namespace YtihmoaibgmhjeaaDoor
section
variable {h : H} {K : Out → H → Prop}
theorem nameE29 {s : ByteArray} (hK : K (.ret (nameX s).v) h) : R 25 [.str s] h K := by
 refine run25 (Nat.le_of_ble_eq_true rfl) ?_
 rw [nameX, Exp.v_mk] at hK
 simp -dsimp -implicitDefEqProofs only [↓STP, STQ, seval, ir25, storeV]
 exact hK
theorem numE29 {n : Nat} (hK : K (.ret (numX n).v) h) : R 19 [W n] h K := by
 refine run19 (Nat.le_of_ble_eq_true rfl) ?_
 rw [numX, Exp.v_mk] at hK
 simp -dsimp -implicitDefEqProofs only [↓STP, STQ, seval, ir19, storeV]
 exact hK
theorem opE29 {k : Int} {a b : Exp} (hK : K (.ret (opX k a b).v) h) : R 21 [I k, a.v, b.v] h K := by
 refine run21 (Nat.le_of_ble_eq_true rfl) ?_
 rw [opX, Exp.v_mk] at hK
 obtain ⟨k1, o1, n1, s1, ks1⟩ := a
 obtain ⟨k2, o2, n2, s2, ks2⟩ := b
 simp -dsimp -implicitDefEqProofs only [↓STP, STQ, seval, ir21, storeV, Exp.v_mk]
 simp only [List.map_cons, List.map_nil, Exp.v_mk] at hK
 exact hK
theorem square29 (hK : K (.ret sqP.v) h) : R 24 [] h K := by
 refine run24 (Nat.le_of_ble_eq_true rfl) ?_
 simp -dsimp -implicitDefEqProofs only [↓STP, STQ, seval, ir24]
 refine nameE29 (s := nX) ?_
 simp -dsimp -implicitDefEqProofs only [↓STP, STQ, seval, nameX, Exp.v_mk, storeV]
 refine nameE29 (s := nA) ?_
 simp -dsimp -implicitDefEqProofs only [↓STP, STQ, seval, nameX, Exp.v_mk]
 refine numE29 (n := 1) ?_
 simp -dsimp -implicitDefEqProofs only [↓STP, STQ, seval, numX, Exp.v_mk]
 refine opE29 (k := 1) (a := nameX nA) (b := numX 1) ?_
 simp -dsimp -implicitDefEqProofs only [↓STP, STQ, seval, opX, nameX, numX, Exp.v_mk]
 refine opE29 (k := 3) (a := nameX nX) (b := nameX nX) ?_
 simp -dsimp -implicitDefEqProofs only [↓STP, STQ, seval, opX, nameX, numX, Exp.v_mk, storeV]
 exact hK
theorem awake29 (hK : ∀ h', UpH h h' → K (.ret (.bool true)) h') : R 10 [] h K := by
 refine run10 (Nat.le_of_ble_eq_true rfl) ?_
 have sq0 : sqP.v = V.agg [.vec (sqP.ins.map InD.v) .any, .vec (sqP.arrays.map ArD.v) .any, .vec (sqP.body.map Stm.v) .any] := rfl
 have s1 : Supp 8191 13 := by unfold Supp; omega
 have s2 : Supp 127 7 := by unfold Supp; omega
 simp -dsimp -implicitDefEqProofs only [↓STP, STQ, seval, ir10]
 refine square29 ?_
 simp -dsimp -implicitDefEqProofs only [↓STP, STQ, seval, sq0]
 rw [← sq0]
 refine maxG sq_vt fun h1 u1 => ?_
 rw [sq_most, sq_err]
 simp -dsimp -implicitDefEqProofs only [↓STP, STQ, seval]
 refine nameE29 (s := nX) ?_
 simp -dsimp -implicitDefEqProofs only [↓STP, STQ, seval, nameX, Exp.v_mk]
 refine checkG (p := badP) bad_vt fun h2 u2 => ?_
 rw [bad_err]
 simp -dsimp -implicitDefEqProofs only [↓STP, STQ, seval]
 refine square29 ?_
 simp -dsimp -implicitDefEqProofs only [↓STP, STQ, seval, sq0]
 rw [← sq0]
 refine checkG sq_vt fun h3 u3 => ?_
 rw [sq_err]
 simp -dsimp -implicitDefEqProofs only [↓STP, STQ, seval]
 refine square29 ?_
 simp -dsimp -implicitDefEqProofs only [↓STP, STQ, seval, sq0]
 rw [← sq0]
 refine checkFieldG sq_vt s1 fun h4 u4 => ?_
 rw [show fieldE (checkT sqP) ((13 : Nat) : Int) = 0 by unfold fieldE; rw [sq_err, sq_most]; rfl]
 simp -dsimp -implicitDefEqProofs only [↓STP, STQ, seval]
 refine square29 ?_
 simp -dsimp -implicitDefEqProofs only [↓STP, STQ, seval, sq0]
 rw [← sq0]
 refine checkFieldG sq_vt s2 fun h5 u5 => ?_
 rw [show fieldE (checkT sqP) ((7 : Nat) : Int) = 11 by unfold fieldE; rw [sq_err, sq_most]; rfl]
 simp -dsimp -implicitDefEqProofs only [↓STP, STQ, seval]
 exact hK _ (((u1.trans u2).trans (u3.trans u4)).trans u5)
end
end YtihmoaibgmhjeaaDoor
end Go.Ab
