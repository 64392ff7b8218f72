import Derived.Test.YtihmoaibgmhjeaaDoorA3
set_option linter.unusedVariables false
set_option linter.unusedSimpArgs false
namespace Go.Ab
theorem bsz {a : Array UInt8} : ByteArray.size ⟨a⟩ = a.size := rfl
theorem addS {a b : ByteArray} (h : a.size + b.size ≤ 9223372036854775807) : binS .add a b = some (.str (a ++ b)) := by simp only [binS, if_pos h]
theorem len1 {α : Type} {l : List α} (h : l.length = 1) : ∃ a, l = [a] := by
 match l, h with
 | [a], _ => exact ⟨a, rfl⟩
theorem len2 {α : Type} {l : List α} (h : l.length = 2) : ∃ a b, l = [a, b] := by
 match l, h with
 | [a, b], _ => exact ⟨a, b, rfl⟩
theorem len3 {α : Type} {l : List α} (h : l.length = 3) : ∃ a b c, l = [a, b, c] := by
 match l, h with
 | [a, b, c], _ => exact ⟨a, b, c, rfl⟩
theorem kidsN_cases {k : Int} {n : Nat} (h : kidsN k = n) : k = 1 ∨ k = 2 ∨ k = 3 ∨ k = 4 ∨ k = 5 ∨ k = 6 := by
 unfold kidsN at h
 split at h
 ·omega
 ·split at h
  ·omega
  ·split at h
   ·omega
   ·split at h <;> omega
def dlen (n : Nat) : Nat := if n < 10 then 1 else 1 + dlen (n / 10)
theorem dlen_small {n : Nat} (h : n < 10) : dlen n = 1 := by rw [dlen, if_pos h]
theorem dlen_big {n : Nat} (h : ¬ n < 10) : dlen n = 1 + dlen (n / 10) := by rw [dlen, if_neg h]
theorem dlen_le : ∀ {k n : Nat}, n < 10 ^ k → dlen n ≤ max k 1
 | 0, n, h => by have : n = 0 := by simpa using h
                 subst this; rw [dlen_small (by decide)]; decide
 | k + 1, n, h => by
  by_cases h1 : n < 10
  ·rw [dlen_small h1]; omega
  ·rw [dlen_big h1]
   have h2 : n / 10 < 10 ^ k := by rw [Nat.div_lt_iff_lt_mul (by decide), ← Nat.pow_succ]; exact h
   have := dlen_le h2
   rcases Nat.eq_zero_or_pos k with hk | hk
   ·subst hk; simp at h2; omega
   ·omega
theorem dlen_le20 {n : Nat} (h : n < 18446744073709551616) : dlen n ≤ 20 := dlen_le (k := 20) (by omega)
def precE (k o : Int) : Int := if k = 6 then 1 else if k = 5 then 8 else if k = 4 then (if o = 7 then 2 else if o = 6 then 3 else if o = 5 then 4 else if o = 4 then 5 else if o = 3 then 7 else 6) else 9
def held (x : Int × Nat) (m : Int) : Nat := if x.1 < m then x.2 + 2 else x.2
def nth (l : List (Int × Nat)) (i : Nat) : Int × Nat := l.getD i (9, 0)
def tlenOf (k o : Int) (n : Nat) (s : ByteArray) (l : List (Int × Nat)) : Nat :=
 if k = 1 then dlen n else if k = 2 then s.size else if k = 3 then s.size + 1 + (nth l 0).2 + 1 else if k = 5 then 1 + held (nth l 0) 8
 else if k = 6 then held (nth l 0) 2 + 3 + (nth l 1).2 + 3 + (nth l 2).2
 else held (nth l 0) (precE k o) + 1 + (if o = 5 then 2 else 1) + 1 + held (nth l 1) (precE k o + 1)
mutual
def tlen : Exp → Nat
 | .mk k o n s ks => tlenOf k o n s (tlens ks)
def tlens : List Exp → List (Int × Nat)
 | [] => []
 | e :: es => (precE e.kind e.op, tlen e) :: tlens es
end
def tl (e : Exp) : Int × Nat := (precE e.kind e.op, tlen e)
theorem tlens_map : ∀ l : List Exp, tlens l = l.map tl
 | [] => rfl
 | e :: es => by rw [tlens, tlens_map es]; rfl
theorem tlen_mk {k o : Int} {n : Nat} {s : ByteArray} {ks : List Exp} : tlen (.mk k o n s ks) = tlenOf k o n s (ks.map tl) := by rw [tlen, tlens_map]
theorem Exp.v_boxable {e : Exp} : boxable e.v = true := by rw [Exp.v_eq]; rfl
namespace YtihmoaibgmhjeaaDoor
section
variable {h : H} {K : Out → H → Prop}
theorem dec27 {n : Nat} (hn : n < 18446744073709551616) (hK : ∀ s : ByteArray, s.size = dlen n → K (.ret (.str s)) h) : R 53 [W n] h K := by
 refine run53 (Nat.le_of_ble_eq_true rfl) ?_
 have w1 : ∀ {n : Nat}, IntKind.u64.wrap (48 + Int.tmod (n : Int) 10) = ((48 + n % 10 : Nat) : Int) := fun {n} => by
  rw [show Int.tmod (n : Int) 10 = ((n % 10 : Nat) : Int) from rfl, wrap_u64_self] <;> omega
 simp -dsimp -implicitDefEqProofs only [↓STP, STQ, seval, ir53, w1, bytesOf]
 refine codeT_loop (fun k st => ∃ (m : Nat) (s : ByteArray), k = m ∧ m ≤ n ∧ s.size + dlen m = dlen n + 1 ∧ s.size ≤ 30 ∧ st = ⟨upd (upd ρ0 0 (W m)) 3 (.str s), m0, 0, [], h⟩) (i := n) ⟨n, _, rfl, Nat.le_refl _, ?_, ?_, by simp -dsimp -implicitDefEqProofs only [↓STP, STQ, seval] <;> rfl⟩ ?_ mono
 ·simp only [bsz, List.size_toArray, List.length_cons, List.length_nil]; omega
 ·simp only [bsz, List.size_toArray, List.length_cons, List.length_nil]; omega
 rintro m st ⟨_, s, rfl, hm, hs, hs2, rfl⟩
 have hd := dlen_le20 hn
 by_cases c : (10 : Int) ≤ (m : Int)
 ·have q1 : IntKind.u64.wrap (Int.tdiv (m : Int) 10) = ((m / 10 : Nat) : Int) := by
   rw [show Int.tdiv (m : Int) 10 = ((m / 10 : Nat) : Int) from rfl, wrap_u64_self] <;> omega
  have hdm := dlen_big (show ¬ m < 10 by omega)
  simp -dsimp -implicitDefEqProofs (disch := first | (simp -dsimp only [↓STP, STQ, seval]; done) | omega | (simp only [ByteArray.size_append, bsz, List.size_toArray, List.length_cons, List.length_nil]; omega)) only [↓STP, STQ, seval, addS, eq_true c, q1, w1, bytesOf]
  refine ⟨m / 10, by omega, m / 10, _, rfl, by omega, ?_, ?_, rfl⟩
  ·simp only [ByteArray.size_append, bsz, List.size_toArray, List.length_cons, List.length_nil]; omega
  ·simp only [ByteArray.size_append, bsz, List.size_toArray, List.length_cons, List.length_nil]; omega
 ·have hdm := dlen_small (show m < 10 by omega)
  simp -dsimp -implicitDefEqProofs only [↓STP, STQ, seval, eq_false c]
  exact hK s (by omega)
theorem prec27 {e : Exp} (hK : K (.ret (I (precE e.kind e.op))) h) : R 71 [e.v] h K := by
 obtain ⟨k, o, n, s, ks⟩ := e
 refine run71 (Nat.le_of_ble_eq_true rfl) ?_
 by_cases c6 : k = 6
 ·simp -dsimp -implicitDefEqProofs only [↓STP, STQ, seval, Exp.v_mk, ir71, eq_true c6]
  simpa [Exp.kind, Exp.op, precE, c6] using hK
 by_cases c5 : k = 5
 ·simp -dsimp -implicitDefEqProofs only [↓STP, STQ, seval, Exp.v_mk, ir71, eq_false c6, eq_true c5]
  simpa [Exp.kind, Exp.op, precE, c5] using hK
 by_cases c4 : k = 4
 ·by_cases o7 : o = 7
  ·simp -dsimp -implicitDefEqProofs only [↓STP, STQ, seval, Exp.v_mk, ir71, eq_false c6, eq_false c5, eq_true c4, eq_true o7]
   simpa [Exp.kind, Exp.op, precE, c4, o7] using hK
  by_cases o6 : o = 6
  ·simp -dsimp -implicitDefEqProofs only [↓STP, STQ, seval, Exp.v_mk, ir71, eq_false c6, eq_false c5, eq_true c4, eq_false o7, eq_true o6]
   simpa [Exp.kind, Exp.op, precE, c4, o6] using hK
  by_cases o5 : o = 5
  ·simp -dsimp -implicitDefEqProofs only [↓STP, STQ, seval, Exp.v_mk, ir71, eq_false c6, eq_false c5, eq_true c4, eq_false o7, eq_false o6, eq_true o5]
   simpa [Exp.kind, Exp.op, precE, c4, o5] using hK
  by_cases o4 : o = 4
  ·simp -dsimp -implicitDefEqProofs only [↓STP, STQ, seval, Exp.v_mk, ir71, eq_false c6, eq_false c5, eq_true c4, eq_false o7, eq_false o6, eq_false o5, eq_true o4]
   simpa [Exp.kind, Exp.op, precE, c4, o4] using hK
  by_cases o3 : o = 3
  ·simp -dsimp -implicitDefEqProofs only [↓STP, STQ, seval, Exp.v_mk, ir71, eq_false c6, eq_false c5, eq_true c4, eq_false o7, eq_false o6, eq_false o5, eq_false o4, eq_true o3]
   simpa [Exp.kind, Exp.op, precE, c4, o3] using hK
  simp -dsimp -implicitDefEqProofs only [↓STP, STQ, seval, Exp.v_mk, ir71, eq_false c6, eq_false c5, eq_true c4, eq_false o7, eq_false o6, eq_false o5, eq_false o4, eq_false o3]
  simpa [Exp.kind, Exp.op, precE, c4, o7, o6, o5, o4, o3] using hK
 simp -dsimp -implicitDefEqProofs only [↓STP, STQ, seval, Exp.v_mk, ir71, eq_false c6, eq_false c5, eq_false c4]
 simpa [Exp.kind, Exp.op, precE, c6, c5, c4] using hK
theorem sign27 {o : Int} (h1 : 1 ≤ o) (h2 : o ≤ 7) (hK : ∀ s : ByteArray, s.size = (if o = 5 then 2 else 1) → K (.ret (.str s)) h) : R 72 [I o] h K := by
 refine run72 (Nat.le_of_ble_eq_true rfl) ?_
 have kk : o = 1 ∨ o = 2 ∨ o = 3 ∨ o = 4 ∨ o = 5 ∨ o = 6 ∨ o = 7 := by omega
 have ww : ∀ {a b : Int}, a = b → 0 ≤ b → b ≤ 10 → IntKind.i64.wrap a = b := fun h1 h2 h3 => by rw [h1, wrap_i64] <;> omega
 have w0 := ww (a := 0) rfl (by decide) (by decide)
 have w1 := ww (a := 1) rfl (by decide) (by decide)
 have w2 := ww (a := 2) rfl (by decide) (by decide)
 have w3 := ww (a := 3) rfl (by decide) (by decide)
 have w4 := ww (a := 4) rfl (by decide) (by decide)
 have w5 := ww (a := 5) rfl (by decide) (by decide)
 have w6 := ww (a := 6) rfl (by decide) (by decide)
 rcases kk with rfl | rfl | rfl | rfl | rfl | rfl | rfl
 all_goals
  simp -dsimp -implicitDefEqProofs only [↓STP, STQ, seval, ir72, w0, w1, w2, w3, w4, w5, w6]
  exact hK _ rfl
def TextOk (e : Exp) : Prop := ∀ (h : H) (K : Out → H → Prop), (∀ s : ByteArray, s.size = tlen e → K (.ret (.str s)) h) → R 54 [e.v] h K
theorem paren27 {e : Exp} {m : Int} (ok : TextOk e) (hl : held (tl e) m ≤ 1000000000) (hK : ∀ s : ByteArray, s.size = held (tl e) m → K (.ret (.str s)) h) : R 70 [e.v, I m] h K := by
 refine run70 (Nat.le_of_ble_eq_true rfl) ?_
 obtain ⟨k, o, n, s, ks⟩ := e
 have hpe : precE (Exp.mk k o n s ks).kind (Exp.mk k o n s ks).op = precE k o := rfl
 by_cases c : precE k o < m
 ·have hh : held (tl (.mk k o n s ks)) m = tlen (.mk k o n s ks) + 2 := if_pos c
  rw [hh] at hl hK
  simp -dsimp -implicitDefEqProofs only [↓STP, STQ, seval, Exp.v_mk, ir70]
  rw [← Exp.v_mk]
  refine prec27 ?_
  simp -dsimp -implicitDefEqProofs only [↓STP, STQ, seval, Exp.v_mk, hpe, c]
  rw [← Exp.v_mk]
  refine ok _ _ fun s hs => ?_
  simp -dsimp -implicitDefEqProofs (disch := first | (simp -dsimp only [↓STP, STQ, seval]; done) | omega | (simp only [ByteArray.size_append, bsz, List.size_toArray, List.length_cons, List.length_nil]; omega)) only [↓STP, STQ, seval, addS]
  exact hK _ (by simp only [ByteArray.size_append, bsz, List.size_toArray, List.length_cons, List.length_nil]; omega)
 ·have hh : held (tl (.mk k o n s ks)) m = tlen (.mk k o n s ks) := if_neg c
  rw [hh] at hl hK
  simp -dsimp -implicitDefEqProofs only [↓STP, STQ, seval, Exp.v_mk, ir70]
  rw [← Exp.v_mk]
  refine prec27 ?_
  simp -dsimp -implicitDefEqProofs only [↓STP, STQ, seval, Exp.v_mk, hpe, c]
  rw [← Exp.v_mk]
  refine ok _ _ fun s hs => ?_
  simp -dsimp -implicitDefEqProofs only [↓STP, STQ, seval]
  exact hK s hs
theorem text27 (e : Exp) : ∀ lv, VE e lv → EOk e → tlen e ≤ 1000000000 → TextOk e := by
 induction e using Exp.ind with
 | h k o n s ks ih =>
  intro lv hv ok hl h K hK
  obtain ⟨v1, v2, v3, v4, v5, v6, v7, v8, v9⟩ := VE_mk.1 hv
  obtain ⟨_, _, hn, hs, _, hks⟩ := EOk_mk ok
  rw [tlen_mk] at hl hK
  have one : ∀ (x : Exp), x ∈ ks → tlen x ≤ 1000000000 → TextOk x := fun x hx hl => ih _ hx (lv + 1) (v9 _ hx) (hks _ hx) hl
  refine run54 (Nat.le_of_ble_eq_true rfl) ?_
  by_cases c1 : k = 1
  ·subst c1
   have ht : tlenOf 1 o n s (ks.map tl) = dlen n := if_pos rfl
   rw [ht] at hl hK
   simp -dsimp -implicitDefEqProofs only [↓STP, STQ, seval, Exp.v_mk, ir54]
   refine dec27 hn fun s hs => ?_
   simp -dsimp -implicitDefEqProofs only [↓STP, STQ, seval]
   exact hK s hs
  by_cases c2 : k = 2
  ·subst c2
   have ht : tlenOf 2 o n s (ks.map tl) = s.size := by simp [tlenOf]
   rw [ht] at hl hK
   simp -dsimp -implicitDefEqProofs only [↓STP, STQ, seval, Exp.v_mk, ir54]
   exact hK s rfl
  by_cases c3 : k = 3
  ·subst c3
   obtain ⟨a, rfl⟩ := len1 (show ks.length = 1 by have : kidsN _ = (ks.length : Int) := v2; simp [kidsN] at this; omega)
   ·skip
    have ht : tlenOf 3 o n s ([a].map tl) = s.size + 1 + tlen a + 1 := by simp [tlenOf, nth, tl]
    rw [ht] at hl hK
    simp -dsimp -implicitDefEqProofs (disch := first | (simp -dsimp only [↓STP, STQ, seval]; done) | omega | (simp only [ByteArray.size_append, bsz, List.size_toArray, List.length_cons, List.length_nil]; omega)) only [↓STP, STQ, seval, addS, Exp.v_mk, Exp.v_clen, Exp.v_tk, Exp.v_ag, Exp.v_out, ir54]
    refine one a (by simp) (by omega) _ _ fun s1 h1 => ?_
    simp -dsimp -implicitDefEqProofs (disch := first | (simp -dsimp only [↓STP, STQ, seval]; done) | omega | (simp only [ByteArray.size_append, bsz, List.size_toArray, List.length_cons, List.length_nil]; omega)) only [↓STP, STQ, seval, addS]
    exact hK _ (by simp only [ByteArray.size_append, bsz, List.size_toArray, List.length_cons, List.length_nil]; omega)
  by_cases c5 : k = 5
  ·subst c5
   obtain ⟨a, rfl⟩ := len1 (show ks.length = 1 by have : kidsN _ = (ks.length : Int) := v2; simp [kidsN] at this; omega)
   ·skip
    have ht : tlenOf 5 o n s ([a].map tl) = 1 + held (tl a) 8 := by simp [tlenOf, nth]
    rw [ht] at hl hK
    have hh : tlen a ≤ held (tl a) 8 := by unfold held; split <;> simp only [tl] <;> omega
    simp -dsimp -implicitDefEqProofs (disch := first | (simp -dsimp only [↓STP, STQ, seval]; done) | omega | (simp only [ByteArray.size_append, bsz, List.size_toArray, List.length_cons, List.length_nil]; omega)) only [↓STP, STQ, seval, addS, Exp.v_mk, Exp.v_clen, Exp.v_tk, Exp.v_ag, Exp.v_out, ir54]
    refine paren27 (one a (by simp) (by omega)) (by omega) fun s1 h1 => ?_
    simp -dsimp -implicitDefEqProofs (disch := first | (simp -dsimp only [↓STP, STQ, seval]; done) | omega | (simp only [ByteArray.size_append, bsz, List.size_toArray, List.length_cons, List.length_nil]; omega)) only [↓STP, STQ, seval, addS]
    exact hK _ (by simp only [ByteArray.size_append, bsz, List.size_toArray, List.length_cons, List.length_nil]; omega)
  by_cases c6 : k = 6
  ·subst c6
   obtain ⟨a, b, c, rfl⟩ := len3 (show ks.length = 3 by have : kidsN _ = (ks.length : Int) := v2; simp [kidsN] at this; omega)
   ·skip
    have ht : tlenOf 6 o n s ([a, b, c].map tl) = held (tl a) 2 + 3 + tlen b + 3 + tlen c := by simp [tlenOf, nth, tl]
    rw [ht] at hl hK
    have hh : tlen a ≤ held (tl a) 2 := by unfold held; split <;> simp only [tl] <;> omega
    simp -dsimp -implicitDefEqProofs (disch := first | (simp -dsimp only [↓STP, STQ, seval]; done) | omega | (simp only [ByteArray.size_append, bsz, List.size_toArray, List.length_cons, List.length_nil]; omega)) only [↓STP, STQ, seval, addS, Exp.v_mk, Exp.v_clen, Exp.v_tk, Exp.v_ag, Exp.v_out, ir54]
    refine paren27 (one a (by simp) (by omega)) (by omega) fun s1 h1 => ?_
    simp -dsimp -implicitDefEqProofs (disch := first | (simp -dsimp only [↓STP, STQ, seval]; done) | omega | (simp only [ByteArray.size_append, bsz, List.size_toArray, List.length_cons, List.length_nil]; omega)) only [↓STP, STQ, seval, addS, Exp.v_clen, Exp.v_tk, Exp.v_ag, Exp.v_out]
    refine one b (by simp) (by omega) _ _ fun s2 h2 => ?_
    simp -dsimp -implicitDefEqProofs (disch := first | (simp -dsimp only [↓STP, STQ, seval]; done) | omega | (simp only [ByteArray.size_append, bsz, List.size_toArray, List.length_cons, List.length_nil]; omega)) only [↓STP, STQ, seval, addS, Exp.v_clen, Exp.v_tk, Exp.v_ag, Exp.v_out]
    refine one c (by simp) (by omega) _ _ fun s3 h3 => ?_
    simp -dsimp -implicitDefEqProofs (disch := first | (simp -dsimp only [↓STP, STQ, seval]; done) | omega | (simp only [ByteArray.size_append, bsz, List.size_toArray, List.length_cons, List.length_nil]; omega)) only [↓STP, STQ, seval, addS]
    exact hK _ (by simp only [ByteArray.size_append, bsz, List.size_toArray, List.length_cons, List.length_nil]; omega)
  ·have c4 : k = 4 := by have := kidsN_cases v2; omega
   subst c4
   obtain ⟨o1, o2⟩ := v5 rfl
   obtain ⟨a, b, rfl⟩ := len2 (show ks.length = 2 by have : kidsN _ = (ks.length : Int) := v2; simp [kidsN] at this; omega)
   ·skip
    have ht : tlenOf 4 o n s ([a, b].map tl) = held (tl a) (precE 4 o) + 1 + (if o = 5 then 2 else 1) + 1 + held (tl b) (precE 4 o + 1) := by simp [tlenOf, nth]
    rw [ht] at hl hK
    have hha : tlen a ≤ held (tl a) (precE 4 o) := by unfold held; split <;> simp only [tl] <;> omega
    have hhb : tlen b ≤ held (tl b) (precE 4 o + 1) := by unfold held; split <;> simp only [tl] <;> omega
    have hp : 2 ≤ precE 4 o ∧ precE 4 o ≤ 7 := by
     have : precE 4 o = (if o = 7 then 2 else if o = 6 then 3 else if o = 5 then 4 else if o = 4 then 5 else if o = 3 then 7 else 6) := by simp [precE]
     rw [this]
     repeat' split
     all_goals omega
    have wp : IntKind.i64.wrap (precE 4 o + 1) = precE 4 o + 1 := by rw [wrap_i64] <;> omega
    have hpe : precE (Exp.mk 4 o n s [a, b]).kind (Exp.mk 4 o n s [a, b]).op = precE 4 o := rfl
    simp -dsimp -implicitDefEqProofs (disch := first | (simp -dsimp only [↓STP, STQ, seval]; done) | omega | (simp only [ByteArray.size_append, bsz, List.size_toArray, List.length_cons, List.length_nil]; omega)) only [↓STP, STQ, seval, addS, Exp.v_mk, ir54]
    refine prec27 (e := .mk 4 o n s [a, b]) ?_
    rw [hpe]
    simp -dsimp -implicitDefEqProofs (disch := first | (simp -dsimp only [↓STP, STQ, seval]; done) | omega | (simp only [ByteArray.size_append, bsz, List.size_toArray, List.length_cons, List.length_nil]; omega)) only [↓STP, STQ, seval, addS, Exp.v_clen, Exp.v_tk, Exp.v_ag, Exp.v_out, wp]
    refine paren27 (one a (by simp) (by omega)) (by omega) fun s1 h1 => ?_
    simp -dsimp -implicitDefEqProofs (disch := first | (simp -dsimp only [↓STP, STQ, seval]; done) | omega | (simp only [ByteArray.size_append, bsz, List.size_toArray, List.length_cons, List.length_nil]; omega)) only [↓STP, STQ, seval, addS, Exp.v_clen, Exp.v_tk, Exp.v_ag, Exp.v_out, eq_self]
    refine sign27 o1 o2 fun s2 h2 => ?_
    simp -dsimp -implicitDefEqProofs (disch := first | (simp -dsimp only [↓STP, STQ, seval]; done) | omega | (simp only [ByteArray.size_append, bsz, List.size_toArray, List.length_cons, List.length_nil]; omega)) only [↓STP, STQ, seval, addS, Exp.v_clen, Exp.v_tk, Exp.v_ag, Exp.v_out, eq_self]
    refine paren27 (one b (by simp) (by omega)) (by omega) fun s3 h3 => ?_
    simp -dsimp -implicitDefEqProofs (disch := first | (simp -dsimp only [↓STP, STQ, seval]; done) | omega | (simp only [ByteArray.size_append, bsz, List.size_toArray, List.length_cons, List.length_nil]; omega)) only [↓STP, STQ, seval, addS]
    exact hK _ (by simp only [ByteArray.size_append, bsz, List.size_toArray, List.length_cons, List.length_nil]; omega)
end
end YtihmoaibgmhjeaaDoor
end Go.Ab
