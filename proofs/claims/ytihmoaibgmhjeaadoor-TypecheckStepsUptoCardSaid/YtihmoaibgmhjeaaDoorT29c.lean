/- Loops within loops: how many steps are taken. -/
import Derived.Test.YtihmoaibgmhjeaaDoorT29a
set_option linter.unusedVariables false
set_option linter.unusedSimpArgs false
namespace Go.Ab
/-- What takes c steps, or fails. -/
def Cn (L : List (ByteArray × Nat)) (f : TS → TR TS) (c : Nat) : Prop := ∀ σ : TS, σ.env.loops = L → σ.steps ≤ 10000 →
  (σ.steps + c ≤ 10000 → ∃ σ', f σ = .ok σ' ∧ σ'.env.loops = L ∧ σ'.steps = σ.steps + c) ∧ (10000 < σ.steps + c → f σ = .error 2)

theorem iterT_cn {L : List (ByteArray × Nat)} {f : Nat → TS → TR TS} {c : Nat} (h : ∀ n, Cn L (f n) c) : ∀ k n, Cn L (iterT f k n) (k * c)
  | 0, n => fun σ hl hs => ⟨fun _ => ⟨σ, by rw [iterT], hl, by simp⟩, fun hh => by simp at hh; omega⟩
  | k + 1, n => fun σ hl hs => by
    obtain ⟨h1, h2⟩ := h n σ hl hs
    rw [iterT, Nat.succ_mul]
    by_cases c1 : σ.steps + c ≤ 10000
    · obtain ⟨σ1, e1, l1, s1⟩ := h1 c1
      obtain ⟨g1, g2⟩ := iterT_cn h k (n + 1) σ1 l1 (by omega)
      rw [e1, andT_ok]
      refine ⟨fun hh => ?_, fun hh => g2 (by omega)⟩
      obtain ⟨σ2, e2, l2, s2⟩ := g1 (by omega)
      exact ⟨σ2, e2, l2, by omega⟩
    · have := h2 (by omega)
      rw [this]
      exact ⟨fun hh => absurd hh (by omega), fun _ => rfl⟩

theorem turnT_cn {L : List (ByteArray × Nat)} {s : ByteArray} {fa : TS → TR TS} {c : Nat} {n : Nat} (h : Cn (L ++ [(s, n)]) fa c) : Cn L (turnT s fa n) (1 + c) := by
  intro σ hl hs
  unfold turnT stepT
  by_cases c1 : 10000 ≤ σ.steps
  · rw [if_pos c1]
    exact ⟨fun hh => absurd hh (by omega), fun _ => rfl⟩
  rw [if_neg c1, andT_ok]
  obtain ⟨h1, h2⟩ := h { σ with steps := σ.steps + 1, env := { σ.env with loops := σ.env.loops ++ [(s, n)] } } (by show σ.env.loops ++ _ = _; rw [hl]) (by show σ.steps + 1 ≤ 10000; omega)
  constructor
  · intro hh
    obtain ⟨σ', e, l, st⟩ := h1 (by show σ.steps + 1 + c ≤ 10000; omega)
    refine ⟨{ σ' with env := { σ'.env with loops := σ.env.loops } }, ?_, hl, by show σ'.steps = _; rw [st]; show σ.steps + 1 + c = _; omega⟩
    have e' : fa { ({ σ with steps := σ.steps + 1 } : TS) with env := { ({ σ with steps := σ.steps + 1 } : TS).env with loops := ({ σ with steps := σ.steps + 1 } : TS).env.loops ++ [(s, n)] } } = .ok σ' := e
    rw [e', andT_ok]
  · intro hh
    have e := h2 (by show 10000 < σ.steps + 1 + c; omega)
    have e' : fa { ({ σ with steps := σ.steps + 1 } : TS) with env := { ({ σ with steps := σ.steps + 1 } : TS).env with loops := ({ σ with steps := σ.steps + 1 } : TS).env.loops ++ [(s, n)] } } = .error 2 := e
    rw [e']; rfl

theorem stmtsT_one {p : Prg} {x : Stm} {σ : TS} : stmtsT p [x] σ = stmtT p x σ := by
  rw [stmtsT]
  cases stmtT p x σ with
  | error e => rfl
  | ok τ => rw [andT_ok, stmtsT]
theorem exprT_num {p : Prg} {σ : TE} {n : Nat} (h : n < 1152921504606846976) : exprT p σ (numX n) = .ok (kcon n, max 0 (wid n)) := by
  rw [numX, exprT, exprsT, andT_ok]
  have hw : wid n ≤ 60 := wid_le (k := 60) (by omega) (by decide)
  show andT (.ok (kcon n)) _ = _
  rw [andT_ok]
  unfold toldT
  rw [if_pos (show (kcon n).kind = 1 from rfl), if_neg (by show ¬ 60 < wid n; omega)]
  rfl

def nI : ByteArray := ⟨#[105]⟩
def nK : ByteArray := ⟨#[107]⟩
def bodyX : Stm := .mk 1 nX [numX 0] [] []
def forX (s : ByteArray) (n : Nat) (b : List Stm) : Stm := .mk 4 s [numX 1, numX n] b []
def stepsP (a b : Nat) : Prg := ⟨[], [], [forX nI a [forX nK b [bodyX]]]⟩

theorem body_cn {p : Prg} (hi : p.ins = []) (ha : p.arrays = []) {L : List (ByteArray × Nat)} (hL : findL nX L = none) : Cn L (stmtsT p [bodyX]) 1 := by
  intro σ hl hs
  rw [stmtsT_one, bodyX, stmtT]
  unfold stepT
  by_cases c1 : 10000 ≤ σ.steps
  · rw [if_pos c1]
    exact ⟨fun hh => absurd hh (by omega), fun _ => rfl⟩
  rw [if_neg c1, andT_ok, exprsT_one, exprT_num (by decide)]
  refine ⟨fun hh => ?_, fun hh => absurd hh (by omega)⟩
  simp only [andT_ok]
  unfold stmt1
  rw [if_pos rfl]
  unfold setT takenT inOf arOf
  rw [hi, ha, show ({ ({ σ with steps := σ.steps + 1 } : TS) with most := max ({ σ with steps := σ.steps + 1 } : TS).most (max 0 (wid 0)) } : TS).env.loops = L from hl, hL]
  exact ⟨_, rfl, hl, rfl⟩

theorem for_cn {p : Prg} (hi : p.ins = []) (ha : p.arrays = []) {L : List (ByteArray × Nat)} {s : ByteArray} {N c : Nat} {b : List Stm} (hN : N < 1152921504606846976) (hL : findL s L = none) (hb : ∀ n, Cn (L ++ [(s, n)]) (stmtsT p b) c) :
    Cn L (stmtsT p [forX s N b]) (1 + N * (1 + c)) := by
  intro σ hl hs
  rw [stmtsT_one, forX, stmtT]
  unfold stepT
  by_cases c1 : 10000 ≤ σ.steps
  · rw [if_pos c1]
    exact ⟨fun hh => absurd hh (by omega), fun _ => rfl⟩
  rw [if_neg c1, andT_ok, show [numX 1, numX N] = [numX 1] ++ [numX N] from rfl, exprsT_append, exprsT_one, exprsT_one, exprT_num (by decide), exprT_num hN]
  simp only [andT_ok]
  unfold stmt1
  rw [if_neg (by decide), if_neg (by decide), if_neg (by decide), if_pos rfl]
  unfold forT
  rw [if_neg (by simp [nthK, kcon])]
  unfold takenT inOf arOf
  rw [hi, ha, show ({ ({ σ with steps := σ.steps + 1 } : TS) with most := max ({ σ with steps := σ.steps + 1 } : TS).most (max (max 0 (wid 1)) (max 0 (wid N))) } : TS).env.loops = L from hl, hL]
  have h1 : (nthK ([kcon 1] ++ [kcon N]) 0).val = 1 := rfl
  have h2 : (nthK ([kcon 1] ++ [kcon N]) 1).val = N := rfl
  rw [h1, h2, Nat.add_sub_cancel]
  have hc := iterT_cn (fun n => turnT_cn (s := s) (hb n)) N 1
  obtain ⟨g1, g2⟩ := hc { ({ ({ σ with steps := σ.steps + 1 } : TS) with most := max ({ σ with steps := σ.steps + 1 } : TS).most (max (max 0 (wid 1)) (max 0 (wid N))) } : TS) with env := { σ.env with vars := setV σ.env.vars s none } } hl (by show σ.steps + 1 ≤ 10000; omega)
  constructor
  · intro hh
    obtain ⟨σ', e, l, st⟩ := g1 (by show σ.steps + 1 + N * (1 + c) ≤ 10000; omega)
    exact ⟨σ', e, l, by rw [st]; show σ.steps + 1 + N * (1 + c) = _; omega⟩
  · intro hh
    exact g2 (by show 10000 < σ.steps + 1 + N * (1 + c); omega)

theorem steps_check {a b : Nat} (ha : a < 2000) (hb : b < 20000) : (1 + a * (2 + 2 * b) ≤ 10000 → errT (checkT (stepsP a b)) = 0) ∧ (10000 < 1 + a * (2 + 2 * b) → errT (checkT (stepsP a b)) = 2) := by
  have h0 : Cn [] (stmtsT (stepsP a b) [forX nI a [forX nK b [bodyX]]]) (1 + a * (1 + (1 + b * (1 + 1)))) :=
    for_cn rfl rfl (by omega) rfl fun n => for_cn rfl rfl (by omega) rfl fun m => body_cn rfl rfl rfl
  obtain ⟨g1, g2⟩ := h0 (initT (stepsP a b)) rfl (Nat.zero_le _)
  have e : 1 + a * (1 + (1 + b * (1 + 1))) = 1 + a * (2 + 2 * b) := by
    have : 1 + (1 + b * (1 + 1)) = 2 + 2 * b := by omega
    rw [this]
  rw [e] at g1 g2
  have hck : checkT (stepsP a b) = stmtsT (stepsP a b) [forX nI a [forX nK b [bodyX]]] (initT (stepsP a b)) := rfl
  have hz : (initT (stepsP a b)).steps = 0 := rfl
  rw [hck]
  constructor
  · intro h
    obtain ⟨σ', e, _⟩ := g1 (by omega)
    rw [e]; rfl
  · intro h
    rw [g2 (by omega)]; rfl
theorem isI : isName nI := ⟨by decide, by decide, ⟨105, [], rfl, by decide⟩, by decide, by simp [words26, nI]⟩
theorem isK : isName nK := ⟨by decide, by decide, ⟨107, [], rfl, by decide⟩, by decide, by simp [words26, nK]⟩
theorem SOk_for {s : ByteArray} {n : Nat} {b : List Stm} (hs : s.size ≤ maxLen) (hn : n < 18446744073709551616) (hl : b.length ≤ maxLen) (hb : ∀ x ∈ b, SOk x) : SOk (forX s n b) :=
  .mk (i64s (by decide) (by decide)) hs (by show (2 : Nat) ≤ maxLen; decide) hl (by decide) (fun y hy => by
    rcases List.mem_cons.1 hy with rfl | hy
    · exact EOk_num (by decide)
    · rw [List.mem_singleton] at hy; subst hy; exact EOk_num hn) hb (by simp)
theorem VS_for {s : ByteArray} {n lv : Nat} {b : List Stm} (hs : isName s) (hn : n ≤ 1152921504606846975) (hl : lv + 1 ≤ 24) (hb : VSs b (lv + 1)) : VS (forX s n b) lv :=
  VS_mk.2 ⟨by omega, by decide, by decide, rfl, fun _ => hs, fun hn => absurd ⟨by decide, by decide⟩ hn, fun _ => rfl, fun _ h => absurd rfl h, fun y hy => by
    rcases List.mem_cons.1 hy with rfl | hy
    · exact VE_numX (by decide) hl
    · rw [List.mem_singleton] at hy; subst hy; exact VE_numX hn hl, hb, trivial⟩
theorem steps_vt {a b : Nat} (ha : a < 2000) (hb : b < 20000) : VT (stepsP a b) := by
  have m1 : (1 : Nat) ≤ maxLen := by decide
  have sb : SOk bodyX := .mk (i64s (by decide) (by decide)) m1 m1 (by decide) (by decide) (fun y hy => by rw [List.mem_singleton] at hy; subst hy; exact EOk_num (by decide)) (by simp) (by simp)
  have vb : VS bodyX 3 := VS_mk.2 ⟨by decide, by decide, by decide, rfl, fun _ => isX, fun hn => absurd ⟨by decide, by decide⟩ hn, fun _ => rfl, fun _ _ => rfl, fun y hy => by
    rw [List.mem_singleton] at hy; subst hy; exact VE_numX (by decide) (by decide), trivial, trivial⟩
  refine ⟨⟨by simp [stepsP], by simp [stepsP], fun x hx => ?_, Nat.zero_le _, Nat.zero_le _, m1⟩, VSs_all.2 fun x hx => ?_, by simp [stepsP], by simp [stepsP]⟩
  · rw [show (stepsP a b).body = [forX nI a [forX nK b [bodyX]]] from rfl, List.mem_singleton] at hx
    subst hx
    refine SOk_for m1 (by omega) m1 fun y hy => ?_
    rw [List.mem_singleton] at hy; subst hy
    refine SOk_for m1 (by omega) m1 fun y hy => ?_
    rw [List.mem_singleton] at hy; subst hy
    exact sb
  · rw [show (stepsP a b).body = [forX nI a [forX nK b [bodyX]]] from rfl, List.mem_singleton] at hx
    subst hx
    refine VS_for isI (by omega) (by decide) (VSs_all.2 fun y hy => ?_)
    rw [List.mem_singleton] at hy; subst hy
    refine VS_for isK (by omega) (by decide) (VSs_all.2 fun y hy => ?_)
    rw [List.mem_singleton] at hy; subst hy
    exact vb

namespace YtihmoaibgmhjeaaDoor
section
variable {h : H} {K : Out → H → Prop}
theorem steps29 {n m : Nat} (hn : n < 65536) (hm : m < 65536) (hK : ∀ h', K (.ret (.bool true)) h') : R 8 [.int .u16 (n : Int), .int .u16 (m : Int)] h K := by
  refine run8 (Nat.le_of_ble_eq_true rfl) ?_
  have e1 : IntKind.u64.wrap ((n : Int).tmod 2000) = ((n % 2000 : Nat) : Int) := by
    rw [show (n : Int).tmod 2000 = ((n % 2000 : Nat) : Int) from rfl, wrap_u64_self] <;> omega
  have e2 : IntKind.u64.wrap ((m : Int).tmod 20000) = ((m % 20000 : Nat) : Int) := by
    rw [show (m : Int).tmod 20000 = ((m % 20000 : Nat) : Int) from rfl, wrap_u64_self] <;> omega
  simp -dsimp -implicitDefEqProofs only [↓STP, STQ, seval, ir8]
  rw [e1, e2]
  have ha : n % 2000 < 2000 := Nat.mod_lt _ (by decide)
  have hb : m % 20000 < 20000 := Nat.mod_lt _ (by decide)
  generalize n % 2000 = a at ha
  generalize m % 20000 = b at hb
  have hab : a * b < 2000 * 20000 := Nat.mul_lt_mul'' ha hb
  have hab2 : a * (2 + 2 * b) = 2 * a + 2 * (a * b) := by rw [Nat.mul_add, Nat.mul_comm a 2, Nat.mul_left_comm]
  have e3 : IntKind.u64.wrap ((a : Int) * (b : Int)) = ((a * b : Nat) : Int) := by
    rw [← Int.natCast_mul, wrap_u64_self] <;> omega
  have f1 : IntKind.u64.wrap (2 * (b : Int)) = ((2 * b : Nat) : Int) := by rw [wrap_u64_self] <;> omega
  have f2 : IntKind.u64.wrap (2 + ((2 * b : Nat) : Int)) = ((2 + 2 * b : Nat) : Int) := by rw [wrap_u64_self] <;> omega
  have f3 : IntKind.u64.wrap ((a : Int) * ((2 + 2 * b : Nat) : Int)) = ((a * (2 + 2 * b) : Nat) : Int) := by
    rw [← Int.natCast_mul, wrap_u64_self] <;> omega
  have f4 : IntKind.u64.wrap (1 + ((a * (2 + 2 * b) : Nat) : Int)) = ((1 + a * (2 + 2 * b) : Nat) : Int) := by
    rw [wrap_u64_self] <;> omega
  rw [e3]
  by_cases c : 400000 < ((a * b : Nat) : Int) ∧ 200 < (a : Int)
  · simp -dsimp -implicitDefEqProofs only [↓STP, STQ, seval, eq_true c.1, eq_true c.2]
    exact awake29 fun h' _ => by
      simp -dsimp -implicitDefEqProofs only [↓STP, STQ, seval]
      exact hK _
  have hc : ¬ 400000 < ((a * b : Nat) : Int) ∨ (400000 < ((a * b : Nat) : Int) ∧ ¬ 200 < (a : Int)) := by
    by_cases c1 : 400000 < ((a * b : Nat) : Int)
    · exact .inr ⟨c1, fun h => c ⟨c1, h⟩⟩
    · exact .inl c1
  have v := steps_vt ha hb
  have ck := steps_check ha hb
  have hv : (stepsP a b).v = V.agg [.vec [] .any, .vec [] .any, .vec [(forX nI a [forX nK b [bodyX]]).v] .any] := rfl
  rcases hc with c1 | ⟨c1, c2⟩
  case' inl => simp -dsimp -implicitDefEqProofs only [↓STP, STQ, seval, eq_false c1]
  case' inr => simp -dsimp -implicitDefEqProofs only [↓STP, STQ, seval, eq_true c1, eq_false c2]
  all_goals
    refine numE29 (n := 1) ?_
    simp -dsimp -implicitDefEqProofs only [↓STP, STQ, seval, numX, Exp.v_mk, storeV]
    refine numE29 (n := b) ?_
    simp -dsimp -implicitDefEqProofs only [↓STP, STQ, seval, numX, Exp.v_mk, storeV]
    refine numE29 (n := 0) ?_
    simp -dsimp -implicitDefEqProofs only [↓STP, STQ, seval, numX, Exp.v_mk, storeV]
    refine numE29 (n := 1) ?_
    simp -dsimp -implicitDefEqProofs only [↓STP, STQ, seval, numX, Exp.v_mk, storeV]
    refine numE29 (n := a) ?_
    simp -dsimp -implicitDefEqProofs only [↓STP, STQ, seval, numX, Exp.v_mk, storeV, f1, f2, f3, f4]
    refine checkG (p := stepsP a b) v fun h1 u1 => ?_
    by_cases d : 10000 < ((1 + a * (2 + 2 * b) : Nat) : Int)
    · simp -dsimp -implicitDefEqProofs only [↓STP, STQ, seval, ck.2 (by omega), eq_true d]
      refine awake29 fun h' _ => ?_
      simp -dsimp -implicitDefEqProofs only [↓STP, STQ, seval, ck.2 (by omega)]
      exact hK _
    · simp -dsimp -implicitDefEqProofs only [↓STP, STQ, seval, ck.1 (by omega), eq_false d]
      refine awake29 fun h' _ => ?_
      simp -dsimp -implicitDefEqProofs only [↓STP, STQ, seval, ck.1 (by omega)]
      exact hK _
end
end YtihmoaibgmhjeaaDoor
end Go.Ab
