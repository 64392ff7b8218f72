/- Chapter 11: generated tapes. -/
import Derived.Test.YtgnpliafpklfcaaT11c
import Derived.Test.YtgnpliafpklfcaaF2
import Derived.Test.YtgnpliafpklfcaaF3
set_option linter.unusedVariables false
set_option linter.unusedSimpArgs false
namespace Go.Ab.Ytgnpliafpklfcaa

section
variable {h : H} {K : Out → H → Prop} {p q seed : Nat}

def mix2 (seed i : Nat) : Nat := (seed + (i + 1) * 11400714819323198485 % 18446744073709551616) % 18446744073709551616
def mix3 (seed i : Nat) : Nat := mix2 seed i ^^^ (mix2 seed i / 2 ^ 32)
def mix4 (seed i : Nat) : Nat := mix3 seed i * 14029467366897019727 % 18446744073709551616
def mix5 (seed i : Nat) : Nat := mix4 seed i ^^^ (mix4 seed i / 2 ^ 29)
def mix6 (seed i : Nat) : Nat := mix5 seed i * 1609587929392839161 % 18446744073709551616
def mixN (seed i : Nat) : Nat := mix6 seed i ^^^ (mix6 seed i / 2 ^ 32)

theorem xor_sh {a k : Nat} (ha : a < 18446744073709551616) : a ^^^ (a / 2 ^ k) < 18446744073709551616 :=
  Nat.xor_lt_two_pow (n := 64) ha (Nat.lt_of_le_of_lt (Nat.div_le_self _ _) ha)

theorem mix_steps (seed i : Nat) (hi : i < 1000) : ∃ m1 m2 m3 m4 m5 m6 : Nat, ∃ m7 : Nat, m7 = mixN seed i ∧ m7 < 18446744073709551616 ∧
    IntKind.i64.wrap ((i : Int) + 1) = ((i + 1 : Nat) : Int) ∧ IntKind.u64.wrap ((i + 1 : Nat) : Int) = ((i + 1 : Nat) : Int) ∧
    IntKind.u64.wrap (((i + 1 : Nat) : Int) * 11400714819323198485) = (m1 : Int) ∧ IntKind.u64.wrap ((seed : Int) + (m1 : Int)) = (m2 : Int) ∧
    Int.fdiv (m2 : Int) (2 ^ (min 32 IntKind.u64.bits)) = ((m2 / 2 ^ 32 : Nat) : Int) ∧ bits2 .xor .u64 (m2 : Int) ((m2 / 2 ^ 32 : Nat) : Int) = some (W m3) ∧
    IntKind.u64.wrap ((m3 : Int) * 14029467366897019727) = (m4 : Int) ∧
    Int.fdiv (m4 : Int) (2 ^ (min 29 IntKind.u64.bits)) = ((m4 / 2 ^ 29 : Nat) : Int) ∧ bits2 .xor .u64 (m4 : Int) ((m4 / 2 ^ 29 : Nat) : Int) = some (W m5) ∧
    IntKind.u64.wrap ((m5 : Int) * 1609587929392839161) = (m6 : Int) ∧
    Int.fdiv (m6 : Int) (2 ^ (min 32 IntKind.u64.bits)) = ((m6 / 2 ^ 32 : Nat) : Int) ∧ bits2 .xor .u64 (m6 : Int) ((m6 / 2 ^ 32 : Nat) : Int) = some (W m7) := by
  have b2 : mix2 seed i < 18446744073709551616 := Nat.mod_lt _ (by decide)
  have b4 : mix4 seed i < 18446744073709551616 := Nat.mod_lt _ (by decide)
  have b6 : mix6 seed i < 18446744073709551616 := Nat.mod_lt _ (by decide)
  refine ⟨(i + 1) * 11400714819323198485 % 18446744073709551616, mix2 seed i, mix3 seed i, mix4 seed i, mix5 seed i, mix6 seed i, mixN seed i, rfl, xor_sh b6, ?_, ?_, ?_, ?_, fdiv_pow, bits_xor b2 (Nat.lt_of_le_of_lt (Nat.div_le_self _ _) b2), ?_, fdiv_pow, bits_xor b4 (Nat.lt_of_le_of_lt (Nat.div_le_self _ _) b4), ?_, fdiv_pow, bits_xor b6 (Nat.lt_of_le_of_lt (Nat.div_le_self _ _) b6)⟩
  · rw [wrap_i64 (by omega) (by omega)]; omega
  · rw [wrap_u64_self (by omega) (by omega)]
  · rw [wrap_u64]; omega
  · rw [wrap_u64]; unfold mix2; omega
  · rw [wrap_u64]; unfold mix4; omega
  · rw [wrap_u64]; unfold mix6; omega

def gen (p seed n : Nat) : List Nat := (List.range n).map fun i => mixN seed i % p
theorem gen_len {n : Nat} : (gen p seed n).length = n := by simp [gen]
theorem gen_succ {n : Nat} : gen p seed (n + 1) = gen p seed n ++ [mixN seed n % p] := by simp [gen, List.range_succ]
theorem gen_nil : gen p seed 0 = [] := rfl
theorem gen_lt {n : Nat} (hp : 0 < p) : ∀ w ∈ gen p seed n, w < p := by
  intro w hw
  obtain ⟨i, _, rfl⟩ := List.mem_map.1 hw
  exact Nat.mod_lt _ hp

def capG (i : Nat) : Cap := if i = 0 then .full else .own 0
def stG (i : Nat) : Nat := if i = 0 then 0 else 1

def InvG (p seed n : Nat) (h : H) (k : Nat) (st : S) : Prop :=
  ∃ i : Nat, k = n - i ∧ i ≤ n ∧ st = ⟨upd (upd (upd (upd (upd ρ0 0 (W p)) 1 (W seed)) 7 (.vec (Ws (gen p seed i)) (capG i))) 11 (I n)) 12 (I i), m0, stG i, [], h⟩

theorem generate19 {n : Int} (hs : Supp p q) (hseed : seed < 18446744073709551616) (hn : n ≤ 600) (hK : ∀ c, (c = .full ∨ c = .own 0) → K (.ret (.vec (Ws (gen p seed n.toNat)) c)) h) : R 19 [W p, W seed, I n] h K := by
  refine run19 (Nat.le_of_ble_eq_true rfl) ?_
  have hmax : (if n < 0 then (0 : Int) else n) = (n.toNat : Int) := by split <;> omega
  have hn5 : n.toNat ≤ 600 := by omega
  simp -dsimp -implicitDefEqProofs only [↓STP, STQ, ne_eq, implies_true, forall_const, if_false, if_true, reduceCtorEq, ↓reduceIte, Nat.reduceEqDiff, Nat.reduceAdd, Int.reduceEq, Int.reduceLT, Int.reduceLE, Int.reduceNeg, Int.reduceAdd, Int.reduceSub, Int.reduceMul, Int.reduceToNat, Nat.reduceMul, Nat.reduceSub, Nat.reduceLT, Nat.reduceLeDiff, ir19, maxV, hmax]
  generalize n.toNat = m at hn5 hK
  refine codeT_loop (InvG p seed m h) (i := m) ⟨0, by omega, by omega, by simp -dsimp -implicitDefEqProofs only [↓STP, STQ, ne_eq, implies_true, forall_const, if_false, if_true, reduceCtorEq, ↓reduceIte, Nat.reduceEqDiff, Nat.reduceAdd, Int.reduceEq, Int.reduceLT, Int.reduceLE, Int.reduceNeg, Int.reduceAdd, Int.reduceSub, Int.reduceMul, Int.reduceToNat, Nat.reduceMul, Nat.reduceSub, Nat.reduceLT, Nat.reduceLeDiff, gen_nil, Ws_nil, capG] <;> rfl⟩ ?_ mono
  rintro k st ⟨i, rfl, hi, rfl⟩
  by_cases hlt : i < m
  · obtain ⟨m1, m2, m3, m4, m5, m6, m7, e7, b7, s1, s2, s3, s4, s5, s6, s7, s8, s9, s10, s11, s12⟩ := mix_steps seed i (by omega)
    have hlen : (gen p seed i).length < 4294967296 := by rw [gen_len]; omega
    by_cases h0 : i = 0
    · rw [show stG i = 0 from if_pos h0, show capG i = .full from if_pos h0]
      simp -dsimp -implicitDefEqProofs only [↓STP, STQ, ne_eq, implies_true, forall_const, if_false, if_true, reduceCtorEq, ↓reduceIte, Nat.reduceEqDiff, Nat.reduceAdd, Int.reduceEq, Int.reduceLT, Int.reduceLE, Int.reduceNeg, Int.reduceAdd, Int.reduceSub, Int.reduceMul, Int.reduceToNat, Nat.reduceMul, Nat.reduceSub, Nat.reduceLT, Nat.reduceLeDiff, Int.ofNat_lt, hlt, s1, s2, s3, s4, s5, s6, s7, s8, s9, s10, s11, s12]
      refine reduce_spec hs b7 ?_
      simp -dsimp -implicitDefEqProofs only [↓STP, STQ, ne_eq, implies_true, forall_const, if_false, if_true, reduceCtorEq, ↓reduceIte, Nat.reduceEqDiff, Nat.reduceAdd, Int.reduceEq, Int.reduceLT, Int.reduceLE, Int.reduceNeg, Int.reduceAdd, Int.reduceSub, Int.reduceMul, Int.reduceToNat, Nat.reduceMul, Nat.reduceSub, Nat.reduceLT, Nat.reduceLeDiff]
      rw [app_w_full hlen]
      simp -dsimp -implicitDefEqProofs only [↓STP, STQ, ne_eq, implies_true, forall_const, if_false, if_true, reduceCtorEq, ↓reduceIte, Nat.reduceEqDiff, Nat.reduceAdd, Int.reduceEq, Int.reduceLT, Int.reduceLE, Int.reduceNeg, Int.reduceAdd, Int.reduceSub, Int.reduceMul, Int.reduceToNat, Nat.reduceMul, Nat.reduceSub, Nat.reduceLT, Nat.reduceLeDiff]
      rw [e7, ← gen_succ]
      exact ⟨_, by omega, i + 1, rfl, by omega, by rw [s1]; rfl⟩
    · rw [show stG i = 1 from if_neg h0, show capG i = .own 0 from if_neg h0]
      simp -dsimp -implicitDefEqProofs only [↓STP, STQ, ne_eq, implies_true, forall_const, if_false, if_true, reduceCtorEq, ↓reduceIte, Nat.reduceEqDiff, Nat.reduceAdd, Int.reduceEq, Int.reduceLT, Int.reduceLE, Int.reduceNeg, Int.reduceAdd, Int.reduceSub, Int.reduceMul, Int.reduceToNat, Nat.reduceMul, Nat.reduceSub, Nat.reduceLT, Nat.reduceLeDiff, Int.ofNat_lt, hlt, s1, s2, s3, s4, s5, s6, s7, s8, s9, s10, s11, s12]
      refine reduce_spec hs b7 ?_
      simp -dsimp -implicitDefEqProofs only [↓STP, STQ, ne_eq, implies_true, forall_const, if_false, if_true, reduceCtorEq, ↓reduceIte, Nat.reduceEqDiff, Nat.reduceAdd, Int.reduceEq, Int.reduceLT, Int.reduceLE, Int.reduceNeg, Int.reduceAdd, Int.reduceSub, Int.reduceMul, Int.reduceToNat, Nat.reduceMul, Nat.reduceSub, Nat.reduceLT, Nat.reduceLeDiff]
      rw [app_w_own (by simp) hlen]
      simp -dsimp -implicitDefEqProofs only [↓STP, STQ, ne_eq, implies_true, forall_const, if_false, if_true, reduceCtorEq, ↓reduceIte, Nat.reduceEqDiff, Nat.reduceAdd, Int.reduceEq, Int.reduceLT, Int.reduceLE, Int.reduceNeg, Int.reduceAdd, Int.reduceSub, Int.reduceMul, Int.reduceToNat, Nat.reduceMul, Nat.reduceSub, Nat.reduceLT, Nat.reduceLeDiff]
      rw [e7, ← gen_succ, s1]
      exact ⟨_, by omega, i + 1, rfl, by omega, rfl⟩
  · have him : i = m := by omega
    subst him
    by_cases h0 : i = 0
    · rw [show stG i = 0 from if_pos h0, show capG i = .full from if_pos h0]
      simp -dsimp -implicitDefEqProofs only [↓STP, STQ, ne_eq, implies_true, forall_const, if_false, if_true, reduceCtorEq, ↓reduceIte, Nat.reduceEqDiff, Nat.reduceAdd, Int.reduceEq, Int.reduceLT, Int.reduceLE, Int.reduceNeg, Int.reduceAdd, Int.reduceSub, Int.reduceMul, Int.reduceToNat, Nat.reduceMul, Nat.reduceSub, Nat.reduceLT, Nat.reduceLeDiff, Int.ofNat_lt, hlt]
      exact hK .full (.inl rfl)
    · rw [show stG i = 1 from if_neg h0, show capG i = .own 0 from if_neg h0]
      simp -dsimp -implicitDefEqProofs only [↓STP, STQ, ne_eq, implies_true, forall_const, if_false, if_true, reduceCtorEq, ↓reduceIte, Nat.reduceEqDiff, Nat.reduceAdd, Int.reduceEq, Int.reduceLT, Int.reduceLE, Int.reduceNeg, Int.reduceAdd, Int.reduceSub, Int.reduceMul, Int.reduceToNat, Nat.reduceMul, Nat.reduceSub, Nat.reduceLT, Nat.reduceLeDiff, Int.ofNat_lt, hlt]
      exact hK (.own 0) (.inr rfl)

def InvH (p seed : Nat) (n : Int) (h : H) (k : Nat) (st : S) : Prop :=
  ∃ i : Nat, k = n.toNat - i ∧ i ≤ n.toNat ∧ st = ⟨upd (upd (upd (upd (upd ρ0 0 (W p)) 1 (W seed)) 2 (I n)) 7 (.vec (Ws (gen p seed i)) (capG i))) 8 (I i), m0, stG i, [], h⟩

theorem generate20 {n : Int} (hs : Supp p q) (hseed : seed < 18446744073709551616) (hn : n ≤ 600) (hK : ∀ c, (c = .full ∨ c = .own 0) → K (.ret (.vec (Ws (gen p seed n.toNat)) c)) h) : R 20 [W p, W seed, I n] h K := by
  refine run20 (Nat.le_of_ble_eq_true rfl) ?_
  have hp0 : ¬ ((p : Int) = 0) := by obtain ⟨_, _, _, _⟩ := hs.eq; rcases hs with ⟨rfl, _⟩ | ⟨rfl, _⟩ | ⟨rfl, _⟩ | ⟨rfl, _⟩ | ⟨rfl, _⟩ | ⟨rfl, _⟩ | ⟨rfl, _⟩ <;> decide
  simp -dsimp -implicitDefEqProofs only [↓STP, STQ, ne_eq, implies_true, forall_const, if_false, if_true, reduceCtorEq, ↓reduceIte, Nat.reduceEqDiff, Nat.reduceAdd, Int.reduceEq, Int.reduceLT, Int.reduceLE, Int.reduceNeg, Int.reduceAdd, Int.reduceSub, Int.reduceMul, Int.reduceToNat, Nat.reduceMul, Nat.reduceSub, Nat.reduceLT, Nat.reduceLeDiff, ir20]
  refine codeT_loop (InvH p seed n h) (i := n.toNat) ⟨0, by omega, by omega, by simp -dsimp -implicitDefEqProofs only [↓STP, STQ, ne_eq, implies_true, forall_const, if_false, if_true, reduceCtorEq, ↓reduceIte, Nat.reduceEqDiff, Nat.reduceAdd, Int.reduceEq, Int.reduceLT, Int.reduceLE, Int.reduceNeg, Int.reduceAdd, Int.reduceSub, Int.reduceMul, Int.reduceToNat, Nat.reduceMul, Nat.reduceSub, Nat.reduceLT, Nat.reduceLeDiff, gen_nil, Ws_nil, capG] <;> rfl⟩ ?_ mono
  rintro k st ⟨i, rfl, hi, rfl⟩
  by_cases hlt : (i : Int) < n
  · obtain ⟨m1, m2, m3, m4, m5, m6, m7, e7, b7, s1, s2, s3, s4, s5, s6, s7, s8, s9, s10, s11, s12⟩ := mix_steps seed i (by omega)
    have hlen : (gen p seed i).length < 4294967296 := by rw [gen_len]; omega
    have hrem : Int.tmod (m7 : Int) (p : Int) = ((m7 % p : Nat) : Int) := rfl
    by_cases h0 : i = 0
    · rw [show stG i = 0 from if_pos h0, show capG i = .full from if_pos h0]
      simp -dsimp -implicitDefEqProofs only [↓STP, STQ, ne_eq, implies_true, forall_const, if_false, if_true, reduceCtorEq, ↓reduceIte, Nat.reduceEqDiff, Nat.reduceAdd, Int.reduceEq, Int.reduceLT, Int.reduceLE, Int.reduceNeg, Int.reduceAdd, Int.reduceSub, Int.reduceMul, Int.reduceToNat, Nat.reduceMul, Nat.reduceSub, Nat.reduceLT, Nat.reduceLeDiff, hlt, s1, s2, s3, s4, s5, s6, s7, s8, s9, s10, s11, s12, hp0, hrem]
      rw [app_w_full hlen]
      simp -dsimp -implicitDefEqProofs only [↓STP, STQ, ne_eq, implies_true, forall_const, if_false, if_true, reduceCtorEq, ↓reduceIte, Nat.reduceEqDiff, Nat.reduceAdd, Int.reduceEq, Int.reduceLT, Int.reduceLE, Int.reduceNeg, Int.reduceAdd, Int.reduceSub, Int.reduceMul, Int.reduceToNat, Nat.reduceMul, Nat.reduceSub, Nat.reduceLT, Nat.reduceLeDiff]
      rw [e7, ← gen_succ]
      exact ⟨_, by omega, i + 1, rfl, by omega, by rw [s1]; rfl⟩
    · rw [show stG i = 1 from if_neg h0, show capG i = .own 0 from if_neg h0]
      simp -dsimp -implicitDefEqProofs only [↓STP, STQ, ne_eq, implies_true, forall_const, if_false, if_true, reduceCtorEq, ↓reduceIte, Nat.reduceEqDiff, Nat.reduceAdd, Int.reduceEq, Int.reduceLT, Int.reduceLE, Int.reduceNeg, Int.reduceAdd, Int.reduceSub, Int.reduceMul, Int.reduceToNat, Nat.reduceMul, Nat.reduceSub, Nat.reduceLT, Nat.reduceLeDiff, hlt, s1, s2, s3, s4, s5, s6, s7, s8, s9, s10, s11, s12, hp0, hrem]
      rw [app_w_own (by simp) hlen]
      simp -dsimp -implicitDefEqProofs only [↓STP, STQ, ne_eq, implies_true, forall_const, if_false, if_true, reduceCtorEq, ↓reduceIte, Nat.reduceEqDiff, Nat.reduceAdd, Int.reduceEq, Int.reduceLT, Int.reduceLE, Int.reduceNeg, Int.reduceAdd, Int.reduceSub, Int.reduceMul, Int.reduceToNat, Nat.reduceMul, Nat.reduceSub, Nat.reduceLT, Nat.reduceLeDiff]
      rw [e7, ← gen_succ, s1]
      exact ⟨_, by omega, i + 1, rfl, by omega, rfl⟩
  · have him : i = n.toNat := by omega
    by_cases h0 : i = 0
    · rw [show stG i = 0 from if_pos h0, show capG i = .full from if_pos h0]
      simp -dsimp -implicitDefEqProofs only [↓STP, STQ, ne_eq, implies_true, forall_const, if_false, if_true, reduceCtorEq, ↓reduceIte, Nat.reduceEqDiff, Nat.reduceAdd, Int.reduceEq, Int.reduceLT, Int.reduceLE, Int.reduceNeg, Int.reduceAdd, Int.reduceSub, Int.reduceMul, Int.reduceToNat, Nat.reduceMul, Nat.reduceSub, Nat.reduceLT, Nat.reduceLeDiff, hlt]
      rw [him]
      exact hK .full (.inl rfl)
    · rw [show stG i = 1 from if_neg h0, show capG i = .own 0 from if_neg h0]
      simp -dsimp -implicitDefEqProofs only [↓STP, STQ, ne_eq, implies_true, forall_const, if_false, if_true, reduceCtorEq, ↓reduceIte, Nat.reduceEqDiff, Nat.reduceAdd, Int.reduceEq, Int.reduceLT, Int.reduceLE, Int.reduceNeg, Int.reduceAdd, Int.reduceSub, Int.reduceMul, Int.reduceToNat, Nat.reduceMul, Nat.reduceSub, Nat.reduceLT, Nat.reduceLeDiff, hlt]
      rw [him]
      exact hK (.own 0) (.inr rfl)

theorem law6 {k : Nat} {n : Int} (hk : k < 18446744073709551616) (hseed : seed < 18446744073709551616) : R 6 [W k, W seed, I n] h (fun o _ => o = .ret (.bool true)) := by
  refine run6 (Nat.le_of_ble_eq_true rfl) ?_
  simp -dsimp -implicitDefEqProofs only [↓STP, STQ, ne_eq, implies_true, forall_const, if_false, if_true, reduceCtorEq, ↓reduceIte, Nat.reduceEqDiff, Nat.reduceAdd, Int.reduceEq, Int.reduceLT, Int.reduceLE, Int.reduceNeg, Int.reduceAdd, Int.reduceSub, Int.reduceMul, Int.reduceToNat, Nat.reduceMul, Nat.reduceSub, Nat.reduceLT, Nat.reduceLeDiff, ir6]
  refine fit_spec hk fun p q hs => ?_
  by_cases h1 : n > 500
  · simp -dsimp -implicitDefEqProofs only [↓STP, STQ, ne_eq, implies_true, forall_const, if_false, if_true, reduceCtorEq, ↓reduceIte, Nat.reduceEqDiff, Nat.reduceAdd, Int.reduceEq, Int.reduceLT, Int.reduceLE, Int.reduceNeg, Int.reduceAdd, Int.reduceSub, Int.reduceMul, Int.reduceToNat, Nat.reduceMul, Nat.reduceSub, Nat.reduceLT, Nat.reduceLeDiff, h1]
    refine awake8 fun h' _ => ?_
    simp -dsimp -implicitDefEqProofs only [↓STP, STQ, ne_eq, implies_true, forall_const, if_false, if_true, reduceCtorEq, ↓reduceIte, Nat.reduceEqDiff, Nat.reduceAdd, Int.reduceEq, Int.reduceLT, Int.reduceLE, Int.reduceNeg, Int.reduceAdd, Int.reduceSub, Int.reduceMul, Int.reduceToNat, Nat.reduceMul, Nat.reduceSub, Nat.reduceLT, Nat.reduceLeDiff]
  simp -dsimp -implicitDefEqProofs only [↓STP, STQ, ne_eq, implies_true, forall_const, if_false, if_true, reduceCtorEq, ↓reduceIte, Nat.reduceEqDiff, Nat.reduceAdd, Int.reduceEq, Int.reduceLT, Int.reduceLE, Int.reduceNeg, Int.reduceAdd, Int.reduceSub, Int.reduceMul, Int.reduceToNat, Nat.reduceMul, Nat.reduceSub, Nat.reduceLT, Nat.reduceLeDiff, h1]
  refine awake8 fun h' _ => ?_
  simp -dsimp -implicitDefEqProofs only [↓STP, STQ, ne_eq, implies_true, forall_const, if_false, if_true, reduceCtorEq, ↓reduceIte, Nat.reduceEqDiff, Nat.reduceAdd, Int.reduceEq, Int.reduceLT, Int.reduceLE, Int.reduceNeg, Int.reduceAdd, Int.reduceSub, Int.reduceMul, Int.reduceToNat, Nat.reduceMul, Nat.reduceSub, Nat.reduceLT, Nat.reduceLeDiff]
  refine generate19 hs hseed (by omega) fun c hc => ?_
  rcases hc with rfl | rfl
  all_goals
    simp -dsimp -implicitDefEqProofs only [↓STP, STQ, ne_eq, implies_true, forall_const, if_false, if_true, reduceCtorEq, ↓reduceIte, Nat.reduceEqDiff, Nat.reduceAdd, Int.reduceEq, Int.reduceLT, Int.reduceLE, Int.reduceNeg, Int.reduceAdd, Int.reduceSub, Int.reduceMul, Int.reduceToNat, Nat.reduceMul, Nat.reduceSub, Nat.reduceLT, Nat.reduceLeDiff]
    refine generate20 hs hseed (by omega) fun c hc => ?_
    rcases hc with rfl | rfl
    all_goals
      simp -dsimp -implicitDefEqProofs only [↓STP, STQ, ne_eq, implies_true, forall_const, if_false, if_true, reduceCtorEq, ↓reduceIte, Nat.reduceEqDiff, Nat.reduceAdd, Int.reduceEq, Int.reduceLT, Int.reduceLE, Int.reduceNeg, Int.reduceAdd, Int.reduceSub, Int.reduceMul, Int.reduceToNat, Nat.reduceMul, Nat.reduceSub, Nat.reduceLT, Nat.reduceLeDiff]
      refine same13 rfl rfl (by rw [gen_len]; omega) fun r hr => ?_
      have hr' : r = true := by rw [hr]; simp
      subst hr'
      simp -dsimp -implicitDefEqProofs only [↓STP, STQ, ne_eq, implies_true, forall_const, if_false, if_true, reduceCtorEq, ↓reduceIte, Nat.reduceEqDiff, Nat.reduceAdd, Int.reduceEq, Int.reduceLT, Int.reduceLE, Int.reduceNeg, Int.reduceAdd, Int.reduceSub, Int.reduceMul, Int.reduceToNat, Nat.reduceMul, Nat.reduceSub, Nat.reduceLT, Nat.reduceLeDiff]

def InvP (p : Nat) (l : List Nat) (c : Cap) (h : H) (k : Nat) (st : S) : Prop :=
  ∃ i : Nat, k = l.length - i ∧ i ≤ l.length ∧ st = ⟨upd (upd (upd ρ0 7 (W p)) 9 (.vec (Ws l) c)) 10 (I i), m0, (if c.shared then 0 else 1), [], h⟩

theorem law7 {k x y : Nat} (hk : k < 18446744073709551616) (hseed : seed < 18446744073709551616) (hx : x < 256) (hy : y < 256) : R 7 [W k, W seed, .agg [.int .u8 x, .int .u8 y]] h (fun o _ => o = .ret (.bool true)) := by
  refine run7 (Nat.le_of_ble_eq_true rfl) ?_
  simp -dsimp -implicitDefEqProofs only [↓STP, STQ, ne_eq, implies_true, forall_const, if_false, if_true, reduceCtorEq, ↓reduceIte, Nat.reduceEqDiff, Nat.reduceAdd, Int.reduceEq, Int.reduceLT, Int.reduceLE, Int.reduceNeg, Int.reduceAdd, Int.reduceSub, Int.reduceMul, Int.reduceToNat, Nat.reduceMul, Nat.reduceSub, Nat.reduceLT, Nat.reduceLeDiff, ir7]
  refine fit_spec hk fun p q hs => ?_
  have wx : IntKind.i64.wrap (x : Int) = x := wrap_i64 (by omega) (by omega)
  have wy : IntKind.i64.wrap (y : Int) = y := wrap_i64 (by omega) (by omega)
  have wxy : IntKind.i64.wrap ((x : Int) + y) = ((x + y : Nat) : Int) := by rw [wrap_i64] <;> omega
  have hp : 0 < p := by rcases hs with ⟨rfl, _⟩ | ⟨rfl, _⟩ | ⟨rfl, _⟩ | ⟨rfl, _⟩ | ⟨rfl, _⟩ | ⟨rfl, _⟩ | ⟨rfl, _⟩ <;> decide
  have h1 : (0 : Int) ≤ (x : Int) ∧ (x : Int) ≤ ((x + y : Nat) : Int) := by omega
  have h2 : (0 : Int) ≤ 0 ∧ (0 : Int) ≤ (x : Int) := by omega
  have hd : x = 0 ∨ ∀ e ∈ Ws (gen p seed (x + y)), e.cells.length = 1 := .inr Ws_cells
  simp -dsimp -implicitDefEqProofs only [↓STP, STQ, ne_eq, implies_true, forall_const, if_false, if_true, reduceCtorEq, ↓reduceIte, Nat.reduceEqDiff, Nat.reduceAdd, Int.reduceEq, Int.reduceLT, Int.reduceLE, Int.reduceNeg, Int.reduceAdd, Int.reduceSub, Int.reduceMul, Int.reduceToNat, Nat.reduceMul, Nat.reduceSub, Nat.reduceLT, Nat.reduceLeDiff, takeL.eq_def, wx]
  refine generate19 hs hseed (by omega) fun c hc => ?_
  rw [Int.toNat_natCast]
  have step : ∀ (c : Cap), c = .full ∨ c = .own 0 → ∀ (k : Nat) (st : S), InvP p (gen p seed (x + y)) c h k st → codeT R
      (.seq (.seq (.reg [⟨some 55, none, .mv (.tmp 10)⟩,
          ⟨some 56, none, .mv (.tmp 9)⟩,
          ⟨some 57, none, .len .i (.tmp 56)⟩,
          ⟨some 58, none, .bin .lss .plain (.tmp 55) (.tmp 57)⟩])
        (.cond (.tmp 58)
         (.skip)
         (.brk 0)))
        (.seq (.block 1
         (.seq (.reg [⟨some 61, none, .mv (.tmp 9)⟩,
           ⟨some 62, none, .mv (.tmp 10)⟩,
           ⟨some 63, none, .idxS (.tmp 61) (.tmp 62) 1⟩,
           ⟨some 64, none, .load (.tmp 63) 1 false⟩,
           ⟨some 65, none, .mv (.tmp 7)⟩,
           ⟨some 66, none, .bin .geq .plain (.tmp 64) (.tmp 65)⟩])
         (.cond (.tmp 66)
          (.seq (.reg [⟨some 6, none, .mv (.cst (.bool false))⟩])
          (.ret))
          (.skip))))
        (.reg [⟨some 59, none, .mv (.tmp 10)⟩,
          ⟨some 60, none, .bin .add .plain (.tmp 59) (.cst (.int .i64 1))⟩,
          ⟨some 10, none, .mv (.tmp 60)⟩]))) st
      (Ex.then (fun st' => ∃ j, j < k ∧ InvP p (gen p seed (x + y)) c h j (clear [7, 9, 10] st'))
        (blockK 0 (Ex.then (fun st' => codeT R (.seq (.reg [⟨some 67, none, .call 8 []⟩, ⟨some 6, none, .mv (.tmp 67)⟩]) .ret) st' (endK [.tmp 6] (fun o _ => o = .ret (.bool true))) ⟨⟩) (endK [.tmp 6] (fun o _ => o = .ret (.bool true)))))) ⟨⟩ := by
    intro c hc k st hI
    obtain ⟨i, rfl, hi, rfl⟩ := hI
    by_cases hlt : i < (gen p seed (x + y)).length
    · have hget : (Ws (gen p seed (x + y)))[i]? = some (W (gen p seed (x + y))[i]) := by rw [Ws_get, List.getElem?_eq_getElem hlt]; rfl
      have hlp : ¬ ((p : Int) ≤ ((gen p seed (x + y))[i] : Nat)) := by
        have := gen_lt (seed := seed) (n := x + y) hp _ (List.getElem_mem hlt)
        omega
      have hl2 := gen_len (p := p) (seed := seed) (n := x + y)
      rcases hc with rfl | rfl
      all_goals
        simp -dsimp -implicitDefEqProofs only [↓STP, STQ, ne_eq, implies_true, forall_const, if_false, if_true, reduceCtorEq, ↓reduceIte, Nat.reduceEqDiff, Nat.reduceAdd, Int.reduceEq, Int.reduceLT, Int.reduceLE, Int.reduceNeg, Int.reduceAdd, Int.reduceSub, Int.reduceMul, Int.reduceToNat, Nat.reduceMul, Nat.reduceSub, Nat.reduceLT, Nat.reduceLeDiff, Ws_length, Int.ofNat_lt, hlt, idxSV.eq_def, Int.natCast_nonneg, Int.toNat_natCast, hget, eq_false hlp]
        exact ⟨_, by omega, i + 1, rfl, by omega, by rw [wrap_i64 (by omega) (by omega)]; rfl⟩
    · rcases hc with rfl | rfl
      all_goals
        simp -dsimp -implicitDefEqProofs only [↓STP, STQ, ne_eq, implies_true, forall_const, if_false, if_true, reduceCtorEq, ↓reduceIte, Nat.reduceEqDiff, Nat.reduceAdd, Int.reduceEq, Int.reduceLT, Int.reduceLE, Int.reduceNeg, Int.reduceAdd, Int.reduceSub, Int.reduceMul, Int.reduceToNat, Nat.reduceMul, Nat.reduceSub, Nat.reduceLT, Nat.reduceLeDiff, Ws_length, Int.ofNat_lt, hlt]
        refine awake8 fun h' _ => ?_
        simp -dsimp -implicitDefEqProofs only [↓STP, STQ, ne_eq, implies_true, forall_const, if_false, if_true, reduceCtorEq, ↓reduceIte, Nat.reduceEqDiff, Nat.reduceAdd, Int.reduceEq, Int.reduceLT, Int.reduceLE, Int.reduceNeg, Int.reduceAdd, Int.reduceSub, Int.reduceMul, Int.reduceToNat, Nat.reduceMul, Nat.reduceSub, Nat.reduceLT, Nat.reduceLeDiff]
  have gtake : (gen p seed (x + y)).take x = gen p seed x := by
    unfold gen
    rw [← List.map_take, List.take_range, Nat.min_eq_left (Nat.le_add_right _ _)]
  rcases hc with rfl | rfl
  all_goals
    simp -dsimp -implicitDefEqProofs only [↓STP, STQ, ne_eq, implies_true, forall_const, if_false, if_true, reduceCtorEq, ↓reduceIte, Nat.reduceEqDiff, Nat.reduceAdd, Int.reduceEq, Int.reduceLT, Int.reduceLE, Int.reduceNeg, Int.reduceAdd, Int.reduceSub, Int.reduceMul, Int.reduceToNat, Nat.reduceMul, Nat.reduceSub, Nat.reduceLT, Nat.reduceLeDiff, takeL.eq_def, wx, wy, wxy]
    refine generate19 (n := ((x + y : Nat) : Int)) hs hseed (by omega) fun c hc => ?_
    rw [Int.toNat_natCast]
    rcases hc with rfl | rfl
    · by_cases hxy : x = x + y
      · simp -dsimp -implicitDefEqProofs only [↓STP, STQ, ne_eq, implies_true, forall_const, if_false, if_true, reduceCtorEq, ↓reduceIte, Nat.reduceEqDiff, Nat.reduceAdd, Int.reduceEq, Int.reduceLT, Int.reduceLE, Int.reduceNeg, Int.reduceAdd, Int.reduceSub, Int.reduceMul, Int.reduceToNat, Nat.reduceMul, Nat.reduceSub, Nat.reduceLT, Nat.reduceLeDiff, takeL.eq_def, wx, wy, wxy, Ws_length, gen_len, slcV, bound, Option.map_none, h1, h2, hd, Int.toNat_natCast, Ws_take, gtake, eq_true hxy]
        refine same13 rfl rfl (by rw [gen_len]; omega) fun r hr => ?_
        have hr' : r = true := by rw [hr]; simp
        subst hr'
        simp -dsimp -implicitDefEqProofs only [↓STP, STQ, ne_eq, implies_true, forall_const, if_false, if_true, reduceCtorEq, ↓reduceIte, Nat.reduceEqDiff, Nat.reduceAdd, Int.reduceEq, Int.reduceLT, Int.reduceLE, Int.reduceNeg, Int.reduceAdd, Int.reduceSub, Int.reduceMul, Int.reduceToNat, Nat.reduceMul, Nat.reduceSub, Nat.reduceLT, Nat.reduceLeDiff]
        exact codeT_loop (InvP p (gen p seed (x + y)) .full h) (i := (gen p seed (x + y)).length) ⟨0, by omega, by omega, by simp -dsimp -implicitDefEqProofs only [↓STP, STQ, ne_eq, implies_true, forall_const, if_false, if_true, reduceCtorEq, ↓reduceIte, Nat.reduceEqDiff, Nat.reduceAdd, Int.reduceEq, Int.reduceLT, Int.reduceLE, Int.reduceNeg, Int.reduceAdd, Int.reduceSub, Int.reduceMul, Int.reduceToNat, Nat.reduceMul, Nat.reduceSub, Nat.reduceLT, Nat.reduceLeDiff] <;> rfl⟩ (step .full (.inl rfl)) mono
      · simp -dsimp -implicitDefEqProofs only [↓STP, STQ, ne_eq, implies_true, forall_const, if_false, if_true, reduceCtorEq, ↓reduceIte, Nat.reduceEqDiff, Nat.reduceAdd, Int.reduceEq, Int.reduceLT, Int.reduceLE, Int.reduceNeg, Int.reduceAdd, Int.reduceSub, Int.reduceMul, Int.reduceToNat, Nat.reduceMul, Nat.reduceSub, Nat.reduceLT, Nat.reduceLeDiff, takeL.eq_def, wx, wy, wxy, Ws_length, gen_len, slcV, bound, Option.map_none, h1, h2, hd, Int.toNat_natCast, Ws_take, gtake, eq_false hxy]
        refine same13 rfl rfl (by rw [gen_len]; omega) fun r hr => ?_
        have hr' : r = true := by rw [hr]; simp
        subst hr'
        simp -dsimp -implicitDefEqProofs only [↓STP, STQ, ne_eq, implies_true, forall_const, if_false, if_true, reduceCtorEq, ↓reduceIte, Nat.reduceEqDiff, Nat.reduceAdd, Int.reduceEq, Int.reduceLT, Int.reduceLE, Int.reduceNeg, Int.reduceAdd, Int.reduceSub, Int.reduceMul, Int.reduceToNat, Nat.reduceMul, Nat.reduceSub, Nat.reduceLT, Nat.reduceLeDiff]
        exact codeT_loop (InvP p (gen p seed (x + y)) .full h) (i := (gen p seed (x + y)).length) ⟨0, by omega, by omega, by simp -dsimp -implicitDefEqProofs only [↓STP, STQ, ne_eq, implies_true, forall_const, if_false, if_true, reduceCtorEq, ↓reduceIte, Nat.reduceEqDiff, Nat.reduceAdd, Int.reduceEq, Int.reduceLT, Int.reduceLE, Int.reduceNeg, Int.reduceAdd, Int.reduceSub, Int.reduceMul, Int.reduceToNat, Nat.reduceMul, Nat.reduceSub, Nat.reduceLT, Nat.reduceLeDiff] <;> rfl⟩ (step .full (.inl rfl)) mono
    · simp -dsimp -implicitDefEqProofs only [↓STP, STQ, ne_eq, implies_true, forall_const, if_false, if_true, reduceCtorEq, ↓reduceIte, Nat.reduceEqDiff, Nat.reduceAdd, Int.reduceEq, Int.reduceLT, Int.reduceLE, Int.reduceNeg, Int.reduceAdd, Int.reduceSub, Int.reduceMul, Int.reduceToNat, Nat.reduceMul, Nat.reduceSub, Nat.reduceLT, Nat.reduceLeDiff, takeL.eq_def, wx, wy, wxy, Ws_length, gen_len, slcV, bound, Option.map_none, h1, h2, hd, Int.toNat_natCast, Ws_take, gtake]
      refine same13 rfl rfl (by rw [gen_len]; omega) fun r hr => ?_
      have hr' : r = true := by rw [hr]; simp
      subst hr'
      simp -dsimp -implicitDefEqProofs only [↓STP, STQ, ne_eq, implies_true, forall_const, if_false, if_true, reduceCtorEq, ↓reduceIte, Nat.reduceEqDiff, Nat.reduceAdd, Int.reduceEq, Int.reduceLT, Int.reduceLE, Int.reduceNeg, Int.reduceAdd, Int.reduceSub, Int.reduceMul, Int.reduceToNat, Nat.reduceMul, Nat.reduceSub, Nat.reduceLT, Nat.reduceLeDiff]
      exact codeT_loop (InvP p (gen p seed (x + y)) (.own 0) h) (i := (gen p seed (x + y)).length) ⟨0, by omega, by omega, by simp -dsimp -implicitDefEqProofs only [↓STP, STQ, ne_eq, implies_true, forall_const, if_false, if_true, reduceCtorEq, ↓reduceIte, Nat.reduceEqDiff, Nat.reduceAdd, Int.reduceEq, Int.reduceLT, Int.reduceLE, Int.reduceNeg, Int.reduceAdd, Int.reduceSub, Int.reduceMul, Int.reduceToNat, Nat.reduceMul, Nat.reduceSub, Nat.reduceLT, Nat.reduceLeDiff] <;> rfl⟩ (step (.own 0) (.inr rfl)) mono

end
end Go.Ab.Ytgnpliafpklfcaa
