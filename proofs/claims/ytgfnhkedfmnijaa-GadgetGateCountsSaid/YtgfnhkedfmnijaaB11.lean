/- The reference's sums, differences and products of rows of bits. -/
import Derived.Test.YtgfnhkedfmnijaaBn
set_option linter.unusedVariables false
set_option linter.unusedSimpArgs false
namespace Go.Ab.Ytgfnhkedfmnijaa

section
variable {h : H} {K : Out → H → Prop}

theorem add02 {a b : List Nat} (ha : a.length ≤ 1000) (hb : b.length ≤ 1000) (ha1 : ∀ w ∈ a, w ≤ 1) (hb1 : ∀ w ∈ b, w ≤ 1) (hK : K (.ret (.vec (Ws (addL a b)) .any)) h) : R 64 [.vec (Ws a) .any, .vec (Ws b) .any] h K := by
  refine run64 (Nat.le_of_ble_eq_true rfl) ?_
  simp -dsimp -implicitDefEqProofs only [↓STP, STQ, ne_eq, implies_true, forall_const, if_false, if_true, reduceCtorEq, ↓reduceIte, Nat.reduceEqDiff, Nat.reduceAdd, Int.reduceEq, Int.reduceLT, Int.reduceLE, Int.reduceNeg, Int.reduceAdd, Int.reduceSub, Int.reduceMul, Int.reduceToNat, Nat.reduceMul, Nat.reduceSub, Nat.reduceLT, Nat.reduceLeDiff, ir64]
  refine codeT_for (N := max a.length b.length) (fun i => ⟨upd (upd (upd (upd (upd ρ0 0 (.vec (Ws a) .any)) 1 (.vec (Ws b) .any)) 5 (.vec (Ws ((List.range i).map (prZ fSum fCarry a b 0))) (.own 0))) 6 (W (prS fCarry a b 0 i))) 7 (I i), m0, 1, [], h⟩) (fun _ => True) (by simp -dsimp -implicitDefEqProofs only [↓STP, STQ, ne_eq, implies_true, forall_const, if_false, if_true, reduceCtorEq, ↓reduceIte, Nat.reduceEqDiff, Nat.reduceAdd, Int.reduceEq, Int.reduceLT, Int.reduceLE, Int.reduceNeg, Int.reduceAdd, Int.reduceSub, Int.reduceMul, Int.reduceToNat, Nat.reduceMul, Nat.reduceSub, Nat.reduceLT, Nat.reduceLeDiff, List.range_zero, Ws_nil] <;> rfl) trivial (fun i hlt _ => ?_) (fun _ => ?_) mono
  · have h1 := getD_le ha1 i
    have h2 := getD_le hb1 i
    have h3 := prS_le (f := fCarry) (fun a b c => fCarry_le) ha1 hb1 (l0 := 0) (by decide) i
    have e0 : List.range (i + 1) = List.range i ++ [i] := List.range_succ
    have hlen : ((List.range i).map (prZ fSum fCarry a b 0)).length < 4294967296 := by rw [List.length_map, List.length_range]; omega
    have w1 : IntKind.u64.wrap (((a.getD i 0 : Nat) : Int) + ((b.getD i 0 : Nat) : Int)) = ((a.getD i 0 + b.getD i 0 : Nat) : Int) := wuadd (by omega)
    have w2 : IntKind.u64.wrap (((a.getD i 0 + b.getD i 0 : Nat) : Int) + ((prS fCarry a b 0 i : Nat) : Int)) = ((a.getD i 0 + b.getD i 0 + prS fCarry a b 0 i : Nat) : Int) := wuadd (by omega)
    have m1 : Int.tmod ((a.getD i 0 + b.getD i 0 + prS fCarry a b 0 i : Nat) : Int) 2 = ((prZ fSum fCarry a b 0 i : Nat) : Int) := rfl
    have q1 : IntKind.u64.wrap (Int.tdiv ((a.getD i 0 + b.getD i 0 + prS fCarry a b 0 i : Nat) : Int) 2) = ((prS fCarry a b 0 (i + 1) : Nat) : Int) := by
      rw [show Int.tdiv ((a.getD i 0 + b.getD i 0 + prS fCarry a b 0 i : Nat) : Int) 2 = ((prS fCarry a b 0 (i + 1) : Nat) : Int) from rfl]
      have : prS fCarry a b 0 (i + 1) ≤ 1 := prS_le (f := fCarry) (fun a b c => fCarry_le) ha1 hb1 (l0 := 0) (by decide) (i + 1)
      rw [wrap_u64_self] <;> omega
    have ab : i < a.length ∨ (¬ i < a.length ∧ i < b.length) := by omega
    rcases ab with g1 | ⟨g1, g2⟩
    · simp -dsimp -implicitDefEqProofs only [↓STP, STQ, ne_eq, implies_true, forall_const, if_false, if_true, reduceCtorEq, ↓reduceIte, Nat.reduceEqDiff, Nat.reduceAdd, Int.reduceEq, Int.reduceLT, Int.reduceLE, Int.reduceNeg, Int.reduceAdd, Int.reduceSub, Int.reduceMul, Int.reduceToNat, Nat.reduceMul, Nat.reduceSub, Nat.reduceLT, Nat.reduceLeDiff, Ws_length, Int.ofNat_lt, g1]
      refine bit02 ?_
      simp -dsimp -implicitDefEqProofs only [↓STP, STQ, ne_eq, implies_true, forall_const, if_false, if_true, reduceCtorEq, ↓reduceIte, Nat.reduceEqDiff, Nat.reduceAdd, Int.reduceEq, Int.reduceLT, Int.reduceLE, Int.reduceNeg, Int.reduceAdd, Int.reduceSub, Int.reduceMul, Int.reduceToNat, Nat.reduceMul, Nat.reduceSub, Nat.reduceLT, Nat.reduceLeDiff]
      refine bit02 ?_
      simp -dsimp -implicitDefEqProofs only [↓STP, STQ, ne_eq, implies_true, forall_const, if_false, if_true, reduceCtorEq, ↓reduceIte, Nat.reduceEqDiff, Nat.reduceAdd, Int.reduceEq, Int.reduceLT, Int.reduceLE, Int.reduceNeg, Int.reduceAdd, Int.reduceSub, Int.reduceMul, Int.reduceToNat, Nat.reduceMul, Nat.reduceSub, Nat.reduceLT, Nat.reduceLeDiff, w1, w2, m1]
      rw [app_w_own (by simp) hlen]
      simp -dsimp -implicitDefEqProofs only [↓STP, STQ, ne_eq, implies_true, forall_const, if_false, if_true, reduceCtorEq, ↓reduceIte, Nat.reduceEqDiff, Nat.reduceAdd, Int.reduceEq, Int.reduceLT, Int.reduceLE, Int.reduceNeg, Int.reduceAdd, Int.reduceSub, Int.reduceMul, Int.reduceToNat, Nat.reduceMul, Nat.reduceSub, Nat.reduceLT, Nat.reduceLeDiff, q1, wi (show i < 9000000000000000000 by omega)]
      rw [e0, List.map_append]; trivial
    · simp -dsimp -implicitDefEqProofs only [↓STP, STQ, ne_eq, implies_true, forall_const, if_false, if_true, reduceCtorEq, ↓reduceIte, Nat.reduceEqDiff, Nat.reduceAdd, Int.reduceEq, Int.reduceLT, Int.reduceLE, Int.reduceNeg, Int.reduceAdd, Int.reduceSub, Int.reduceMul, Int.reduceToNat, Nat.reduceMul, Nat.reduceSub, Nat.reduceLT, Nat.reduceLeDiff, Ws_length, Int.ofNat_lt, g1, g2]
      refine bit02 ?_
      simp -dsimp -implicitDefEqProofs only [↓STP, STQ, ne_eq, implies_true, forall_const, if_false, if_true, reduceCtorEq, ↓reduceIte, Nat.reduceEqDiff, Nat.reduceAdd, Int.reduceEq, Int.reduceLT, Int.reduceLE, Int.reduceNeg, Int.reduceAdd, Int.reduceSub, Int.reduceMul, Int.reduceToNat, Nat.reduceMul, Nat.reduceSub, Nat.reduceLT, Nat.reduceLeDiff]
      refine bit02 ?_
      simp -dsimp -implicitDefEqProofs only [↓STP, STQ, ne_eq, implies_true, forall_const, if_false, if_true, reduceCtorEq, ↓reduceIte, Nat.reduceEqDiff, Nat.reduceAdd, Int.reduceEq, Int.reduceLT, Int.reduceLE, Int.reduceNeg, Int.reduceAdd, Int.reduceSub, Int.reduceMul, Int.reduceToNat, Nat.reduceMul, Nat.reduceSub, Nat.reduceLT, Nat.reduceLeDiff, w1, w2, m1]
      rw [app_w_own (by simp) hlen]
      simp -dsimp -implicitDefEqProofs only [↓STP, STQ, ne_eq, implies_true, forall_const, if_false, if_true, reduceCtorEq, ↓reduceIte, Nat.reduceEqDiff, Nat.reduceAdd, Int.reduceEq, Int.reduceLT, Int.reduceLE, Int.reduceNeg, Int.reduceAdd, Int.reduceSub, Int.reduceMul, Int.reduceToNat, Nat.reduceMul, Nat.reduceSub, Nat.reduceLT, Nat.reduceLeDiff, q1, wi (show i < 9000000000000000000 by omega)]
      rw [e0, List.map_append]; trivial
  · simp -dsimp -implicitDefEqProofs only [↓STP, STQ, ne_eq, implies_true, forall_const, if_false, if_true, reduceCtorEq, ↓reduceIte, Nat.reduceEqDiff, Nat.reduceAdd, Int.reduceEq, Int.reduceLT, Int.reduceLE, Int.reduceNeg, Int.reduceAdd, Int.reduceSub, Int.reduceMul, Int.reduceToNat, Nat.reduceMul, Nat.reduceSub, Nat.reduceLT, Nat.reduceLeDiff, Ws_length, Int.ofNat_lt, eq_false (show ¬ max a.length b.length < a.length by omega), eq_false (show ¬ max a.length b.length < b.length by omega)]
    rw [app_w_own (by simp) (by rw [List.length_map, List.length_range]; omega)]
    simp -dsimp -implicitDefEqProofs only [↓STP, STQ, ne_eq, implies_true, forall_const, if_false, if_true, reduceCtorEq, ↓reduceIte, Nat.reduceEqDiff, Nat.reduceAdd, Int.reduceEq, Int.reduceLT, Int.reduceLE, Int.reduceNeg, Int.reduceAdd, Int.reduceSub, Int.reduceMul, Int.reduceToNat, Nat.reduceMul, Nat.reduceSub, Nat.reduceLT, Nat.reduceLeDiff]
    exact hK

theorem sub02 {a b : List Nat} (ha : a.length ≤ 1000) (hb : b.length ≤ 1000) (ha1 : ∀ w ∈ a, w ≤ 1) (hb1 : ∀ w ∈ b, w ≤ 1) (hK : K (.ret (.vec (Ws (subL a b)) .any)) h) : R 65 [.vec (Ws a) .any, .vec (Ws b) .any] h K := by
  refine run65 (Nat.le_of_ble_eq_true rfl) ?_
  simp -dsimp -implicitDefEqProofs only [↓STP, STQ, ne_eq, implies_true, forall_const, if_false, if_true, reduceCtorEq, ↓reduceIte, Nat.reduceEqDiff, Nat.reduceAdd, Int.reduceEq, Int.reduceLT, Int.reduceLE, Int.reduceNeg, Int.reduceAdd, Int.reduceSub, Int.reduceMul, Int.reduceToNat, Nat.reduceMul, Nat.reduceSub, Nat.reduceLT, Nat.reduceLeDiff, ir65]
  refine less02 ha hb ?_
  have hbl : prS fLess a b 0 (max a.length b.length) ≤ 1 := prS_le (f := fLess) (fun a b c => fLess_le) ha1 hb1 (l0 := 0) (by decide) _
  rw [← borrow_less ha1 hb1] at *
  generalize hB : prS fBorrow a b 0 (max a.length b.length) = B at *
  have step : ∀ i, i < a.length → ∃ s : Nat, 2 + a.getD i 0 - b.getD i 0 - prS fBorrow a b 0 i = s ∧ b.getD i 0 ≤ 1 ∧ prS fBorrow a b 0 i ≤ 1 ∧ a.getD i 0 ≤ 1 ∧ s % 2 = prZ fSum fBorrow a b 0 i ∧ 1 - s / 2 = prS fBorrow a b 0 (i + 1) ∧ s / 2 ≤ 1 := by
    intro i hi
    have h1 := getD_le ha1 i
    have h2 := getD_le hb1 i
    have h3 := prS_le (f := fBorrow) (fun a b c => fBorrow_le) ha1 hb1 (l0 := 0) (by decide) i
    refine ⟨_, rfl, h2, h3, h1, ?_, ?_, by omega⟩
    · show _ = (a.getD i 0 + b.getD i 0 + prS fBorrow a b 0 i) % 2
      omega
    · show _ = fBorrow (a.getD i 0) (b.getD i 0) (prS fBorrow a b 0 i)
      unfold fBorrow
      generalize prS (fun a b c => if a < b + c then 1 else 0) a b 0 i = c at *
      split <;> omega
  by_cases hB1 : (B : Int) = 1
  · simp -dsimp -implicitDefEqProofs only [↓STP, STQ, ne_eq, implies_true, forall_const, if_false, if_true, reduceCtorEq, ↓reduceIte, Nat.reduceEqDiff, Nat.reduceAdd, Int.reduceEq, Int.reduceLT, Int.reduceLE, Int.reduceNeg, Int.reduceAdd, Int.reduceSub, Int.reduceMul, Int.reduceToNat, Nat.reduceMul, Nat.reduceSub, Nat.reduceLT, Nat.reduceLeDiff, eq_true hB1]
    refine codeT_for (N := a.length) (fun i => ⟨upd (upd (upd (upd (upd (upd ρ0 0 (.vec (Ws a) .any)) 1 (.vec (Ws b) .any)) 5 (.vec (Ws ((List.range i).map fun i => prZ fSum fBorrow a b 0 i * (1 - B))) (.own 0))) 6 (.bool true)) 7 (W (prS fBorrow a b 0 i))) 8 (I i), m0, 1, [], h⟩) (fun _ => True) (by simp -dsimp -implicitDefEqProofs only [↓STP, STQ, ne_eq, implies_true, forall_const, if_false, if_true, reduceCtorEq, ↓reduceIte, Nat.reduceEqDiff, Nat.reduceAdd, Int.reduceEq, Int.reduceLT, Int.reduceLE, Int.reduceNeg, Int.reduceAdd, Int.reduceSub, Int.reduceMul, Int.reduceToNat, Nat.reduceMul, Nat.reduceSub, Nat.reduceLT, Nat.reduceLeDiff, List.range_zero, Ws_nil] <;> rfl) trivial (fun i hlt _ => ?_) (fun _ => ?_) mono
    · obtain ⟨s, s1, s2, s3, s4, s5, s6, s7⟩ := step i hlt
      have e0 : List.range (i + 1) = List.range i ++ [i] := List.range_succ
      have hlen : ((List.range i).map fun i => prZ fSum fBorrow a b 0 i * (1 - B)).length < 4294967296 := by rw [List.length_map, List.length_range]; omega
      have w1 : IntKind.u64.wrap (2 + ((a.getD i 0 : Nat) : Int)) = ((2 + a.getD i 0 : Nat) : Int) := by rw [wrap_u64_self] <;> omega
      have w2 : IntKind.u64.wrap (((2 + a.getD i 0 : Nat) : Int) - ((b.getD i 0 : Nat) : Int)) = ((2 + a.getD i 0 - b.getD i 0 : Nat) : Int) := by rw [wrap_u64_self] <;> omega
      have w3 : IntKind.u64.wrap (((2 + a.getD i 0 - b.getD i 0 : Nat) : Int) - ((prS fBorrow a b 0 i : Nat) : Int)) = (s : Int) := by rw [wrap_u64_self] <;> omega
      have q1 : IntKind.u64.wrap (Int.tdiv (s : Int) 2) = ((s / 2 : Nat) : Int) := by
        rw [show Int.tdiv (s : Int) 2 = ((s / 2 : Nat) : Int) from rfl, wrap_u64_self] <;> omega
      have q2 : IntKind.u64.wrap (1 - ((s / 2 : Nat) : Int)) = ((prS fBorrow a b 0 (i + 1) : Nat) : Int) := by rw [wrap_u64_self] <;> omega
      simp -dsimp -implicitDefEqProofs only [↓STP, STQ, ne_eq, implies_true, forall_const, if_false, if_true, reduceCtorEq, ↓reduceIte, Nat.reduceEqDiff, Nat.reduceAdd, Int.reduceEq, Int.reduceLT, Int.reduceLE, Int.reduceNeg, Int.reduceAdd, Int.reduceSub, Int.reduceMul, Int.reduceToNat, Nat.reduceMul, Nat.reduceSub, Nat.reduceLT, Nat.reduceLeDiff, Ws_length, Int.ofNat_lt, hlt]
      refine bit02 ?_
      simp -dsimp -implicitDefEqProofs only [↓STP, STQ, ne_eq, implies_true, forall_const, if_false, if_true, reduceCtorEq, ↓reduceIte, Nat.reduceEqDiff, Nat.reduceAdd, Int.reduceEq, Int.reduceLT, Int.reduceLE, Int.reduceNeg, Int.reduceAdd, Int.reduceSub, Int.reduceMul, Int.reduceToNat, Nat.reduceMul, Nat.reduceSub, Nat.reduceLT, Nat.reduceLeDiff, w1]
      refine bit02 ?_
      simp -dsimp -implicitDefEqProofs only [↓STP, STQ, ne_eq, implies_true, forall_const, if_false, if_true, reduceCtorEq, ↓reduceIte, Nat.reduceEqDiff, Nat.reduceAdd, Int.reduceEq, Int.reduceLT, Int.reduceLE, Int.reduceNeg, Int.reduceAdd, Int.reduceSub, Int.reduceMul, Int.reduceToNat, Nat.reduceMul, Nat.reduceSub, Nat.reduceLT, Nat.reduceLeDiff, w2, w3, q1, q2]
      rw [show (V.int .u64 0) = V.int .u64 ((0 : Nat) : Int) from rfl, app_w_own (by simp) hlen]
      simp -dsimp -implicitDefEqProofs only [↓STP, STQ, ne_eq, implies_true, forall_const, if_false, if_true, reduceCtorEq, ↓reduceIte, Nat.reduceEqDiff, Nat.reduceAdd, Int.reduceEq, Int.reduceLT, Int.reduceLE, Int.reduceNeg, Int.reduceAdd, Int.reduceSub, Int.reduceMul, Int.reduceToNat, Nat.reduceMul, Nat.reduceSub, Nat.reduceLT, Nat.reduceLeDiff, wi (show i < 9000000000000000000 by omega)]
      rw [e0, List.map_append]
      have : prZ fSum fBorrow a b 0 i * (1 - B) = 0 := by rw [show 1 - B = 0 by omega]; rfl
      simp only [List.map_cons, List.map_nil, this]
    · simp -dsimp -implicitDefEqProofs only [↓STP, STQ, ne_eq, implies_true, forall_const, if_false, if_true, reduceCtorEq, ↓reduceIte, Nat.reduceEqDiff, Nat.reduceAdd, Int.reduceEq, Int.reduceLT, Int.reduceLE, Int.reduceNeg, Int.reduceAdd, Int.reduceSub, Int.reduceMul, Int.reduceToNat, Nat.reduceMul, Nat.reduceSub, Nat.reduceLT, Nat.reduceLeDiff, Ws_length, Int.lt_irrefl]
      rw [subL, hB] at hK
      exact hK
  · simp -dsimp -implicitDefEqProofs only [↓STP, STQ, ne_eq, implies_true, forall_const, if_false, if_true, reduceCtorEq, ↓reduceIte, Nat.reduceEqDiff, Nat.reduceAdd, Int.reduceEq, Int.reduceLT, Int.reduceLE, Int.reduceNeg, Int.reduceAdd, Int.reduceSub, Int.reduceMul, Int.reduceToNat, Nat.reduceMul, Nat.reduceSub, Nat.reduceLT, Nat.reduceLeDiff, eq_false hB1]
    refine codeT_for (N := a.length) (fun i => ⟨upd (upd (upd (upd (upd (upd ρ0 0 (.vec (Ws a) .any)) 1 (.vec (Ws b) .any)) 5 (.vec (Ws ((List.range i).map fun i => prZ fSum fBorrow a b 0 i * (1 - B))) (.own 0))) 6 (.bool false)) 7 (W (prS fBorrow a b 0 i))) 8 (I i), m0, 1, [], h⟩) (fun _ => True) (by simp -dsimp -implicitDefEqProofs only [↓STP, STQ, ne_eq, implies_true, forall_const, if_false, if_true, reduceCtorEq, ↓reduceIte, Nat.reduceEqDiff, Nat.reduceAdd, Int.reduceEq, Int.reduceLT, Int.reduceLE, Int.reduceNeg, Int.reduceAdd, Int.reduceSub, Int.reduceMul, Int.reduceToNat, Nat.reduceMul, Nat.reduceSub, Nat.reduceLT, Nat.reduceLeDiff, List.range_zero, Ws_nil] <;> rfl) trivial (fun i hlt _ => ?_) (fun _ => ?_) mono
    · obtain ⟨s, s1, s2, s3, s4, s5, s6, s7⟩ := step i hlt
      have e0 : List.range (i + 1) = List.range i ++ [i] := List.range_succ
      have hlen : ((List.range i).map fun i => prZ fSum fBorrow a b 0 i * (1 - B)).length < 4294967296 := by rw [List.length_map, List.length_range]; omega
      have w1 : IntKind.u64.wrap (2 + ((a.getD i 0 : Nat) : Int)) = ((2 + a.getD i 0 : Nat) : Int) := by rw [wrap_u64_self] <;> omega
      have w2 : IntKind.u64.wrap (((2 + a.getD i 0 : Nat) : Int) - ((b.getD i 0 : Nat) : Int)) = ((2 + a.getD i 0 - b.getD i 0 : Nat) : Int) := by rw [wrap_u64_self] <;> omega
      have w3 : IntKind.u64.wrap (((2 + a.getD i 0 - b.getD i 0 : Nat) : Int) - ((prS fBorrow a b 0 i : Nat) : Int)) = (s : Int) := by rw [wrap_u64_self] <;> omega
      have q1 : IntKind.u64.wrap (Int.tdiv (s : Int) 2) = ((s / 2 : Nat) : Int) := by
        rw [show Int.tdiv (s : Int) 2 = ((s / 2 : Nat) : Int) from rfl, wrap_u64_self] <;> omega
      have q2 : IntKind.u64.wrap (1 - ((s / 2 : Nat) : Int)) = ((prS fBorrow a b 0 (i + 1) : Nat) : Int) := by rw [wrap_u64_self] <;> omega
      have m1 : Int.tmod (s : Int) 2 = ((s % 2 : Nat) : Int) := rfl
      simp -dsimp -implicitDefEqProofs only [↓STP, STQ, ne_eq, implies_true, forall_const, if_false, if_true, reduceCtorEq, ↓reduceIte, Nat.reduceEqDiff, Nat.reduceAdd, Int.reduceEq, Int.reduceLT, Int.reduceLE, Int.reduceNeg, Int.reduceAdd, Int.reduceSub, Int.reduceMul, Int.reduceToNat, Nat.reduceMul, Nat.reduceSub, Nat.reduceLT, Nat.reduceLeDiff, Ws_length, Int.ofNat_lt, hlt]
      refine bit02 ?_
      simp -dsimp -implicitDefEqProofs only [↓STP, STQ, ne_eq, implies_true, forall_const, if_false, if_true, reduceCtorEq, ↓reduceIte, Nat.reduceEqDiff, Nat.reduceAdd, Int.reduceEq, Int.reduceLT, Int.reduceLE, Int.reduceNeg, Int.reduceAdd, Int.reduceSub, Int.reduceMul, Int.reduceToNat, Nat.reduceMul, Nat.reduceSub, Nat.reduceLT, Nat.reduceLeDiff, w1]
      refine bit02 ?_
      simp -dsimp -implicitDefEqProofs only [↓STP, STQ, ne_eq, implies_true, forall_const, if_false, if_true, reduceCtorEq, ↓reduceIte, Nat.reduceEqDiff, Nat.reduceAdd, Int.reduceEq, Int.reduceLT, Int.reduceLE, Int.reduceNeg, Int.reduceAdd, Int.reduceSub, Int.reduceMul, Int.reduceToNat, Nat.reduceMul, Nat.reduceSub, Nat.reduceLT, Nat.reduceLeDiff, w2, w3, q1, q2, m1]
      rw [app_w_own (by simp) hlen]
      simp -dsimp -implicitDefEqProofs only [↓STP, STQ, ne_eq, implies_true, forall_const, if_false, if_true, reduceCtorEq, ↓reduceIte, Nat.reduceEqDiff, Nat.reduceAdd, Int.reduceEq, Int.reduceLT, Int.reduceLE, Int.reduceNeg, Int.reduceAdd, Int.reduceSub, Int.reduceMul, Int.reduceToNat, Nat.reduceMul, Nat.reduceSub, Nat.reduceLT, Nat.reduceLeDiff, wi (show i < 9000000000000000000 by omega)]
      rw [e0, List.map_append]
      have : prZ fSum fBorrow a b 0 i * (1 - B) = s % 2 := by rw [show 1 - B = 1 by omega, s5, Nat.mul_one]
      simp only [List.map_cons, List.map_nil, this]
    · simp -dsimp -implicitDefEqProofs only [↓STP, STQ, ne_eq, implies_true, forall_const, if_false, if_true, reduceCtorEq, ↓reduceIte, Nat.reduceEqDiff, Nat.reduceAdd, Int.reduceEq, Int.reduceLT, Int.reduceLE, Int.reduceNeg, Int.reduceAdd, Int.reduceSub, Int.reduceMul, Int.reduceToNat, Nat.reduceMul, Nat.reduceSub, Nat.reduceLT, Nat.reduceLeDiff, Ws_length, Int.lt_irrefl]
      rw [subL, hB] at hK
      exact hK

end
end Go.Ab.Ytgfnhkedfmnijaa
