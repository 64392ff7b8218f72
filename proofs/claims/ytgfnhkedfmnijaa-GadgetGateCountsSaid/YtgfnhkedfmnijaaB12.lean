/- The reference's products of rows of bits. -/
import Derived.Test.YtgfnhkedfmnijaaB11
import Derived.Test.YtgfnhkedfmnijaaG2
set_option linter.unusedVariables false
set_option linter.unusedSimpArgs false
namespace Go.Ab.Ytgfnhkedfmnijaa

section
variable {h : H} {K : Out → H → Prop}

/-- 'a' is added to 'o' from place 'i' on, as far as 'k' places of it. -/
def addAt (o a : List Nat) (i k : Nat) : List Nat := o.take i ++ (List.range k).map (prZ fSum fCarry (o.drop i) a 0) ++ o.drop (i + k)

theorem addAt_len {o a : List Nat} {i k : Nat} (h : i + k ≤ o.length) : (addAt o a i k).length = o.length := by simp [addAt]; omega
theorem addAt_zero {o a : List Nat} {i : Nat} : addAt o a i 0 = o := by simp [addAt]
theorem addAt_get {o a : List Nat} {i k : Nat} (h : i + k < o.length) : (addAt o a i k)[i + k]? = some ((o.drop i).getD k 0) := by
  unfold addAt
  rw [List.getElem?_append_right (by simp; omega)]
  simp only [List.length_append, List.length_take, List.length_map, List.length_range]
  rw [show i + k - (min i o.length + k) = 0 by omega, List.getElem?_drop, Nat.add_zero, List.getD_eq_getElem?_getD, List.getElem?_drop, List.getElem?_eq_getElem h]
  rfl
theorem addAt_succ {o a : List Nat} {i k : Nat} (h : i + k < o.length) : (addAt o a i k).set (i + k) (prZ fSum fCarry (o.drop i) a 0 k) = addAt o a i (k + 1) := by
  unfold addAt
  rw [List.set_append_right _ _ (by simp; omega)]
  simp only [List.length_append, List.length_take, List.length_map, List.length_range]
  rw [show i + k - (min i o.length + k) = 0 by omega, List.drop_eq_getElem_cons h, List.set_cons_zero, List.range_succ, List.map_append, List.append_assoc, List.append_assoc, List.append_assoc]
  rfl
theorem addAt_bits {o a : List Nat} {i k : Nat} (ho : ∀ w ∈ o, w ≤ 1) : ∀ w ∈ addAt o a i k, w ≤ 1 := by
  intro w hw
  rcases List.mem_append.1 hw with h | h
  · rcases List.mem_append.1 h with h | h
    · exact ho w (List.mem_of_mem_take h)
    · obtain ⟨j, _, rfl⟩ := List.mem_map.1 h
      show (_ + _ + _) % 2 ≤ 1
      omega
  · exact ho w (List.mem_of_mem_drop h)
theorem addAt_number {o a : List Nat} {i m : Nat} (hm : i + m = o.length) (ha : a.length ≤ m) (hb : number o + 2 ^ i * number a < 2 ^ o.length) :
    number (addAt o a i m) = number o + 2 ^ i * number a := by
  have e1 : number o = number (o.take i) + 2 ^ i * number (o.drop i) := by
    conv => lhs; rw [← List.take_append_drop i o, number_append, List.length_take, Nat.min_eq_left (by omega)]
  have e2 := carry_sum (o.drop i) a 0 m
  rw [number_range (by rw [List.length_drop]; omega), number_range ha, Nat.add_zero] at e2
  unfold addAt
  rw [hm, List.drop_length, List.append_nil, number_append, List.length_take, Nat.min_eq_left (by omega)]
  have e3 : 2 ^ i * (number ((List.range m).map (prZ fSum fCarry (o.drop i) a 0)) + 2 ^ m * prS fCarry (o.drop i) a 0 m) = 2 ^ i * (number (o.drop i) + number a) := by rw [e2]
  rw [Nat.mul_add, Nat.mul_add, ← Nat.mul_assoc, ← Nat.pow_add, hm] at e3
  have : prS fCarry (o.drop i) a 0 m = 0 := by
    rcases Nat.eq_zero_or_pos (prS fCarry (o.drop i) a 0 m) with h | h
    · exact h
    · have := Nat.le_mul_of_pos_right (2 ^ o.length) h
      omega
  rw [this, Nat.mul_zero, Nat.add_zero] at e3
  omega

theorem number_take_lt {a b : List Nat} (ha : ∀ w ∈ a, w ≤ 1) (hb : ∀ w ∈ b, w ≤ 1) : number a * number b < 2 ^ (a.length + b.length) := by
  have h1 := number_lt ha
  have h2 := number_lt hb
  rw [Nat.pow_add]
  exact Nat.mul_lt_mul_of_lt_of_le h1 (Nat.le_of_lt h2) (Nat.pow_pos (by decide))

theorem number_take {b : List Nat} {i : Nat} (hi : i < b.length) : number (b.take (i + 1)) = number (b.take i) + 2 ^ i * b[i] := by
  rw [List.take_add_one, List.getElem?_eq_getElem hi]
  simp only [Option.toList]
  rw [number_snoc, List.length_take, Nat.min_eq_left (Nat.le_of_lt hi)]

def InvMul02 (a b : List Nat) (h : H) (k : Nat) (st : S) : Prop :=
  ∃ (i : Nat) (h1 : H) (o : List Nat), k = b.length - i ∧ i ≤ b.length ∧ h1.next = h.next + 1 ∧ h1.get h.next = some (Ws o) ∧ (∀ j, j < h.next → h1.objs j = h.objs j) ∧ o.length = a.length + b.length ∧ (∀ w ∈ o, w ≤ 1) ∧ number o = number a * number (b.take i) ∧
    st = ⟨upd (upd (upd (upd ρ0 0 (.vec (Ws a) .any)) 1 (.vec (Ws b) .any)) 5 (.ref h.next 0 (a.length + b.length) 1)) 6 (I i), m0, 0, [], h1⟩
def InvMul02b (a b o : List Nat) (i : Nat) (h : H) (k : Nat) (st : S) : Prop :=
  ∃ (j : Nat) (h1 : H), k = a.length + b.length - i - j ∧ i + j ≤ a.length + b.length ∧ h1.next = h.next + 1 ∧ h1.get h.next = some (Ws (addAt o a i j)) ∧ (∀ j, j < h.next → h1.objs j = h.objs j) ∧
    st = ⟨upd (upd (upd (upd (upd (upd ρ0 0 (.vec (Ws a) .any)) 1 (.vec (Ws b) .any)) 5 (.ref h.next 0 (a.length + b.length) 1)) 6 (I i)) 7 (W (prS fCarry (o.drop i) a 0 j))) 8 (I j), m0, 0, [], h1⟩

theorem mul02 {a b : List Nat} (ha : a.length ≤ 1000) (hb : b.length ≤ 1000) (ha1 : ∀ w ∈ a, w ≤ 1) (hb1 : ∀ w ∈ b, w ≤ 1)
    (hK : ∀ h' v rs, rs.length = a.length + b.length → (∀ w ∈ rs, w ≤ 1) → number rs = number a * number b → WordsAt h' v rs → h.next ≤ h'.next → (∀ j, j < h.next → h'.objs j = h.objs j) → K (.ret v) h') : R 66 [.vec (Ws a) .any, .vec (Ws b) .any] h K := by
  refine run66 (Nat.le_of_ble_eq_true rfl) ?_
  have wl : IntKind.i64.wrap ((a.length : Int) + (b.length : Int)) = ((a.length + b.length : Nat) : Int) := wadd (by omega)
  simp -dsimp -implicitDefEqProofs only [↓STP, STQ, ne_eq, implies_true, forall_const, if_false, if_true, reduceCtorEq, ↓reduceIte, Nat.reduceEqDiff, Nat.reduceAdd, Int.reduceEq, Int.reduceLT, Int.reduceLE, Int.reduceNeg, Int.reduceAdd, Int.reduceSub, Int.reduceMul, Int.reduceToNat, Nat.reduceMul, Nat.reduceSub, Nat.reduceLT, Nat.reduceLeDiff, ir66, Ws_length, wl, mksN_ok (n := a.length + b.length) (sz := 1) (bytes := 8) (by omega) (by decide) (by decide)]
  refine codeT_loop (InvMul02 a b h) (i := b.length) ⟨0, _, List.replicate (a.length + b.length) 0, rfl, by omega, ?_, ?_, ?_, by simp, ?_, ?_, by simp -dsimp -implicitDefEqProofs only [↓STP, STQ, ne_eq, implies_true, forall_const, if_false, if_true, reduceCtorEq, ↓reduceIte, Nat.reduceEqDiff, Nat.reduceAdd, Int.reduceEq, Int.reduceLT, Int.reduceLE, Int.reduceNeg, Int.reduceAdd, Int.reduceSub, Int.reduceMul, Int.reduceToNat, Nat.reduceMul, Nat.reduceSub, Nat.reduceLT, Nat.reduceLeDiff] <;> rfl⟩ ?_ mono
  · rfl
  · rw [get_new, tab_const, tab, Ws]
    congr 1
    apply List.ext_getElem
    · simp
    · intro i h1 h2; simp
  · intro j hj; simp [H.new, upd, Nat.ne_of_lt hj]
  · intro w hw; rw [List.eq_of_mem_replicate hw]; decide
  · rw [number_zeros]; simp [number]
  rintro k st ⟨i, h1, o, rfl, hi, hnx, hg, hold, hol, hob, hon, rfl⟩
  by_cases hlt : i < b.length
  · have hx : (Ws b)[i]? = some (W b[i]) := by rw [Ws_get, List.getElem?_eq_getElem hlt]; rfl
    have wi1 := wi (show i < 9000000000000000000 by omega)
    have hbi := hb1 _ (List.getElem_mem hlt)
    have hnt := number_take hlt
    by_cases hz : (b[i] : Int) = 0
    · simp -dsimp -implicitDefEqProofs only [↓STP, STQ, ne_eq, implies_true, forall_const, if_false, if_true, reduceCtorEq, ↓reduceIte, Nat.reduceEqDiff, Nat.reduceAdd, Int.reduceEq, Int.reduceLT, Int.reduceLE, Int.reduceNeg, Int.reduceAdd, Int.reduceSub, Int.reduceMul, Int.reduceToNat, Nat.reduceMul, Nat.reduceSub, Nat.reduceLT, Nat.reduceLeDiff, Ws_length, Int.ofNat_lt, hlt, hx, eq_true hz, wi1]
      refine ⟨_, ?_, i + 1, h1, o, rfl, by omega, hnx, hg, hold, hol, hob, ?_, rfl⟩
      · omega
      · rw [hon, hnt, show b[i] = 0 by omega]; simp
    · have hb1' : b[i] = 1 := by omega
      simp -dsimp -implicitDefEqProofs only [↓STP, STQ, ne_eq, implies_true, forall_const, if_false, if_true, reduceCtorEq, ↓reduceIte, Nat.reduceEqDiff, Nat.reduceAdd, Int.reduceEq, Int.reduceLT, Int.reduceLE, Int.reduceNeg, Int.reduceAdd, Int.reduceSub, Int.reduceMul, Int.reduceToNat, Nat.reduceMul, Nat.reduceSub, Nat.reduceLT, Nat.reduceLeDiff, Ws_length, Int.ofNat_lt, hlt, hx, eq_false hz]
      refine codeT_loop (InvMul02b a b o i h) (i := a.length + b.length - i) ⟨0, h1, rfl, by omega, hnx, by rw [addAt_zero]; exact hg, hold, by simp -dsimp -implicitDefEqProofs only [↓STP, STQ, ne_eq, implies_true, forall_const, if_false, if_true, reduceCtorEq, ↓reduceIte, Nat.reduceEqDiff, Nat.reduceAdd, Int.reduceEq, Int.reduceLT, Int.reduceLE, Int.reduceNeg, Int.reduceAdd, Int.reduceSub, Int.reduceMul, Int.reduceToNat, Nat.reduceMul, Nat.reduceSub, Nat.reduceLT, Nat.reduceLeDiff] <;> rfl⟩ ?_ mono
      rintro k st ⟨j, h2, rfl, hj, hnx2, hg2, hold2, rfl⟩
      have wij : IntKind.i64.wrap ((i : Int) + (j : Int)) = ((i + j : Nat) : Int) := wadd (by omega)
      by_cases hlt2 : i + j < a.length + b.length
      · have hget : (Ws (addAt o a i j))[i + j]? = some (W ((o.drop i).getD j 0)) := by rw [Ws_get, addAt_get (by omega)]; rfl
        have h1 := getD_le (l := o.drop i) (fun w hw => hob w (List.mem_of_mem_drop hw)) j
        have h2 := getD_le ha1 j
        have h3 := prS_le (f := fCarry) (fun a b c => fCarry_le) (fun w hw => hob w (List.mem_of_mem_drop hw)) ha1 (l0 := 0) (by decide) j (a := o.drop i)
        have w1 : IntKind.u64.wrap ((((o.drop i).getD j 0 : Nat) : Int) + ((a.getD j 0 : Nat) : Int)) = (((o.drop i).getD j 0 + a.getD j 0 : Nat) : Int) := wuadd (by omega)
        have w2 : IntKind.u64.wrap ((((o.drop i).getD j 0 + a.getD j 0 : Nat) : Int) + ((prS fCarry (o.drop i) a 0 j : Nat) : Int)) = (((o.drop i).getD j 0 + a.getD j 0 + prS fCarry (o.drop i) a 0 j : Nat) : Int) := wuadd (by omega)
        have m1 : Int.tmod (((o.drop i).getD j 0 + a.getD j 0 + prS fCarry (o.drop i) a 0 j : Nat) : Int) 2 = ((prZ fSum fCarry (o.drop i) a 0 j : Nat) : Int) := rfl
        have q1 : IntKind.u64.wrap (Int.tdiv (((o.drop i).getD j 0 + a.getD j 0 + prS fCarry (o.drop i) a 0 j : Nat) : Int) 2) = ((prS fCarry (o.drop i) a 0 (j + 1) : Nat) : Int) := by
          rw [show Int.tdiv (((o.drop i).getD j 0 + a.getD j 0 + prS fCarry (o.drop i) a 0 j : Nat) : Int) 2 = ((prS fCarry (o.drop i) a 0 (j + 1) : Nat) : Int) from rfl]
          have : prS fCarry (o.drop i) a 0 (j + 1) ≤ 1 := prS_le (f := fCarry) (fun a b c => fCarry_le) (fun w hw => hob w (List.mem_of_mem_drop hw)) ha1 (l0 := 0) (by decide) (j + 1)
          rw [wrap_u64_self] <;> omega
        have hij : ((i + j : Nat) : Int) < ((a.length + b.length : Nat) : Int) := by omega
        have hle : i + j + 1 ≤ (addAt o a i j).length := by rw [addAt_len (by omega)]; omega
        simp -dsimp -implicitDefEqProofs only [↓STP, STQ, ne_eq, implies_true, forall_const, if_false, if_true, reduceCtorEq, ↓reduceIte, Nat.reduceEqDiff, Nat.reduceAdd, Int.reduceEq, Int.reduceLT, Int.reduceLE, Int.reduceNeg, Int.reduceAdd, Int.reduceSub, Int.reduceMul, Int.reduceToNat, Nat.reduceMul, Nat.reduceSub, Nat.reduceLT, Nat.reduceLeDiff, Ws_length, wij, eq_true hij, hg2, hget, Nat.mul_one]
        refine bit02 ?_
        simp -dsimp -implicitDefEqProofs only [↓STP, STQ, ne_eq, implies_true, forall_const, if_false, if_true, reduceCtorEq, ↓reduceIte, Nat.reduceEqDiff, Nat.reduceAdd, Int.reduceEq, Int.reduceLT, Int.reduceLE, Int.reduceNeg, Int.reduceAdd, Int.reduceSub, Int.reduceMul, Int.reduceToNat, Nat.reduceMul, Nat.reduceSub, Nat.reduceLT, Nat.reduceLeDiff, Ws_length, wij, eq_true hij, hg2, hget, w1, w2, m1, q1, storeV, Nat.mul_one, hle, wi (show j < 9000000000000000000 by omega)]
        refine ⟨_, ?_, j + 1, _, rfl, by omega, ?_, ?_, ?_, rfl⟩
        · omega
        · exact hnx2
        · rw [get_set, ← addAt_succ (by omega)]
          congr 1
          rw [Ws, Ws, List.map_set]
          rw [List.set_eq_take_append_cons_drop, if_pos (by rw [List.length_map, addAt_len (by omega)]; omega)]
          simp
        · intro t ht; rw [← hold2 t ht]; simp [H.set, upd, Nat.ne_of_lt ht]
      · have hj2 : i + j = a.length + b.length := by omega
        have hij : ¬ ((i + j : Nat) : Int) < ((a.length + b.length : Nat) : Int) := by omega
        simp -dsimp -implicitDefEqProofs only [↓STP, STQ, ne_eq, implies_true, forall_const, if_false, if_true, reduceCtorEq, ↓reduceIte, Nat.reduceEqDiff, Nat.reduceAdd, Int.reduceEq, Int.reduceLT, Int.reduceLE, Int.reduceNeg, Int.reduceAdd, Int.reduceSub, Int.reduceMul, Int.reduceToNat, Nat.reduceMul, Nat.reduceSub, Nat.reduceLT, Nat.reduceLeDiff, Ws_length, wij, eq_false hij, wi1]
        have hlt' := number_take_lt ha1 (fun w hw => hb1 w (List.mem_of_mem_take hw)) (b := b.take (i + 1))
        have hp : 2 ^ (a.length + (b.take (i + 1)).length) ≤ 2 ^ (a.length + b.length) := Nat.pow_le_pow_right (by decide) (by rw [List.length_take]; omega)
        have hsum : number o + 2 ^ i * number a = number a * number (b.take (i + 1)) := by
          rw [hon, hnt, hb1', Nat.mul_one, Nat.mul_add, Nat.mul_comm (2 ^ i)]
        refine ⟨_, ?_, i + 1, h2, addAt o a i j, rfl, by omega, hnx2, hg2, hold2, by rw [addAt_len (by omega)]; exact hol, addAt_bits hob, ?_, rfl⟩
        · omega
        · rw [addAt_number (by omega) (by omega) (by rw [hsum, hol]; omega), hsum]
  · have hil : i = b.length := by omega
    subst hil
    rw [List.take_length] at hon
    simp -dsimp -implicitDefEqProofs only [↓STP, STQ, ne_eq, implies_true, forall_const, if_false, if_true, reduceCtorEq, ↓reduceIte, Nat.reduceEqDiff, Nat.reduceAdd, Int.reduceEq, Int.reduceLT, Int.reduceLE, Int.reduceNeg, Int.reduceAdd, Int.reduceSub, Int.reduceMul, Int.reduceToNat, Nat.reduceMul, Nat.reduceSub, Nat.reduceLT, Nat.reduceLeDiff, Ws_length, Int.lt_irrefl]
    exact hK h1 _ o hol hob hon (.inr ⟨h.next, by omega, by rw [hol], hg⟩) (by omega) hold

end
end Go.Ab.Ytgfnhkedfmnijaa
