/- Rows of bits as numbers: sums, differences, products. -/
import Derived.Test.YtgfnhkedfmnijaaB8
set_option linter.unusedVariables false
set_option linter.unusedSimpArgs false
namespace Go.Ab.Ytgfnhkedfmnijaa

/-- The bits of a sum. -/
def addL (a b : List Nat) : List Nat := (List.range (max a.length b.length)).map (prZ fSum fCarry a b 0) ++ [prS fCarry a b 0 (max a.length b.length)]
/-- The bits of a difference, 0 where it is negative. -/
def subL (a b : List Nat) : List Nat := (List.range a.length).map fun i => prZ fSum fBorrow a b 0 i * (1 - prS fBorrow a b 0 (max a.length b.length))

theorem getD_le {l : List Nat} (hl : ∀ w ∈ l, w ≤ 1) (j : Nat) : l.getD j 0 ≤ 1 := by
  rcases Nat.lt_or_ge j l.length with h | h
  · have := hl _ (List.getElem_mem h)
    simpa [List.getD_eq_getElem?_getD, h] using this
  · rw [List.getD_eq_getElem?_getD, List.getElem?_eq_none h]; decide

theorem prS_le {f : Nat → Nat → Nat → Nat} {a b : List Nat} (hf : ∀ x y c, x ≤ 1 → y ≤ 1 → c ≤ 1 → f x y c ≤ 1) (ha : ∀ w ∈ a, w ≤ 1) (hb : ∀ w ∈ b, w ≤ 1) {l0 : Nat} (h0 : l0 ≤ 1) : ∀ j, prS f a b l0 j ≤ 1
  | 0 => h0
  | j + 1 => hf _ _ _ (getD_le ha j) (getD_le hb j) (prS_le hf ha hb h0 j)

theorem number_append (a b : List Nat) : number (a ++ b) = number a + 2 ^ a.length * number b := by
  induction a with
  | nil => simp [number]
  | cons x a ih =>
    show x + 2 * number (a ++ b) = x + 2 * number a + 2 ^ (a.length + 1) * number b
    rw [ih, Nat.mul_add, ← Nat.mul_assoc, Nat.pow_succ, Nat.mul_comm (2 ^ a.length) 2, Nat.add_assoc]

theorem number_lt {l : List Nat} (hl : ∀ w ∈ l, w ≤ 1) : number l < 2 ^ l.length := by
  induction l with
  | nil => decide
  | cons x l ih =>
    have h1 := ih (fun w hw => hl w (by simp [hw]))
    have h2 := hl x (by simp)
    show x + 2 * number l < 2 ^ (l.length + 1)
    rw [Nat.pow_succ]; omega

theorem number_inj {a b : List Nat} (ha : ∀ w ∈ a, w ≤ 1) (hb : ∀ w ∈ b, w ≤ 1) (hl : a.length = b.length) (hn : number a = number b) : a = b := by
  induction a generalizing b with
  | nil => cases b with
    | nil => rfl
    | cons y b => simp at hl
  | cons x a ih => cases b with
    | nil => simp at hl
    | cons y b =>
      have h1 : x + 2 * number a = y + 2 * number b := hn
      have h2 := ha x (by simp)
      have h3 := hb y (by simp)
      have e1 : x = y := by omega
      have e2 : number a = number b := by omega
      rw [e1, ih (fun w hw => ha w (by simp [hw])) (fun w hw => hb w (by simp [hw])) (by simpa using hl) e2]

theorem number_zeros (n : Nat) : number (List.replicate n 0) = 0 := by
  induction n with
  | zero => rfl
  | succ n ih => rw [List.replicate_succ]; show 0 + 2 * number (List.replicate n 0) = 0; rw [ih]

theorem number_map_mul (l : List Nat) (k : Nat) : number (l.map fun x => x * k) = number l * k := by
  induction l with
  | nil => simp [number]
  | cons x l ih =>
    show x * k + 2 * number (l.map fun x => x * k) = (x + 2 * number l) * k
    rw [ih, Nat.add_mul, Nat.mul_assoc]

/-- Sums with the carry, as far as place 'm'. -/
theorem carry_sum (a b : List Nat) (l0 : Nat) : ∀ m, number ((List.range m).map (prZ fSum fCarry a b l0)) + 2 ^ m * prS fCarry a b l0 m = number ((List.range m).map fun i => a.getD i 0) + number ((List.range m).map fun i => b.getD i 0) + l0
  | 0 => by simp [number, prS]
  | m + 1 => by
    have ih := carry_sum a b l0 m
    rw [List.range_succ, List.map_append, List.map_append, List.map_append]
    simp only [List.map_cons, List.map_nil]
    rw [number_snoc, number_snoc, number_snoc, List.length_map, List.length_map, List.length_map, List.length_range]
    have e1 : prS fCarry a b l0 (m + 1) = (a.getD m 0 + b.getD m 0 + prS fCarry a b l0 m) / 2 := rfl
    have e2 : prZ fSum fCarry a b l0 m = (a.getD m 0 + b.getD m 0 + prS fCarry a b l0 m) % 2 := rfl
    rw [e1, e2, Nat.pow_succ]
    generalize a.getD m 0 = x at *
    generalize b.getD m 0 = y at *
    generalize prS fCarry a b l0 m = c at *
    have h1 : (x + y + c) % 2 + 2 * ((x + y + c) / 2) = x + y + c := Nat.mod_add_div _ 2
    have h2 : 2 ^ m * ((x + y + c) % 2) + 2 ^ m * 2 * ((x + y + c) / 2) = 2 ^ m * x + 2 ^ m * y + 2 ^ m * c := by
      rw [Nat.mul_assoc, ← Nat.mul_add, h1, Nat.mul_add, Nat.mul_add]
    omega

theorem number_range {a : List Nat} {m : Nat} (h : a.length ≤ m) : number ((List.range m).map fun i => a.getD i 0) = number a := by
  have : (List.range m).map (fun i => a.getD i 0) = a ++ List.replicate (m - a.length) 0 := by
    apply List.ext_getElem
    · simp; omega
    · intro i h1 h2
      simp only [List.getElem_map, List.getElem_range]
      rcases Nat.lt_or_ge i a.length with h3 | h3
      · rw [List.getElem_append_left h3]; simp [List.getD_eq_getElem?_getD, h3]
      · rw [List.getElem_append_right h3, List.getD_eq_getElem?_getD, List.getElem?_eq_none h3]; simp
  rw [this, number_append, number_zeros]; omega

theorem addL_number (a b : List Nat) : number (addL a b) = number a + number b := by
  unfold addL
  rw [number_snoc, List.length_map, List.length_range, carry_sum, number_range (by omega), number_range (by omega), Nat.add_zero]
theorem addL_len (a b : List Nat) : (addL a b).length = max a.length b.length + 1 := by simp [addL]
theorem addL_bits {a b : List Nat} (ha : ∀ w ∈ a, w ≤ 1) (hb : ∀ w ∈ b, w ≤ 1) : ∀ w ∈ addL a b, w ≤ 1 := by
  intro w hw
  rcases List.mem_append.1 hw with h | h
  · obtain ⟨i, _, rfl⟩ := List.mem_map.1 h
    show (_ + _ + _) % 2 ≤ 1
    omega
  · simp only [List.mem_singleton] at h; subst h
    exact prS_le (fun x y c h1 h2 h3 => fCarry_le h1 h2 h3) ha hb (by decide) _

theorem borrow_less {a b : List Nat} (ha : ∀ w ∈ a, w ≤ 1) (hb : ∀ w ∈ b, w ≤ 1) : ∀ j, prS fBorrow a b 0 j = prS fLess a b 0 j
  | 0 => rfl
  | j + 1 => by
    have ih := borrow_less ha hb j
    have h1 := getD_le ha j
    have h2 := getD_le hb j
    have h3 := prS_le (f := fLess) (fun x y c h1 h2 h3 => fLess_le h1 h2 h3) ha hb (l0 := 0) (by decide) j
    show fBorrow _ _ (prS fBorrow a b 0 j) = fLess _ _ (prS fLess a b 0 j)
    rw [ih]
    generalize prS fLess a b 0 j = c at *
    unfold fBorrow fLess
    split <;> split <;> omega

end Go.Ab.Ytgfnhkedfmnijaa
