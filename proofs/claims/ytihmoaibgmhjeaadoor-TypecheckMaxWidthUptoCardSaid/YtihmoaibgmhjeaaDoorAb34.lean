import Derived.Test.YtihmoaibgmhjeaaDoorAb33
set_option linter.unusedVariables false
set_option linter.unusedSimpArgs false
namespace Go.Ab
theorem fdiv_pow {x m : Nat} : Int.fdiv (x : Int) (2 ^ m) = ((x / 2 ^ m : Nat) : Int) := by
 have : ((2 : Int) ^ m) = ((2 ^ m : Nat) : Int) := by simp
 rw [this, Int.fdiv_eq_ediv_of_nonneg _ (Int.natCast_nonneg _)]
 rfl
theorem bits_and {a b : Nat} (ha : a < 18446744073709551616) (hb : b < 18446744073709551616) : bits2 .and .u64 (a : Int) (b : Int) = some (W (a &&& b)) := by
 have h1 : a &&& b < 2 ^ 64 := Nat.and_lt_two_pow a (show b < 2 ^ 64 from hb)
 have h2 : a < 2 ^ 64 := ha
 have h3 : b < 2 ^ 64 := hb
 have h0 : bits2 .and .u64 (a : Int) (b : Int) = some (.int .u64 (IntKind.u64.wrap ((BitVec.ofInt 64 (a : Int) &&& BitVec.ofInt 64 (b : Int)).toNat : Nat))) := rfl
 rw [h0, BitVec.ofInt_natCast, BitVec.ofInt_natCast, BitVec.toNat_and, BitVec.toNat_ofNat, BitVec.toNat_ofNat, Nat.mod_eq_of_lt h2, Nat.mod_eq_of_lt h3, wrap_u64_self (by omega) (by omega)]
theorem bits_or {a b : Nat} (ha : a < 18446744073709551616) (hb : b < 18446744073709551616) : bits2 .or .u64 (a : Int) (b : Int) = some (W (a ||| b)) := by
 have h2 : a < 2 ^ 64 := ha
 have h3 : b < 2 ^ 64 := hb
 have h1 : a ||| b < 2 ^ 64 := Nat.or_lt_two_pow h2 h3
 have h0 : bits2 .or .u64 (a : Int) (b : Int) = some (.int .u64 (IntKind.u64.wrap ((BitVec.ofInt 64 (a : Int) ||| BitVec.ofInt 64 (b : Int)).toNat : Nat))) := rfl
 rw [h0, BitVec.ofInt_natCast, BitVec.ofInt_natCast, BitVec.toNat_or, BitVec.toNat_ofNat, BitVec.toNat_ofNat, Nat.mod_eq_of_lt h2, Nat.mod_eq_of_lt h3, wrap_u64_self (by omega) (by omega)]
theorem bits_xor {a b : Nat} (ha : a < 18446744073709551616) (hb : b < 18446744073709551616) : bits2 .xor .u64 (a : Int) (b : Int) = some (W (a ^^^ b)) := by
 have h2 : a < 2 ^ 64 := ha
 have h3 : b < 2 ^ 64 := hb
 have h1 : a ^^^ b < 2 ^ 64 := Nat.xor_lt_two_pow h2 h3
 have h0 : bits2 .xor .u64 (a : Int) (b : Int) = some (.int .u64 (IntKind.u64.wrap ((BitVec.ofInt 64 (a : Int) ^^^ BitVec.ofInt 64 (b : Int)).toNat : Nat))) := rfl
 rw [h0, BitVec.ofInt_natCast, BitVec.ofInt_natCast, BitVec.toNat_xor, BitVec.toNat_ofNat, BitVec.toNat_ofNat, Nat.mod_eq_of_lt h2, Nat.mod_eq_of_lt h3, wrap_u64_self (by omega) (by omega)]
theorem and_pred {a q : Nat} : a &&& (2 ^ q - 1) = a % 2 ^ q := Nat.and_two_pow_sub_one_eq_mod a q
theorem or_add {a b i : Nat} (h : a < 2 ^ i) : a ||| (2 ^ i * b) = a + 2 ^ i * b := by
 rw [Nat.or_comm, ← Nat.two_pow_add_eq_or_of_lt h b, Nat.add_comm]
theorem app_w_full {st : S} {s : Nat} {a : List Nat} {x : Nat} {c2 : Cap} (ha : a.length < 4294967296) : appV st s (.vec (Ws a) .full) (.vec [.int .u64 (x : Int)] c2) 1 8 false false = some (.vec (Ws (a ++ [x])) (.own s), st) := by
 rw [app1_full Ws_cells rfl (by decide) (by decide) (by rw [Ws_length]; exact ha), Ws_append]; rfl
theorem app_w_own {st : S} {s s' : Nat} {a : List Nat} {x : Nat} {c2 : Cap} (hs : s' ∉ st.u) (ha : a.length < 4294967296) : appV st s (.vec (Ws a) (.own s')) (.vec [.int .u64 (x : Int)] c2) 1 8 false false = some (.vec (Ws (a ++ [x])) (.own s), { st with u := s' :: st.u }) := by
 rw [app1_own hs Ws_cells rfl (by decide) (by decide) (by rw [Ws_length]; exact ha), Ws_append]; rfl
theorem slc_take {xs : List V} {c : Cap} {i sz : Nat} {k : IntKind} (hi : i ≤ xs.length) (hc : c ≠ .full) : slcV (.vec xs c) none (some (.int k (i : Int))) none sz = some (.vec (xs.take i) .any) := by
 simp only [slcV, bound]
 rw [if_pos ⟨Int.natCast_nonneg i, by omega⟩]
 simp [hc]
theorem slc_drop {xs : List V} {c : Cap} {i sz : Nat} {k : IntKind} (hi : i ≤ xs.length) (hz : ∀ e ∈ xs, e.cells.length = sz) (hc : c ≠ .full) : slcV (.vec xs c) (some (.int k (i : Int))) none none sz = some (.vec (xs.drop i) .any) := by
 simp only [slcV, bound]
 rw [if_pos ⟨Int.natCast_nonneg i, by omega⟩]
 simp only [Int.toNat_natCast]
 rw [if_pos (.inr hz), List.take_length]
 simp [hc]
theorem slc_part {xs : List V} {c : Cap} {i j sz : Nat} {k k' : IntKind} (hi : i ≤ j) (hj : j ≤ xs.length) (hz : ∀ e ∈ xs, e.cells.length = sz) (hc : c ≠ .full) : slcV (.vec xs c) (some (.int k (i : Int))) (some (.int k' (j : Int))) none sz = some (.vec ((xs.take j).drop i) .any) := by
 simp only [slcV, bound]
 rw [if_pos ⟨Int.natCast_nonneg j, by omega⟩]
 simp only [Int.toNat_natCast]
 rw [if_pos ⟨Int.natCast_nonneg i, by omega⟩]
 simp only [Int.toNat_natCast]
 rw [if_pos (.inr hz)]
 simp [hc]
theorem over_one {cs : List V} {i : Nat} {v : V} (hi : i < cs.length) : over cs i [v] = cs.set i v := by
 unfold over
 rw [List.set_eq_take_append_cons_drop, if_pos hi]
 simp
def tab (n : Nat) (f : Nat → V) : List V := (List.range n).map f
theorem tab_len {n : Nat} {f : Nat → V} : (tab n f).length = n := by simp [tab]
theorem tab_get {n i : Nat} {f : Nat → V} (hi : i < n) : (tab n f)[i]? = some (f i) := by simp [tab, hi]
theorem tab_set {n i : Nat} {f g : Nat → V} {v : V} (h1 : ∀ j, j < n → j ≠ i → g j = f j) (h2 : i < n → g i = v) : (tab n f).set i v = tab n g := by
 apply List.ext_getElem?
 intro j
 rw [List.getElem?_set]
 by_cases hj : j < n
 ·by_cases hij : i = j
  ·subst hij
   rw [if_pos rfl, tab_len, if_pos hj, tab_get hj, h2 hj]
  ·rw [if_neg hij, tab_get hj, tab_get hj, h1 j hj (Ne.symm hij)]
 ·by_cases hij : i = j
  ·subst hij
   rw [if_pos rfl, tab_len, if_neg hj, List.getElem?_eq_none (by rw [tab_len]; omega)]
  ·rw [if_neg hij, List.getElem?_eq_none (by rw [tab_len]; omega), List.getElem?_eq_none (by rw [tab_len]; omega)]
theorem tab_const {n : Nat} {v : V} : (List.replicate n [v]).flatten = tab n (fun _ => v) := by
 induction n with
 | zero => rfl
 | succ n ih =>
  rw [List.replicate_succ, List.flatten_cons, ih]
  simp only [tab, List.range_succ_eq_map, List.map_cons, List.map_map, List.singleton_append]
  rfl
def Supp (p q : Nat) : Prop := (p = 31 ∧ q = 5) ∨ (p = 127 ∧ q = 7) ∨ (p = 8191 ∧ q = 13) ∨ (p = 131071 ∧ q = 17) ∨ (p = 524287 ∧ q = 19) ∨ (p = 2147483647 ∧ q = 31) ∨ (p = 2305843009213693951 ∧ q = 61)
theorem Supp.eq {p q : Nat} (h : Supp p q) : p = 2 ^ q - 1 ∧ 5 ≤ q ∧ q ≤ 61 ∧ p < 18446744073709551616 := by
 rcases h with ⟨rfl, rfl⟩ | ⟨rfl, rfl⟩ | ⟨rfl, rfl⟩ | ⟨rfl, rfl⟩ | ⟨rfl, rfl⟩ | ⟨rfl, rfl⟩ | ⟨rfl, rfl⟩ <;> decide
theorem fold_round {p q hi lo : Nat} (hs : Supp p q) (hh : hi < 18446744073709551616) (hl : lo < 18446744073709551616) (hc : hi ≠ 0 ∨ p < lo) :
  ∃ a b c d : Nat, a = lo % 2 ^ q ∧ b = lo / 2 ^ q + hi * 2 ^ (64 - q) % 18446744073709551616 ∧ c = (b + a) % 18446744073709551616 ∧ d = hi / 2 ^ q + (b + a) / 18446744073709551616 ∧ b < 18446744073709551616 ∧ lo / 2 ^ q < 2 ^ (64 - q) ∧ d < 18446744073709551616 ∧
   d * 18446744073709551616 + c < hi * 18446744073709551616 + lo ∧ (d * 18446744073709551616 + c) % p = (hi * 18446744073709551616 + lo) % p := by
 suffices H : ∃ a b c d : Nat, a = lo % 2 ^ q ∧ b = lo / 2 ^ q + hi * 2 ^ (64 - q) % 18446744073709551616 ∧ c = (b + a) % 18446744073709551616 ∧ d = hi / 2 ^ q + (b + a) / 18446744073709551616 ∧ b < 18446744073709551616 ∧ lo / 2 ^ q < 2 ^ (64 - q) ∧ d < 18446744073709551616 ∧
   d * 18446744073709551616 + c < hi * 18446744073709551616 + lo ∧ (hi * 18446744073709551616 + lo) = d * 18446744073709551616 + c + p * (hi * 2 ^ (64 - q) + lo / 2 ^ q) by
  obtain ⟨a, b, c, d, h1, h2, h3, h4, h5, h6, h7, h8, h9⟩ := H
  exact ⟨a, b, c, d, h1, h2, h3, h4, h5, h6, h7, h8, by rw [h9, Nat.add_mul_mod_self_left]⟩
 rcases hs with ⟨rfl, rfl⟩ | ⟨rfl, rfl⟩ | ⟨rfl, rfl⟩ | ⟨rfl, rfl⟩ | ⟨rfl, rfl⟩ | ⟨rfl, rfl⟩ | ⟨rfl, rfl⟩
 all_goals
  refine ⟨_, _, _, _, rfl, rfl, rfl, rfl, ?_, ?_, ?_, ?_, ?_⟩ <;> simp only [Nat.reducePow, Nat.reduceSub] <;> omega
end Go.Ab
