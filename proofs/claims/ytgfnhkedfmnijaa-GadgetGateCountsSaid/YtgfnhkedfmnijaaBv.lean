/- Bits as numbers of a field. -/
import Derived.Test.YtgfnhkedfmnijaaAb34
set_option linter.unusedVariables false
set_option linter.unusedSimpArgs false
namespace Go.Ab.Ytgfnhkedfmnijaa

section
variable {p : Nat}

theorem not_val {b : Bool} (hp : 2 < p) : (1 + p - b.toNat) % p = 1 - b.toNat := by
  cases b with
  | true => simp
  | false => show (1 + p) % p = 1; rw [Nat.add_mod_right, Nat.mod_eq_of_lt (by omega)]
theorem and_val {a b : Bool} (hp : 2 < p) : a.toNat * b.toNat % p = a.toNat * b.toNat := by
  apply Nat.mod_eq_of_lt
  cases a <;> cases b <;> simp <;> omega
theorem or_val {a b : Bool} (hp : 2 < p) : ((a.toNat + b.toNat) % p + p - a.toNat * b.toNat % p) % p = a.toNat + b.toNat - a.toNat * b.toNat := by
  rw [and_val hp]
  cases a <;> cases b
  · simp
  · show (1 % p + p - 0) % p = 1; rw [Nat.mod_eq_of_lt (show 1 < p by omega), Nat.sub_zero, Nat.add_mod_right, Nat.mod_eq_of_lt (by omega)]
  · show (1 % p + p - 0) % p = 1; rw [Nat.mod_eq_of_lt (show 1 < p by omega), Nat.sub_zero, Nat.add_mod_right, Nat.mod_eq_of_lt (by omega)]
  · show (2 % p + p - 1) % p = 1; rw [Nat.mod_eq_of_lt hp, show 2 + p - 1 = 1 + p by omega, Nat.add_mod_right, Nat.mod_eq_of_lt (by omega)]
theorem xor_val {a b : Bool} (hp : 2 < p) : ((a.toNat + b.toNat) % p + p - 2 % p * (a.toNat * b.toNat % p) % p) % p = a.toNat + b.toNat - 2 * a.toNat * b.toNat := by
  rw [and_val hp, Nat.mod_eq_of_lt hp]
  cases a <;> cases b
  · simp
  · show (1 % p + p - 0 % p) % p = 1; rw [Nat.mod_eq_of_lt (show 1 < p by omega), Nat.zero_mod, Nat.sub_zero, Nat.add_mod_right, Nat.mod_eq_of_lt (by omega)]
  · show (1 % p + p - 0 % p) % p = 1; rw [Nat.mod_eq_of_lt (show 1 < p by omega), Nat.zero_mod, Nat.sub_zero, Nat.add_mod_right, Nat.mod_eq_of_lt (by omega)]
  · show (2 % p + p - 2 % p) % p = 0; rw [Nat.mod_eq_of_lt hp, Nat.add_sub_cancel_left, Nat.mod_self]
theorem sel_val {c : Bool} {x y : Nat} (hp : 2 < p) (hx : x < p) (hy : y < p) : (y + c.toNat * ((x + p - y) % p) % p) % p = if c.toNat = 1 then x else y := by
  cases c with
  | false => show (y + 0 * _ % p) % p = y; rw [Nat.zero_mul, Nat.zero_mod, Nat.add_zero, Nat.mod_eq_of_lt hy]
  | true =>
    show (y + 1 * ((x + p - y) % p) % p) % p = x
    rw [Nat.one_mul, Nat.mod_mod, Nat.add_mod, Nat.mod_mod, ← Nat.add_mod, show y + (x + p - y) = x + p by omega, Nat.add_mod_right, Nat.mod_eq_of_lt hx]

end
end Go.Ab.Ytgfnhkedfmnijaa
