import Derived.Test.YtihmoaibgmhjeaaDoorEnv
import Derived.Test.YtihmoaibgmhjeaaDoorAb29
import Derived.Test.YtihmoaibgmhjeaaDoorAb34
set_option linter.unusedVariables false
set_option linter.unusedSimpArgs false
namespace Go.Ab
def blen (n : Nat) : Nat := if n = 0 then 0 else 1 + blen (n / 2)
decreasing_by omega
theorem blen_zero : blen 0 = 0 := by rw [blen, if_pos rfl]
theorem blen_pos {n : Nat} (h : n ≠ 0) : blen n = 1 + blen (n / 2) := by rw [blen, if_neg h]
theorem blen_le : ∀ {k n : Nat}, blen n ≤ k ↔ n < 2 ^ k
 | k, n => by
  induction k generalizing n with
  | zero =>
   by_cases h : n = 0
   ·subst h; simp [blen_zero]
   ·rw [blen_pos h]; simp; omega
  | succ k ih =>
   by_cases h : n = 0
   ·subst h; rw [blen_zero]; exact ⟨fun _ => Nat.two_pow_pos _, fun _ => by omega⟩
   ·rw [blen_pos h]
    have := ih (n := n / 2)
    rw [Nat.pow_succ]
    constructor
    ·intro h1; have := this.1 (by omega); omega
    ·intro h1; have := this.2 (by omega); omega
theorem blen_shift {n : Nat} : ∀ k, 2 ^ k ≤ n → blen n = k + blen (n / 2 ^ k)
 | 0, _ => by simp
 | k + 1, h => by
  rw [Nat.pow_succ] at h
  have hp := Nat.two_pow_pos k
  rw [blen_shift k (by omega), Nat.pow_succ, ← Nat.div_div_eq_div_mul, blen_pos (n := n / 2 ^ k)]
  ·omega
  ·have : 1 ≤ n / 2 ^ k := (Nat.le_div_iff_mul_le hp).2 (by omega)
   omega
theorem blen_64 {n : Nat} (h : n < 18446744073709551616) : blen n ≤ 64 := blen_le.2 (by omega)
theorem maxV_two {k k' : IntKind} {x y : Int} : maxV (.int k x) [.int k' y] = some (.int k (if y > x then y else x)) := rfl
theorem minV_two {k k' : IntKind} {x y : Int} : minV (.int k x) [.int k' y] = some (.int k (if y < x then y else x)) := rfl
namespace YtihmoaibgmhjeaaDoor
theorem blen_tab : ∀ n : Fin 256, bytes0.data.toList[n.1]? = some (UInt8.ofNat (blen n.1)) := by decide +kernel
section
variable {h : H} {K : Out → H → Prop} {n : Nat}
theorem fdivN {a b : Nat} : Int.fdiv (a : Int) (b : Int) = ((a / b : Nat) : Int) := by
 rw [Int.fdiv_eq_ediv_of_nonneg _ (by omega)]; rfl
theorem tab {n : Nat} (h : n < 256) : bytes0.data.toList[n]? = some (UInt8.ofNat (blen n)) := blen_tab ⟨n, h⟩
theorem u8b {n : Nat} (h : n < 256) : (UInt8.ofNat (blen n)).toNat = blen n := by
 have : blen n ≤ 8 := blen_le.2 (by omega)
 rw [UInt8.toNat_ofNat']; omega
theorem len64_full (hn : n < 18446744073709551616) (hK : K (.ret (I (blen n))) h) : R 90 [W n] h K := by
 refine run90 (Nat.le_of_ble_eq_true rfl) ?_
 have f1 : ∀ a : Nat, Int.fdiv (a : Int) (2 ^ (min 32 IntKind.u64.bits)) = ((a / 4294967296 : Nat) : Int) := fun a => fdivN
 have f2 : ∀ a : Nat, Int.fdiv (a : Int) (2 ^ (min 16 IntKind.u64.bits)) = ((a / 65536 : Nat) : Int) := fun a => fdivN
 have f3 : ∀ a : Nat, Int.fdiv (a : Int) (2 ^ (min 8 IntKind.u64.bits)) = ((a / 256 : Nat) : Int) := fun a => fdivN
 have wi : ∀ n : Int, 0 ≤ n → n ≤ 100 → IntKind.i64.wrap n = n := fun n h0 h1 => wrap_i64 (by omega) (by omega)
 have go : ∀ {a c : Nat}, a < 256 → blen n = c + blen a → c ≤ 56 → K (.ret (I (IntKind.i64.wrap ((c : Int) + IntKind.i64.wrap ((UInt8.ofNat (blen a)).toNat : Nat))))) h := fun {a c} h1 h2 h3 => by
  have : blen a ≤ 8 := blen_le.2 (by omega)
  rw [u8b h1, wi (blen a : Nat) (by omega) (by omega), wi _ (by omega) (by omega)]
  rw [h2] at hK
  exact hK
 have u8 : ∀ {a : Nat}, a < 256 → IntKind.u8.wrap (a : Int) = (a : Int) := fun {a} h => by rw [wrap_u8]; omega
 by_cases a : (4294967296 : Int) ≤ (n : Int)
 ·by_cases b : (65536 : Int) ≤ ((n / 4294967296) : Nat)
  ·by_cases c : (256 : Int) ≤ (((n / 4294967296) / 65536) : Nat)
   ·have hl : (((n / 4294967296) / 65536) / 256) < 256 := by omega
    have hb : blen n = 56 + blen (((n / 4294967296) / 65536) / 256) := by
     have := blen_shift (n := n) 32 (by omega)
     have := blen_shift (n := (n / 4294967296)) 16 (by omega)
     have := blen_shift (n := ((n / 4294967296) / 65536)) 8 (by omega)
     try simp only [Nat.reducePow] at *
     omega
    simp -dsimp -implicitDefEqProofs only [↓STP, STQ, seval, ir90, eq_true a, eq_true b, eq_true c, f1, f2, f3, u8 hl, tab hl, wi 8 (by omega) (by omega), wi 16 (by omega) (by omega), wi 24 (by omega) (by omega), wi 40 (by omega) (by omega), wi 48 (by omega) (by omega), wi 56 (by omega) (by omega)]
    exact go (c := 56) hl hb (by decide)
   ·have hl : ((n / 4294967296) / 65536) < 256 := by omega
    have hb : blen n = 48 + blen ((n / 4294967296) / 65536) := by
     have := blen_shift (n := n) 32 (by omega)
     have := blen_shift (n := (n / 4294967296)) 16 (by omega)
     try simp only [Nat.reducePow] at *
     omega
    simp -dsimp -implicitDefEqProofs only [↓STP, STQ, seval, ir90, eq_true a, eq_true b, eq_false c, f1, f2, f3, u8 hl, tab hl, wi 8 (by omega) (by omega), wi 16 (by omega) (by omega), wi 24 (by omega) (by omega), wi 40 (by omega) (by omega), wi 48 (by omega) (by omega), wi 56 (by omega) (by omega)]
    exact go (c := 48) hl hb (by decide)
  ·by_cases c : (256 : Int) ≤ ((n / 4294967296) : Nat)
   ·have hl : ((n / 4294967296) / 256) < 256 := by omega
    have hb : blen n = 40 + blen ((n / 4294967296) / 256) := by
     have := blen_shift (n := n) 32 (by omega)
     have := blen_shift (n := (n / 4294967296)) 8 (by omega)
     try simp only [Nat.reducePow] at *
     omega
    simp -dsimp -implicitDefEqProofs only [↓STP, STQ, seval, ir90, eq_true a, eq_false b, eq_true c, f1, f2, f3, u8 hl, tab hl, wi 8 (by omega) (by omega), wi 16 (by omega) (by omega), wi 24 (by omega) (by omega), wi 40 (by omega) (by omega), wi 48 (by omega) (by omega), wi 56 (by omega) (by omega)]
    exact go (c := 40) hl hb (by decide)
   ·have hl : (n / 4294967296) < 256 := by omega
    have hb : blen n = 32 + blen (n / 4294967296) := by
     have := blen_shift (n := n) 32 (by omega)
     try simp only [Nat.reducePow] at *
     omega
    simp -dsimp -implicitDefEqProofs only [↓STP, STQ, seval, ir90, eq_true a, eq_false b, eq_false c, f1, f2, f3, u8 hl, tab hl, wi 8 (by omega) (by omega), wi 16 (by omega) (by omega), wi 24 (by omega) (by omega), wi 40 (by omega) (by omega), wi 48 (by omega) (by omega), wi 56 (by omega) (by omega)]
    exact go (c := 32) hl hb (by decide)
 ·by_cases b : (65536 : Int) ≤ (n : Nat)
  ·by_cases c : (256 : Int) ≤ ((n / 65536) : Nat)
   ·have hl : ((n / 65536) / 256) < 256 := by omega
    have hb : blen n = 24 + blen ((n / 65536) / 256) := by
     have := blen_shift (n := n) 16 (by omega)
     have := blen_shift (n := (n / 65536)) 8 (by omega)
     try simp only [Nat.reducePow] at *
     omega
    simp -dsimp -implicitDefEqProofs only [↓STP, STQ, seval, ir90, eq_false a, eq_true b, eq_true c, f1, f2, f3, u8 hl, tab hl, wi 8 (by omega) (by omega), wi 16 (by omega) (by omega), wi 24 (by omega) (by omega), wi 40 (by omega) (by omega), wi 48 (by omega) (by omega), wi 56 (by omega) (by omega)]
    exact go (c := 24) hl hb (by decide)
   ·have hl : (n / 65536) < 256 := by omega
    have hb : blen n = 16 + blen (n / 65536) := by
     have := blen_shift (n := n) 16 (by omega)
     try simp only [Nat.reducePow] at *
     omega
    simp -dsimp -implicitDefEqProofs only [↓STP, STQ, seval, ir90, eq_false a, eq_true b, eq_false c, f1, f2, f3, u8 hl, tab hl, wi 8 (by omega) (by omega), wi 16 (by omega) (by omega), wi 24 (by omega) (by omega), wi 40 (by omega) (by omega), wi 48 (by omega) (by omega), wi 56 (by omega) (by omega)]
    exact go (c := 16) hl hb (by decide)
  ·by_cases c : (256 : Int) ≤ (n : Nat)
   ·have hl : (n / 256) < 256 := by omega
    have hb : blen n = 8 + blen (n / 256) := by
     have := blen_shift (n := n) 8 (by omega)
     try simp only [Nat.reducePow] at *
     omega
    simp -dsimp -implicitDefEqProofs only [↓STP, STQ, seval, ir90, eq_false a, eq_false b, eq_true c, f1, f2, f3, u8 hl, tab hl, wi 8 (by omega) (by omega), wi 16 (by omega) (by omega), wi 24 (by omega) (by omega), wi 40 (by omega) (by omega), wi 48 (by omega) (by omega), wi 56 (by omega) (by omega)]
    exact go (c := 8) hl hb (by decide)
   ·have hl : n < 256 := by omega
    have hb : blen n = 0 + blen n := by
     try simp only [Nat.reducePow] at *
     omega
    simp -dsimp -implicitDefEqProofs only [↓STP, STQ, seval, ir90, eq_false a, eq_false b, eq_false c, f1, f2, f3, u8 hl, tab hl, wi 8 (by omega) (by omega), wi 16 (by omega) (by omega), wi 24 (by omega) (by omega), wi 40 (by omega) (by omega), wi 48 (by omega) (by omega), wi 56 (by omega) (by omega)]
    exact go (c := 0) hl hb (by decide)
theorem width_full (hn : n < 18446744073709551616) (hK : K (.ret (I (max (blen n) 1 : Nat))) h) : R 87 [W n] h K := by
 refine run87 (Nat.le_of_ble_eq_true rfl) ?_
 simp -dsimp -implicitDefEqProofs only [↓STP, STQ, seval, ir87]
 refine len64_full hn ?_
 simp -dsimp -implicitDefEqProofs only [↓STP, STQ, seval, maxV_two]
 rw [show (if (1 : Int) > (blen n : Nat) then (1 : Int) else (blen n : Nat)) = ((max (blen n) 1 : Nat) : Int) by split <;> omega]
 exact hK
end
end YtihmoaibgmhjeaaDoor
end Go.Ab
