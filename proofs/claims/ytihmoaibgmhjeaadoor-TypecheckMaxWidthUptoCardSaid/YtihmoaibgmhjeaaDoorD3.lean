import Derived.Test.YtihmoaibgmhjeaaDoorD2
set_option linter.unusedVariables false
set_option linter.unusedSimpArgs false
namespace Go.Ab
theorem inV_cells {d : InD} : d.v = .agg [.str d.name, I d.frm, I d.width, I d.size] := rfl
theorem kn_cells {k : Kn} : k.v = .agg [I k.kind, I k.w, .bool k.is, W k.val] := rfl
theorem getD_none {v : V} : (none : Option V).getD v = v := rfl
theorem getD_some {u v : V} : (some u).getD v = u := rfl
theorem map_none' {α : Type} {f : α → V} : (none : Option α).map f = none := rfl
theorem map_some' {α : Type} {f : α → V} {a : α} : (some a).map f = some (f a) := rfl
theorem isSome_none' {α : Type} : (none : Option α).isSome = false := rfl
theorem isSome_some' {α : Type} {a : α} : (some a).isSome = true := rfl
theorem wid_pos (n : Nat) : 1 ≤ wid n := by unfold wid; omega
theorem wid_le {n k : Nat} (h : n < 2 ^ k) (hk : 1 ≤ k) : wid n ≤ k := by
 have := (blen_le (k := k)).2 h
 unfold wid; omega
theorem lt_wid (n : Nat) : n < 2 ^ wid n := by
 have h : n < 2 ^ blen n := blen_le.1 (Nat.le_refl _)
 exact Nat.lt_of_lt_of_le h (Nat.pow_le_pow_right (by decide) (by unfold wid; omega))
theorem KOk_con {n : Nat} (h : n < 1152921504606846976) : KOk (kcon n) := ⟨.inl rfl, wid_le (k := 60) (by omega) (by decide), lt_wid n, fun h => absurd (show (1 : Int) = 2 from h) (by decide), fun h => absurd (show true = false from h) (by decide)⟩
theorem KOk_num {w : Nat} (h : w ≤ 60) : KOk (knum w) := ⟨.inl rfl, h, Nat.two_pow_pos _, fun h => absurd (show (1 : Int) = 2 from h) (by decide), fun _ => rfl⟩
theorem KOk_boo : KOk kboo := ⟨.inr rfl, by decide, by decide, fun _ => ⟨rfl, rfl⟩, fun _ => rfl⟩
theorem KOk.lt {k : Kn} (h : KOk k) : k.val < 1152921504606846976 := Nat.lt_of_lt_of_le h.val (Nat.le_trans (Nat.pow_le_pow_right (by decide) h.w) (by decide))
namespace YtihmoaibgmhjeaaDoor
section
variable {h : H} {K : Out → H → Prop} {p : Prg} {L : Lk} {σ : TS}
def wrongV (e : Int) : V := .iface 74 (.agg [I e])
theorem failG {e : Int} (hK : K (.pan (wrongV e)) h) : R 36 [I e] h K := by
 refine run36 (Nat.le_of_ble_eq_true rfl) ?_
 simp -dsimp -implicitDefEqProofs only [↓STP, STQ, seval, ir36]
 rw [opT_pan (t := 74) (v := .agg [I e]) rfl]
 exact hK
theorem numberG {w : Nat} (hK : K (.ret (knum w).v) h) : R 88 [I w] h K := by
 refine run88 (Nat.le_of_ble_eq_true rfl) ?_
 simp -dsimp -implicitDefEqProofs only [↓STP, STQ, seval, ir88, storeV]
 exact hK
theorem constantG {n : Nat} (hn : n < 18446744073709551616) (hK : K (.ret (kcon n).v) h) : R 75 [W n] h K := by
 refine run75 (Nat.le_of_ble_eq_true rfl) ?_
 simp -dsimp -implicitDefEqProofs only [↓STP, STQ, seval, ir75]
 refine width_full hn ?_
 simp -dsimp -implicitDefEqProofs only [↓STP, STQ, seval, storeV]
 exact hK
theorem mustG {k : Kn} {t : Int} (h1 : k.kind = t → K (.ret (.tuple [])) h) (h2 : k.kind ≠ t → K (.pan (wrongV 5)) h) : R 56 [k.v, I t] h K := by
 refine run56 (Nat.le_of_ble_eq_true rfl) ?_
 by_cases c : k.kind = t
 ·simp -dsimp -implicitDefEqProofs only [↓STP, STQ, seval, ir56, kn_cells, eq_true c]
  exact h1 c
 ·simp -dsimp -implicitDefEqProofs only [↓STP, STQ, seval, ir56, kn_cells, eq_false c]
  refine failG ?_
  simp -dsimp -implicitDefEqProofs only [↓STP, STQ, seval]
  exact h2 c
theorem placeG {k : Kn} {size : Int} (hs : 0 ≤ size) (hs2 : size ≤ 9223372036854775807) (hv : k.val < 1152921504606846976) (hK : Ans (placeT k size) (fun n => K (.ret (I n)) h) (fun e => K (.pan (wrongV e)) h)) : R 55 [k.v, I size] h K := by
 refine run55 (Nat.le_of_ble_eq_true rfl) ?_
 have w1 : IntKind.u64.wrap size = size := wrap_u64_self hs (by omega)
 have w2 : IntKind.i64.wrap (k.val : Int) = (k.val : Int) := wrap_i64 (by omega) (by omega)
 unfold placeT at hK
 by_cases c : k.kind = 1
 ·cases ci : k.is with
  | false =>
   rw [if_pos (.inr ci)] at hK
   simp -dsimp -implicitDefEqProofs only [↓STP, STQ, seval, ir55, kn_cells, eq_true c, ci]
   refine failG ?_
   simp -dsimp -implicitDefEqProofs only [↓STP, STQ, seval]
   exact hK
  | true =>
   rw [if_neg (by simp [c, ci])] at hK
   by_cases cs : size ≤ (k.val : Int)
   ·rw [if_pos cs] at hK
    simp -dsimp -implicitDefEqProofs only [↓STP, STQ, seval, ir55, kn_cells, eq_true c, ci, w1, eq_true cs]
    refine failG ?_
    simp -dsimp -implicitDefEqProofs only [↓STP, STQ, seval]
    exact hK
   ·rw [if_neg cs] at hK
    simp -dsimp -implicitDefEqProofs only [↓STP, STQ, seval, ir55, kn_cells, eq_true c, ci, w1, eq_false cs, w2]
    exact hK
 ·rw [if_pos (.inl c)] at hK
  simp -dsimp -implicitDefEqProofs only [↓STP, STQ, seval, ir55, kn_cells, eq_false c]
  refine failG ?_
  simp -dsimp -implicitDefEqProofs only [↓STP, STQ, seval]
  exact hK
theorem takenG {s : ByteArray} (A : At p L σ h) (hK : K (.ret (.bool (takenT p σ.env s))) h) : R 35 [.ptr L.x 0, .str s] h K := by
 refine run35 (Nat.le_of_ble_eq_true rfl) ?_
 obtain ⟨v1, i1⟩ := A.i
 obtain ⟨v2, i2⟩ := A.s
 obtain ⟨v3, i3⟩ := A.l
 have gx := get_of A.x
 unfold takenT at hK
 rw [← findL_ins] at hK
 have e2 : (findL s (arsL p)).isSome = (arOf p s).isSome := by rw [findL_ars]; cases arOf p s <;> rfl
 rw [← e2] at hK
 cases c1 : findL s (insL p) <;> cases c2 : findL s (arsL p) <;> cases c3 : findL s σ.env.loops <;> rw [c1, c2, c3] at hK <;>
  (simp -dsimp -implicitDefEqProofs only [↓STP, STQ, seval, ir35, gx, Lk.cs, lkp_two i1, lkp_two i2, lkp_two i3, c1, c2, c3, getD_none, getD_some, map_none', map_some', isSome_none', isSome_some', inV_cells, intV, conV, kn_cells, storeV]; exact hK)
theorem stepG (A : At p L σ h) (hs : σ.steps ≤ 10000) (hK : Ans (stepT σ) (fun σ' => ∀ h', At p L σ' h' → Fr L L h h' → K (.ret (.tuple [])) h') (fun e => K (.pan (wrongV e)) h)) : R 47 [.ptr L.x 0] h K := by
 refine run47 (Nat.le_of_ble_eq_true rfl) ?_
 have gx := get_of A.x
 unfold stepT at hK
 by_cases c : 10000 ≤ σ.steps
 ·have c' : (10000 : Int) ≤ (σ.steps : Int) := by omega
  rw [if_pos c] at hK
  simp -dsimp -implicitDefEqProofs only [↓STP, STQ, seval, ir47, gx, Lk.cs, eq_true c']
  refine failG ?_
  simp -dsimp -implicitDefEqProofs only [↓STP, STQ, seval]
  exact hK
 ·have c' : ¬ (10000 : Int) ≤ (σ.steps : Int) := by omega
  rw [if_neg c] at hK
  have w1 : IntKind.i64.wrap ((σ.steps : Int) + 1) = ((σ.steps + 1 : Nat) : Int) := by rw [wrap_i64] <;> omega
  simp -dsimp -implicitDefEqProofs only [↓STP, STQ, seval, ir47, gx, Lk.cs, eq_false c', w1, storeV]
  obtain ⟨A', F⟩ := A.count { σ with steps := σ.steps + 1 } rfl
  exact hK _ A' F
theorem toldG {k : Kn} (A : At p L σ h) (hw : k.w ≤ 1000) (hm : σ.most ≤ 60) (hK : Ans (toldT σ.most k) (fun r => ∀ h', At p L { σ with most := r.2 } h' → Fr L L h h' → K (.ret r.1.v) h') (fun e => K (.pan (wrongV e)) h)) : R 76 [.ptr L.x 0, k.v] h K := by
 refine run76 (Nat.le_of_ble_eq_true rfl) ?_
 have gx := get_of A.x
 unfold toldT at hK
 by_cases c : k.kind = 1
 ·rw [if_pos c] at hK
  by_cases d : 60 < k.w
  ·have d' : (60 : Int) < (k.w : Int) := by omega
   rw [if_pos d] at hK
   simp -dsimp -implicitDefEqProofs only [↓STP, STQ, seval, ir76, kn_cells, eq_true c, eq_true d']
   refine failG ?_
   simp -dsimp -implicitDefEqProofs only [↓STP, STQ, seval]
   exact hK
  ·have d' : ¬ (60 : Int) < (k.w : Int) := by omega
   rw [if_neg d] at hK
   have hm2 : (if (k.w : Int) > (σ.most : Int) then (k.w : Int) else (σ.most : Int)) = ((max σ.most k.w : Nat) : Int) := by split <;> omega
   simp -dsimp -implicitDefEqProofs only [↓STP, STQ, seval, ir76, kn_cells, eq_true c, eq_false d', gx, Lk.cs, maxV_two, hm2, storeV]
   obtain ⟨A', F⟩ := A.count { σ with most := max σ.most k.w } rfl
   exact hK _ A' F
 ·rw [if_neg c] at hK
  simp -dsimp -implicitDefEqProofs only [↓STP, STQ, seval, ir76, kn_cells, eq_false c, storeV]
  exact hK _ A (Fr.refl _ _)
end
end YtihmoaibgmhjeaaDoor
end Go.Ab
