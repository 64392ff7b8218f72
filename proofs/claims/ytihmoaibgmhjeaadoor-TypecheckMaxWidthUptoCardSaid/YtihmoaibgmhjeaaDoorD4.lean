import Derived.Test.YtihmoaibgmhjeaaDoorD3
set_option linter.unusedVariables false
set_option linter.unusedSimpArgs false
namespace Go.Ab
structure PV (p : Prg) : Prop where
 ins : ∀ d ∈ p.ins, 1 ≤ d.width ∧ d.width ≤ 16 ∧ 0 ≤ d.size ∧ d.size ≤ 64
 ars : ∀ d ∈ p.arrays, 1 ≤ d.size ∧ d.size ≤ 64
 nm : (p.ins.map InD.name ++ p.arrays.map ArD.name).Nodup
theorem inOf_mem {p : Prg} {s : ByteArray} {d : InD} (h : inOf p s = some d) : d ∈ p.ins ∧ d.name = s := ⟨List.mem_of_find?_eq_some h, by have := List.find?_some h; exact of_decide_eq_true this⟩
theorem not_both {p : Prg} (hp : PV p) {s : ByteArray} {d : InD} {i : Nat} (h : inOf p s = some d) (h' : arOf p s = some i) : False := by
 obtain ⟨a, b⟩ := inOf_mem h
 obtain ⟨e, c, d', _⟩ := arOf_some h'
 have hd := (List.nodup_append.1 hp.nm).2.2 d.name (List.mem_map.2 ⟨d, a, rfl⟩) e.name (List.mem_map.2 ⟨e, List.mem_of_getElem? c, rfl⟩)
 exact hd (b.trans d'.symm)
theorem nat_vs_get {ws : List Nat} {n : Nat} (h : n < ws.length) : (natVs ws)[n]? = some (I ((ws.getD n 0 : Nat) : Int)) := by
 unfold natVs
 rw [List.getElem?_map, List.getElem?_eq_getElem h, List.getD_eq_getElem?_getD, List.getElem?_eq_getElem h]; rfl
namespace YtihmoaibgmhjeaaDoor
section
variable {h : H} {K : Out → H → Prop} {p : Prg} {L : Lk} {σ : TS}
theorem nameG {s : ByteArray} (hp : PV p) (A : At p L σ h) (hK : Ans (nameT p σ.env s) (fun k => K (.ret k.v) h) (fun e => K (.pan (wrongV e)) h)) : R 77 [.ptr L.x 0, .str s] h K := by
 refine run77 (Nat.le_of_ble_eq_true rfl) ?_
 obtain ⟨v1, i1⟩ := A.i
 obtain ⟨v2, i2⟩ := A.v
 obtain ⟨v3, i3⟩ := A.l
 have gx := get_of A.x
 unfold nameT at hK
 have e1 := findL_ins (p := p) (s := s)
 cases c1 : findL s σ.env.loops with
 | some n =>
  rw [c1] at hK
  simp -dsimp -implicitDefEqProofs only [↓STP, STQ, seval, ir77, gx, Lk.cs, lkp_two i3, c1, getD_none, getD_some, map_none', map_some', isSome_none', isSome_some', conV, kn_cells, storeV]
  exact hK
 | none =>
  rw [c1] at hK
  rw [← A.es] at hK
  cases c2 : findL s L.es with
  | some r =>
   obtain ⟨k, w⟩ := r
   rw [c2] at hK
   simp -dsimp -implicitDefEqProofs only [↓STP, STQ, seval, ir77, gx, Lk.cs, lkp_two i3, lkp_two i2, c1, c2, getD_none, getD_some, map_none', map_some', isSome_none', isSome_some', vkV, kn_cells, storeV]
   exact hK
  | none =>
   rw [c2] at hK
   cases c3 : inOf p s with
   | none =>
    rw [c3] at hK e1
    simp -dsimp -implicitDefEqProofs only [↓STP, STQ, seval, ir77, gx, Lk.cs, lkp_two i3, lkp_two i2, lkp_two i1, c1, c2, e1, getD_none, getD_some, map_none', map_some', isSome_none', isSome_some', storeV]
    refine failG ?_
    simp -dsimp -implicitDefEqProofs only [↓STP, STQ, seval]
    exact hK
   | some d =>
    rw [c3] at hK e1
    have hd := hp.ins d (inOf_mem c3).1
    simp only at hK
    by_cases cs : d.size = 0
    ·rw [if_pos cs] at hK
     have hw : d.width = ((d.width.toNat : Nat) : Int) := by omega
     simp -dsimp -implicitDefEqProofs only [↓STP, STQ, seval, ir77, gx, Lk.cs, lkp_two i3, lkp_two i2, lkp_two i1, c1, c2, e1, getD_none, getD_some, map_none', map_some', isSome_none', isSome_some', inV_cells, eq_true cs, storeV]
     rw [hw]
     refine numberG ?_
     simp -dsimp -implicitDefEqProofs only [↓STP, STQ, seval, storeV, kn_cells]
     exact hK
    ·rw [if_neg cs] at hK
     simp -dsimp -implicitDefEqProofs only [↓STP, STQ, seval, ir77, gx, Lk.cs, lkp_two i3, lkp_two i2, lkp_two i1, c1, c2, e1, getD_none, getD_some, map_none', map_some', isSome_none', isSome_some', inV_cells, eq_false cs, storeV]
     refine failG ?_
     simp -dsimp -implicitDefEqProofs only [↓STP, STQ, seval]
     exact hK
theorem indexG {s : ByteArray} {k : Kn} (hp : PV p) (A : At p L σ h) (ok : EOkT p σ.env) (hv : KOk k) (hK : Ans (indexT p σ.env s k) (fun k => K (.ret k.v) h) (fun e => K (.pan (wrongV e)) h)) : R 78 [.ptr L.x 0, .str s, k.v] h K := by
 refine run78 (Nat.le_of_ble_eq_true rfl) ?_
 obtain ⟨v1, i1⟩ := A.i
 obtain ⟨v2, i2⟩ := A.s
 obtain ⟨v3, i3⟩ := A.w
 have gx := get_of A.x
 unfold indexT at hK
 have e1 := findL_ins (p := p) (s := s)
 have e2 := findL_ars (p := p) (s := s)
 cases c1 : inOf p s with
 | some d =>
  have c2 : arOf p s = none := by
   cases c2 : arOf p s with
   | none => rfl
   | some i => exact (not_both hp c1 c2).elim
  rw [c1] at e1 hK
  rw [c2] at e2 hK
  have hd := hp.ins d (inOf_mem c1).1
  simp only at hK
  by_cases cs : d.size = 0
  ·rw [if_pos cs] at hK
   have cs' : ¬ (0 : Int) < d.size := by omega
   simp -dsimp -implicitDefEqProofs only [↓STP, STQ, seval, ir78, kn_cells, gx, Lk.cs, lkp_two i2, lkp_two i1, e1, e2, getD_none, getD_some, map_none', map_some', isSome_none', isSome_some', inV_cells, eq_false cs', storeV, Option.map_none]
   refine failG ?_
   simp -dsimp -implicitDefEqProofs only [↓STP, STQ, seval]
   exact hK
  ·rw [if_neg cs] at hK
   have cs' : (0 : Int) < d.size := by omega
   have hw : d.width = ((d.width.toNat : Nat) : Int) := by omega
   simp -dsimp -implicitDefEqProofs only [↓STP, STQ, seval, ir78, kn_cells, gx, Lk.cs, lkp_two i2, lkp_two i1, e1, e2, getD_none, getD_some, map_none', map_some', isSome_none', isSome_some', inV_cells, eq_true cs', storeV]
   rw [show (V.agg [I k.kind, I k.w, .bool k.is, W k.val]) = k.v from rfl]
   refine placeG (by omega) (by omega) hv.lt ?_
   cases hpl : placeT k d.size with
   | error e =>
    rw [hpl] at hK
    simp only [Ans_error, andT_error] at hK ⊢
    simp -dsimp -implicitDefEqProofs only [↓STP, STQ, seval]
    exact hK
   | ok n =>
    rw [hpl] at hK
    simp only [Ans_ok, andT_ok] at hK ⊢
    simp -dsimp -implicitDefEqProofs only [↓STP, STQ, seval]
    rw [hw]
    refine numberG ?_
    simp -dsimp -implicitDefEqProofs only [↓STP, STQ, seval, storeV, kn_cells]
    exact hK
 | none =>
  rw [c1] at e1 hK
  cases c2 : arOf p s with
  | none =>
   rw [c2] at e2 hK
   simp -dsimp -implicitDefEqProofs only [↓STP, STQ, seval, ir78, kn_cells, gx, Lk.cs, lkp_two i2, lkp_two i1, e1, e2, getD_none, getD_some, map_none', map_some', isSome_none', isSome_some', inV_cells, storeV, Option.map_none]
   refine failG ?_
   simp -dsimp -implicitDefEqProofs only [↓STP, STQ, seval]
   exact hK
  | some i =>
   rw [c2] at e2 hK
   obtain ⟨d, hd, hn, hg⟩ := arOf_some c2
   rw [Option.map_some, hg] at e2
   simp only at hK
   rw [hg] at hK
   obtain ⟨id, ws, hws, hfw, hob⟩ := A.ws i d hd
   rw [hn] at hfw
   have hlen := (ok.words i ws d hws hd).1
   have hds := hp.ars d (List.mem_of_getElem? hd)
   simp -dsimp -implicitDefEqProofs only [↓STP, STQ, seval, ir78, kn_cells, gx, Lk.cs, lkp_two i2, lkp_two i1, e1, e2, getD_none, getD_some, map_none', map_some', isSome_none', isSome_some', inV_cells, intV, storeV, lkp_one i3, hfw, refV]
   rw [show (V.agg [I k.kind, I k.w, .bool k.is, W k.val]) = k.v from rfl]
   refine placeG (by omega) (by omega) hv.lt ?_
   cases hpl : placeT k d.size with
   | error e =>
    rw [hpl] at hK
    simp only [Ans_error, andT_error] at hK ⊢
    simp -dsimp -implicitDefEqProofs only [↓STP, STQ, seval]
    exact hK
   | ok n =>
    rw [hpl] at hK
    simp only [Ans_ok, andT_ok] at hK ⊢
    have hn : n < ws.length := by
     unfold placeT at hpl
     split at hpl
     ·cases hpl
     ·split at hpl
      ·cases hpl
      ·cases hpl; omega
    have gid := get_of hob
    have hnI : ((n : Nat) : Int) < ((ws.length : Nat) : Int) := by omega
    simp -dsimp -implicitDefEqProofs only [↓STP, STQ, seval, gx, Lk.cs, gid, lkp_one i3, hfw, refV, getD_some, map_some', nat_vs_get hn, eq_true hnI, Nat.mul_one]
    refine numberG ?_
    simp -dsimp -implicitDefEqProofs only [↓STP, STQ, seval, storeV, kn_cells]
    have hgw : σ.env.words.getD i [] = ws := by rw [List.getD_eq_getElem?_getD, hws]; rfl
    rw [hgw] at hK
    exact hK
theorem opG {o : Int} {a b : Kn} (o1 : 1 ≤ o) (o2 : o ≤ 7) (ha : KOk a) (hb : KOk b)
  (hK : Ans (opK o a b) (fun r => ∀ v : Nat, (r.w ≤ 60 → v = r.val) → K (.ret ({ r with val := v } : Kn).v) h) (fun e => K (.pan (wrongV e)) h)) : R 79 [I o, a.v, b.v] h K := by
 refine run79 (Nat.le_of_ble_eq_true rfl) ?_
 have oo : o = 1 ∨ o = 2 ∨ o = 3 ∨ o = 4 ∨ o = 5 ∨ o = 6 ∨ o = 7 := by omega
 unfold opK at hK
 have hal := ha.lt
 have hbl := hb.lt
 have haw := ha.w
 have hbw := hb.w
 have ga : (V.agg [I a.kind, I a.w, .bool a.is, W a.val]) = a.v := rfl
 have gb : (V.agg [I b.kind, I b.w, .bool b.is, W b.val]) = b.v := rfl
 have hm : (if (b.w : Int) > (a.w : Int) then (b.w : Int) else (a.w : Int)) = ((max a.w b.w : Nat) : Int) := by split <;> omega
 have w1 : IntKind.i64.wrap (((max a.w b.w : Nat) : Int) + 1) = ((max a.w b.w + 1 : Nat) : Int) := by rw [wrap_i64] <;> omega
 have w2 : IntKind.i64.wrap ((a.w : Int) + (b.w : Int)) = ((a.w + b.w : Nat) : Int) := by rw [wrap_i64] <;> omega
 have w3 := wuadd (show a.val + b.val < 18446744073709551616 by omega)
 have w4 : IntKind.u64.wrap ((a.val : Int) * (b.val : Int)) = ((a.val * b.val % 18446744073709551616 : Nat) : Int) := by rw [wrap_u64, ← Int.natCast_mul]; exact (Int.natCast_emod _ _).symm
 have pm : a.w + b.w ≤ 60 → a.val * b.val % 18446744073709551616 = a.val * b.val := fun hw => by
  have h1 : a.val * b.val < 2 ^ (a.w + b.w) := by rw [Nat.pow_add]; exact Nat.mul_lt_mul'' ha.val hb.val
  have h2 : 2 ^ (a.w + b.w) ≤ 2 ^ 60 := Nat.pow_le_pow_right (by decide) hw
  exact Nat.mod_eq_of_lt (by omega)
 rcases oo with rfl | rfl | rfl | rfl | rfl | rfl | rfl
 ·have hk : opKind 1 = 1 := by decide
  rw [hk] at hK
  simp -dsimp -implicitDefEqProofs only [↓STP, STQ, seval, ir79, kn_cells]
  rw [ga]
  refine mustG (fun c1 => ?_) (fun c1 => ?_)
  rotate_left
  ·rw [if_pos (.inl c1)] at hK
   simp -dsimp -implicitDefEqProofs only [↓STP, STQ, seval]
   exact hK
  simp -dsimp -implicitDefEqProofs only [↓STP, STQ, seval]
  rw [gb]
  refine mustG (fun c2 => ?_) (fun c2 => ?_)
  rotate_left
  ·rw [if_pos (.inr c2)] at hK
   simp -dsimp -implicitDefEqProofs only [↓STP, STQ, seval]
   exact hK
  rw [if_neg (by simp [c1, c2])] at hK
  rw [if_pos rfl] at hK
  simp -dsimp -implicitDefEqProofs only [↓STP, STQ, seval, storeV, maxV_two, hm, w1]
  refine numberG ?_
  simp -dsimp -implicitDefEqProofs only [↓STP, STQ, seval, storeV, kn_cells, w3]
  cases ca : a.is <;> cases cb : b.is <;> rw [ca, cb] at hK <;> simp -dsimp -implicitDefEqProofs only [↓STP, STQ, seval, storeV, ca, cb]
  ·exact hK 0 (fun _ => rfl)
  ·exact hK 0 (fun _ => rfl)
  ·exact hK 0 (fun _ => rfl)
  ·exact hK _ (fun _ => rfl)
 ·have hk : opKind 2 = 1 := by decide
  rw [hk] at hK
  simp -dsimp -implicitDefEqProofs only [↓STP, STQ, seval, ir79, kn_cells]
  rw [ga]
  refine mustG (fun c1 => ?_) (fun c1 => ?_)
  rotate_left
  ·rw [if_pos (.inl c1)] at hK
   simp -dsimp -implicitDefEqProofs only [↓STP, STQ, seval]
   exact hK
  simp -dsimp -implicitDefEqProofs only [↓STP, STQ, seval]
  rw [gb]
  refine mustG (fun c2 => ?_) (fun c2 => ?_)
  rotate_left
  ·rw [if_pos (.inr c2)] at hK
   simp -dsimp -implicitDefEqProofs only [↓STP, STQ, seval]
   exact hK
  rw [if_neg (by simp [c1, c2])] at hK
  rw [if_neg (by decide)] at hK
  rw [if_pos rfl] at hK
  simp -dsimp -implicitDefEqProofs only [↓STP, STQ, seval, storeV]
  refine numberG ?_
  by_cases cs : (b.val : Int) < (a.val : Int)
  ·have w5 : IntKind.u64.wrap ((a.val : Int) - (b.val : Int)) = ((a.val - b.val : Nat) : Int) := by rw [wrap_u64_self] <;> omega
   simp -dsimp -implicitDefEqProofs only [↓STP, STQ, seval, storeV, kn_cells, eq_true cs, w5]
   cases ca : a.is <;> cases cb : b.is <;> rw [ca, cb] at hK <;> simp -dsimp -implicitDefEqProofs only [↓STP, STQ, seval, storeV, ca, cb]
   ·exact hK 0 (fun _ => rfl)
   ·exact hK 0 (fun _ => rfl)
   ·exact hK 0 (fun _ => rfl)
   ·exact hK _ (fun _ => rfl)
  ·simp -dsimp -implicitDefEqProofs only [↓STP, STQ, seval, storeV, kn_cells, eq_false cs]
   cases ca : a.is <;> cases cb : b.is <;> rw [ca, cb] at hK <;> simp -dsimp -implicitDefEqProofs only [↓STP, STQ, seval, storeV, ca, cb]
   ·exact hK 0 (fun _ => rfl)
   ·exact hK 0 (fun _ => rfl)
   ·exact hK 0 (fun _ => rfl)
   ·exact hK _ (fun _ => by show 0 = a.val - b.val; omega)
 ·have hk : opKind 3 = 1 := by decide
  rw [hk] at hK
  simp -dsimp -implicitDefEqProofs only [↓STP, STQ, seval, ir79, kn_cells]
  rw [ga]
  refine mustG (fun c1 => ?_) (fun c1 => ?_)
  rotate_left
  ·rw [if_pos (.inl c1)] at hK
   simp -dsimp -implicitDefEqProofs only [↓STP, STQ, seval]
   exact hK
  simp -dsimp -implicitDefEqProofs only [↓STP, STQ, seval]
  rw [gb]
  refine mustG (fun c2 => ?_) (fun c2 => ?_)
  rotate_left
  ·rw [if_pos (.inr c2)] at hK
   simp -dsimp -implicitDefEqProofs only [↓STP, STQ, seval]
   exact hK
  rw [if_neg (by simp [c1, c2])] at hK
  rw [if_neg (by decide)] at hK
  rw [if_neg (by decide)] at hK
  rw [if_pos rfl] at hK
  simp -dsimp -implicitDefEqProofs only [↓STP, STQ, seval, storeV, w2]
  refine numberG ?_
  simp -dsimp -implicitDefEqProofs only [↓STP, STQ, seval, storeV, kn_cells, w4]
  cases ca : a.is <;> cases cb : b.is <;> rw [ca, cb] at hK <;> simp -dsimp -implicitDefEqProofs only [↓STP, STQ, seval, storeV, ca, cb]
  ·exact hK 0 (fun _ => rfl)
  ·exact hK 0 (fun _ => rfl)
  ·exact hK 0 (fun _ => rfl)
  ·exact hK _ (pm)
 ·have hk : opKind 4 = 1 := by decide
  rw [hk] at hK
  simp -dsimp -implicitDefEqProofs only [↓STP, STQ, seval, ir79, kn_cells]
  rw [ga]
  refine mustG (fun c1 => ?_) (fun c1 => ?_)
  rotate_left
  ·rw [if_pos (.inl c1)] at hK
   simp -dsimp -implicitDefEqProofs only [↓STP, STQ, seval]
   exact hK
  simp -dsimp -implicitDefEqProofs only [↓STP, STQ, seval]
  rw [gb]
  refine mustG (fun c2 => ?_) (fun c2 => ?_)
  rotate_left
  ·rw [if_pos (.inr c2)] at hK
   simp -dsimp -implicitDefEqProofs only [↓STP, STQ, seval]
   exact hK
  rw [if_neg (by simp [c1, c2])] at hK
  rw [if_neg (by decide)] at hK
  rw [if_neg (by decide)] at hK
  rw [if_neg (by decide)] at hK
  simp -dsimp -implicitDefEqProofs only [↓STP, STQ, seval, storeV]
  exact hK 0 (fun _ => rfl)
 ·have hk : opKind 5 = 1 := by decide
  rw [hk] at hK
  simp -dsimp -implicitDefEqProofs only [↓STP, STQ, seval, ir79, kn_cells]
  rw [ga]
  refine mustG (fun c1 => ?_) (fun c1 => ?_)
  rotate_left
  ·rw [if_pos (.inl c1)] at hK
   simp -dsimp -implicitDefEqProofs only [↓STP, STQ, seval]
   exact hK
  simp -dsimp -implicitDefEqProofs only [↓STP, STQ, seval]
  rw [gb]
  refine mustG (fun c2 => ?_) (fun c2 => ?_)
  rotate_left
  ·rw [if_pos (.inr c2)] at hK
   simp -dsimp -implicitDefEqProofs only [↓STP, STQ, seval]
   exact hK
  rw [if_neg (by simp [c1, c2])] at hK
  rw [if_neg (by decide)] at hK
  rw [if_neg (by decide)] at hK
  rw [if_neg (by decide)] at hK
  simp -dsimp -implicitDefEqProofs only [↓STP, STQ, seval, storeV]
  exact hK 0 (fun _ => rfl)
 ·have hk : opKind 6 = 2 := by decide
  rw [hk] at hK
  simp -dsimp -implicitDefEqProofs only [↓STP, STQ, seval, ir79, kn_cells]
  rw [ga]
  refine mustG (fun c1 => ?_) (fun c1 => ?_)
  rotate_left
  ·rw [if_pos (.inl c1)] at hK
   simp -dsimp -implicitDefEqProofs only [↓STP, STQ, seval]
   exact hK
  simp -dsimp -implicitDefEqProofs only [↓STP, STQ, seval]
  rw [gb]
  refine mustG (fun c2 => ?_) (fun c2 => ?_)
  rotate_left
  ·rw [if_pos (.inr c2)] at hK
   simp -dsimp -implicitDefEqProofs only [↓STP, STQ, seval]
   exact hK
  rw [if_neg (by simp [c1, c2])] at hK
  rw [if_neg (by decide)] at hK
  rw [if_neg (by decide)] at hK
  rw [if_neg (by decide)] at hK
  simp -dsimp -implicitDefEqProofs only [↓STP, STQ, seval, storeV]
  exact hK 0 (fun _ => rfl)
 ·have hk : opKind 7 = 2 := by decide
  rw [hk] at hK
  simp -dsimp -implicitDefEqProofs only [↓STP, STQ, seval, ir79, kn_cells]
  rw [ga]
  refine mustG (fun c1 => ?_) (fun c1 => ?_)
  rotate_left
  ·rw [if_pos (.inl c1)] at hK
   simp -dsimp -implicitDefEqProofs only [↓STP, STQ, seval]
   exact hK
  simp -dsimp -implicitDefEqProofs only [↓STP, STQ, seval]
  rw [gb]
  refine mustG (fun c2 => ?_) (fun c2 => ?_)
  rotate_left
  ·rw [if_pos (.inr c2)] at hK
   simp -dsimp -implicitDefEqProofs only [↓STP, STQ, seval]
   exact hK
  rw [if_neg (by simp [c1, c2])] at hK
  rw [if_neg (by decide)] at hK
  rw [if_neg (by decide)] at hK
  rw [if_neg (by decide)] at hK
  simp -dsimp -implicitDefEqProofs only [↓STP, STQ, seval, storeV]
  exact hK 0 (fun _ => rfl)
end
end YtihmoaibgmhjeaaDoor
end Go.Ab
