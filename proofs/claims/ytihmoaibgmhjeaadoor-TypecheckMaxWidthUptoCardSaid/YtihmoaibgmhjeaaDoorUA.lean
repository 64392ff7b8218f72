import Derived.Test.YtihmoaibgmhjeaaDoorT29a
set_option linter.unusedVariables false
set_option linter.unusedSimpArgs false
namespace Go.Ab
def nmV (r : ByteArray × Kn) : V := .agg [.str r.1, I r.2.kind, I r.2.w, .bool r.2.is, W r.2.val]
def ixI (s : ByteArray) (l : List ByteArray) : Int := match l.findIdx? (fun a => decide (a = s)) with
 | some i => (i : Int)
 | none => -1
theorem ix_hit {s : ByteArray} {l : List ByteArray} {j : Nat} (h : ∀ a ∈ l.take j, a ≠ s) (hj : l[j]? = some s) : ixI s l = j := by
 have hlt : j < l.length := by
  rcases Nat.lt_or_ge j l.length with h' | h'
  ·exact h'
  ·rw [List.getElem?_eq_none h'] at hj; cases hj
 have : l.findIdx? (fun a => decide (a = s)) = some j := by
  rw [List.findIdx?_eq_some_iff_getElem]
  rw [List.getElem?_eq_getElem hlt] at hj
  refine ⟨hlt, by simpa using hj, fun i hi => ?_⟩
  have hm : l[i] ∈ l.take j := by
   rw [List.mem_take_iff_getElem]
   exact ⟨i, by omega, rfl⟩
  simpa using h _ hm
 unfold ixI; rw [this]
theorem ix_miss {s : ByteArray} {l : List ByteArray} (h : ∀ a ∈ l, a ≠ s) : ixI s l = -1 := by
 have : l.findIdx? (fun a => decide (a = s)) = none := by
  rw [List.findIdx?_eq_none_iff]
  intro a ha
  simpa using h a ha
 unfold ixI; rw [this]
theorem take_next {s : ByteArray} {l : List ByteArray} {j : Nat} {a : ByteArray} (h : ∀ a ∈ l.take j, a ≠ s) (hj : l[j]? = some a) (ha : a ≠ s) : ∀ a ∈ l.take (j + 1), a ≠ s := by
 intro b hb
 rw [List.take_add_one, hj] at hb
 rcases List.mem_append.1 hb with hb | hb
 ·exact h b hb
 ·simp at hb; subst hb; exact ha
namespace YtihmoaibgmhjeaaDoor
section
variable {h : H} {K : Out → H → Prop} {p : Prg}
theorem width29 {n : Nat} (hn : n < 18446744073709551616) (hK : K (.ret (I (wid n))) h) : R 20 [W n] h K := by
 refine run20 (Nat.le_of_ble_eq_true rfl) ?_
 simp -dsimp -implicitDefEqProofs only [↓STP, STQ, seval, ir20]
 refine codeT_loop (fun k st => ∃ m w : Nat, k = m ∧ m ≤ n ∧ wid n + 1 = w + wid m ∧ st = ⟨upd (upd ρ0 0 (W m)) 3 (I w), m0, 0, [], h⟩) (i := n) ⟨n, 1, rfl, Nat.le_refl _, by omega, by simp -dsimp -implicitDefEqProofs only [↓STP, STQ, seval] <;> rfl⟩ ?_ mono
 rintro m st ⟨_, w, rfl, hm, hw, rfl⟩
 have hle : wid n ≤ 64 := wid_le (k := 64) (by omega) (by decide)
 have hp := wid_pos m
 by_cases c : (1 : Int) < (m : Int)
 ·have q1 : IntKind.u64.wrap (Int.tdiv (m : Int) 2) = ((m / 2 : Nat) : Int) := by
   rw [show Int.tdiv (m : Int) 2 = ((m / 2 : Nat) : Int) from rfl, wrap_u64_self] <;> omega
  have q2 : IntKind.i64.wrap ((w : Int) + 1) = ((w + 1 : Nat) : Int) := wi (by omega)
  have hb : wid m = wid (m / 2) + 1 := by
   unfold wid
   rw [blen_pos (show m ≠ 0 by omega)]
   have : 1 ≤ blen (m / 2) := by rw [blen_pos (show m / 2 ≠ 0 by omega)]; omega
   omega
  simp -dsimp -implicitDefEqProofs only [↓STP, STQ, seval, eq_true c, q1, q2]
  exact ⟨m / 2, by omega, m / 2, w + 1, rfl, by omega, by omega, rfl⟩
 ·have h1 : wid m = 1 := by
   rcases (show m = 0 ∨ m = 1 by omega) with rfl | rfl
   ·unfold wid; rw [blen_zero]; rfl
   ·exact wid_one
  simp -dsimp -implicitDefEqProofs only [↓STP, STQ, seval, eq_false c]
  rw [show wid n = w by omega] at hK
  exact hK
theorem findR {l : List (ByteArray × Kn)} {s : ByteArray} (hl : l.length ≤ 9223372036854775807) (hK : K (.ret (I (ixI s (l.map (·.1))))) h) : R 82 [.vec (l.map nmV) .any, .str s] h K := by
 refine run82 (Nat.le_of_ble_eq_true rfl) ?_
 simp -dsimp -implicitDefEqProofs only [↓STP, STQ, seval, ir82]
 refine codeT_for (N := l.length) (fun j => ⟨upd (upd (upd ρ0 0 (.vec (l.map nmV) .any)) 1 (.str s)) 5 (I j), m0, 0, [], h⟩) (fun j => ∀ a ∈ (l.map (·.1)).take j, a ≠ s) (by simp -dsimp -implicitDefEqProofs only [↓STP, STQ, seval] <;> rfl) (by simp) (fun j hj pj => ?_) (fun pj => ?_) mono
 ·have g : (l.map nmV)[j]? = some (nmV l[j]) := by rw [List.getElem?_map, List.getElem?_eq_getElem hj]; rfl
  have g' : (l.map (·.1))[j]? = some l[j].1 := by rw [List.getElem?_map, List.getElem?_eq_getElem hj]; rfl
  have lj : (j : Int) < (l.length : Int) := by omega
  by_cases c : l[j].1 = s
  ·simp -dsimp -implicitDefEqProofs only [↓STP, STQ, seval, List.length_map, eq_true lj, g, nmV, c, binS, beqS, eq_self]
   rw [ix_hit pj (g'.trans (by rw [c]))] at hK
   exact hK
  ·simp -dsimp -implicitDefEqProofs only [↓STP, STQ, seval, List.length_map, eq_true lj, g, nmV, eq_false c, binS, beqS, wiM (show j < 9223372036854775807 by omega)]
   exact take_next pj g' c
 ·have lj : ¬ (l.length : Int) < (l.length : Int) := by omega
  simp -dsimp -implicitDefEqProofs only [↓STP, STQ, seval, List.length_map, eq_false lj]
  rw [ix_miss (by rw [List.take_of_length_le (by simp)] at pj; exact pj)] at hK
  exact hK
theorem inputR {s : ByteArray} (hl : p.ins.length ≤ 9223372036854775807) (hK : K (.ret (I (ixI s (p.ins.map InD.name)))) h) : R 81 [p.v, .str s] h K := by
 refine run81 (Nat.le_of_ble_eq_true rfl) ?_
 have hv0 : p.v = V.agg [.vec (p.ins.map InD.v) .any, .vec (p.arrays.map ArD.v) .any, .vec (p.body.map Stm.v) .any] := rfl
 simp -dsimp -implicitDefEqProofs only [↓STP, STQ, seval, ir81, hv0]
 refine codeT_for (N := p.ins.length) (fun j => ⟨upd (upd (upd ρ0 1 (.str s)) 2 (.lptr 0 3 0)) 5 (I j), upd m0 0 (some [.vec (p.ins.map InD.v) .any, .vec (p.arrays.map ArD.v) .any, .vec (p.body.map Stm.v) .any]), 1, [], h⟩) (fun j => ∀ a ∈ (p.ins.map InD.name).take j, a ≠ s) (by simp -dsimp -implicitDefEqProofs only [↓STP, STQ, seval] <;> rfl) (by simp) (fun j hj pj => ?_) (fun pj => ?_) mono
 ·have g : (p.ins.map InD.v)[j]? = some (InD.v p.ins[j]) := by rw [List.getElem?_map, List.getElem?_eq_getElem hj]; rfl
  have g' : (p.ins.map InD.name)[j]? = some p.ins[j].name := by rw [List.getElem?_map, List.getElem?_eq_getElem hj]; rfl
  have lj : (j : Int) < (p.ins.length : Int) := by omega
  by_cases c : p.ins[j].name = s
  ·simp -dsimp -implicitDefEqProofs only [↓STP, STQ, seval, List.length_map, eq_true lj, g, inV_cells, c, binS, beqS, eq_self]
   rw [ix_hit pj (g'.trans (by rw [c]))] at hK
   exact hK
  ·simp -dsimp -implicitDefEqProofs only [↓STP, STQ, seval, List.length_map, eq_true lj, g, inV_cells, eq_false c, binS, beqS, wiM (show j < 9223372036854775807 by omega)]
   exact take_next pj g' c
 ·have lj : ¬ (p.ins.length : Int) < (p.ins.length : Int) := by omega
  simp -dsimp -implicitDefEqProofs only [↓STP, STQ, seval, List.length_map, eq_false lj]
  rw [ix_miss (by rw [List.take_of_length_le (by simp)] at pj; exact pj)] at hK
  exact hK
theorem arrayR {s : ByteArray} (hl : p.arrays.length ≤ 9223372036854775807) (hK : K (.ret (I (ixI s (p.arrays.map ArD.name)))) h) : R 65 [p.v, .str s] h K := by
 refine run65 (Nat.le_of_ble_eq_true rfl) ?_
 have hv0 : p.v = V.agg [.vec (p.ins.map InD.v) .any, .vec (p.arrays.map ArD.v) .any, .vec (p.body.map Stm.v) .any] := rfl
 have av : ∀ d : ArD, d.v = .agg [.str d.name, I d.size] := fun d => rfl
 simp -dsimp -implicitDefEqProofs only [↓STP, STQ, seval, ir65, hv0]
 refine codeT_for (N := p.arrays.length) (fun j => ⟨upd (upd (upd ρ0 1 (.str s)) 2 (.lptr 0 3 0)) 5 (I j), upd m0 0 (some [.vec (p.ins.map InD.v) .any, .vec (p.arrays.map ArD.v) .any, .vec (p.body.map Stm.v) .any]), 1, [], h⟩) (fun j => ∀ a ∈ (p.arrays.map ArD.name).take j, a ≠ s) (by simp -dsimp -implicitDefEqProofs only [↓STP, STQ, seval] <;> rfl) (by simp) (fun j hj pj => ?_) (fun pj => ?_) mono
 ·have g : (p.arrays.map ArD.v)[j]? = some (ArD.v p.arrays[j]) := by rw [List.getElem?_map, List.getElem?_eq_getElem hj]; rfl
  have g' : (p.arrays.map ArD.name)[j]? = some p.arrays[j].name := by rw [List.getElem?_map, List.getElem?_eq_getElem hj]; rfl
  have lj : (j : Int) < (p.arrays.length : Int) := by omega
  by_cases c : p.arrays[j].name = s
  ·simp -dsimp -implicitDefEqProofs only [↓STP, STQ, seval, List.length_map, eq_true lj, g, av, c, binS, beqS, eq_self]
   rw [ix_hit pj (g'.trans (by rw [c]))] at hK
   exact hK
  ·simp -dsimp -implicitDefEqProofs only [↓STP, STQ, seval, List.length_map, eq_true lj, g, av, eq_false c, binS, beqS, wiM (show j < 9223372036854775807 by omega)]
   exact take_next pj g' c
 ·have lj : ¬ (p.arrays.length : Int) < (p.arrays.length : Int) := by omega
  simp -dsimp -implicitDefEqProofs only [↓STP, STQ, seval, List.length_map, eq_false lj]
  rw [ix_miss (by rw [List.take_of_length_le (by simp)] at pj; exact pj)] at hK
  exact hK
theorem numberR {w : Nat} (hK : K (.ret (knum w).v) h) : R 94 [I w] h K := by
 refine run94 (Nat.le_of_ble_eq_true rfl) ?_
 simp -dsimp -implicitDefEqProofs only [↓STP, STQ, seval, ir94, storeV]
 exact hK
theorem exactR {n : Nat} (hn : n < 18446744073709551616) (hK : K (.ret (kcon n).v) h) : R 85 [W n] h K := by
 refine run85 (Nat.le_of_ble_eq_true rfl) ?_
 simp -dsimp -implicitDefEqProofs only [↓STP, STQ, seval, ir85]
 refine width29 hn ?_
 simp -dsimp -implicitDefEqProofs only [↓STP, STQ, seval, storeV]
 exact hK
theorem unknownR {k : Kn} (hK : K (.ret (Kn.mk k.kind k.w false 0).v) h) : R 64 [k.v] h K := by
 refine run64 (Nat.le_of_ble_eq_true rfl) ?_
 simp -dsimp -implicitDefEqProofs only [↓STP, STQ, seval, ir64, kn_cells, storeV]
 exact hK
theorem placeR {k : Kn} {size : Int} (hs : 0 ≤ size) (hs2 : size ≤ 9223372036854775807) (hv : k.val < 1152921504606846976) (hK : Ans (placeT k size) (fun n => K (.ret (.tuple [I n, I 0])) h) (fun e => K (.ret (.tuple [I 0, I e])) h)) : R 66 [k.v, I size] h K := by
 refine run66 (Nat.le_of_ble_eq_true rfl) ?_
 have w1 : IntKind.u64.wrap size = size := wrap_u64_self hs (by omega)
 have w2 : IntKind.i64.wrap (k.val : Int) = (k.val : Int) := wrap_i64 (by omega) (by omega)
 unfold placeT at hK
 by_cases c : k.kind = 1
 ·cases ci : k.is with
  | false =>
   rw [if_pos (.inr ci)] at hK
   simp -dsimp -implicitDefEqProofs only [↓STP, STQ, seval, ir66, kn_cells, eq_true c, ci]
   exact hK
  | true =>
   rw [if_neg (by simp [c, ci])] at hK
   by_cases cs : size ≤ (k.val : Int)
   ·rw [if_pos cs] at hK
    simp -dsimp -implicitDefEqProofs only [↓STP, STQ, seval, ir66, kn_cells, eq_true c, ci, w1, eq_true cs]
    exact hK
   ·rw [if_neg cs] at hK
    simp -dsimp -implicitDefEqProofs only [↓STP, STQ, seval, ir66, kn_cells, eq_true c, ci, w1, eq_false cs, w2]
    exact hK
 ·rw [if_pos (.inl c)] at hK
  simp -dsimp -implicitDefEqProofs only [↓STP, STQ, seval, ir66, kn_cells, eq_false c]
  exact hK
theorem nm_cells {l : List (ByteArray × Kn)} : ∀ e ∈ l.map nmV, e.cells.length = 5 := by
 intro e he
 obtain ⟨r, _, rfl⟩ := List.mem_map.1 he
 rfl
theorem nm_elems {l : List (ByteArray × Kn)} : ∀ e ∈ l.map nmV, e.cells.length = 5 ∧ mkEl true e.cells = e := by
 intro e he
 obtain ⟨r, _, rfl⟩ := List.mem_map.1 he
 exact ⟨rfl, rfl⟩
theorem withoutR {l : List (ByteArray × Kn)} {s : ByteArray} (hl : l.length ≤ 1000000) (hK : K (.ret (.vec ((l.filter fun r => decide (r.1 ≠ s)).map nmV) (.own 0))) h) : R 63 [.vec (l.map nmV) .any, .str s] h K := by
 refine run63 (Nat.le_of_ble_eq_true rfl) ?_
 simp -dsimp -implicitDefEqProofs only [↓STP, STQ, seval, ir63]
 refine codeT_for (N := l.length) (fun j => ⟨upd (upd (upd (upd ρ0 0 (.vec (l.map nmV) .any)) 1 (.str s)) 5 (.vec (((l.take j).filter fun r => decide (r.1 ≠ s)).map nmV) (.own 0))) 6 (I j), m0, 1, [], h⟩) (fun j => True) (by simp -dsimp -implicitDefEqProofs only [↓STP, STQ, seval] <;> rfl) trivial (fun j hj pj => ?_) (fun pj => ?_) mono
 ·have g : (l.map nmV)[j]? = some (nmV l[j]) := by rw [List.getElem?_map, List.getElem?_eq_getElem hj]; rfl
  have lj : (j : Int) < (l.length : Int) := by omega
  have hf : ((l.take j).filter fun r => decide (r.1 ≠ s)).length ≤ j := Nat.le_trans (List.length_filter_le _ _) (by rw [List.length_take]; omega)
  have e : (l.take (j + 1)).filter (fun r => decide (r.1 ≠ s)) = (l.take j).filter (fun r => decide (r.1 ≠ s)) ++ (if l[j].1 = s then [] else [l[j]]) := by
   rw [List.take_add_one, List.getElem?_eq_getElem hj, List.filter_append]
   by_cases c : l[j].1 = s
   ·simp [c]
   ·simp [c]
  rw [e]
  by_cases c : l[j].1 = s
  ·simp -dsimp -implicitDefEqProofs only [↓STP, STQ, seval, List.length_map, eq_true lj, g, nmV, c, binS, bneS, beqS, eq_self, wi (show j < 9000000000000000000 by omega)]
  ·simp -dsimp -implicitDefEqProofs only [↓STP, STQ, seval, List.length_map, eq_true lj, g, nmV, eq_false c, binS, bneS, beqS, wi (show j < 9000000000000000000 by omega)]
   rw [app1_own (sz := 5) (by simp) nm_cells rfl (by decide) (by decide) (by rw [List.length_map]; omega)]
   simp -dsimp -implicitDefEqProofs only [↓STP, STQ, seval, wi (show j < 9000000000000000000 by omega)]
   rw [if_neg c, List.map_append]
   rfl
 ·have lj : ¬ (l.length : Int) < (l.length : Int) := by omega
  simp -dsimp -implicitDefEqProofs only [↓STP, STQ, seval, List.length_map, eq_false lj]
  rw [List.take_length]
  exact hK
end
end YtihmoaibgmhjeaaDoor
end Go.Ab
set_option linter.unusedVariables false
set_option linter.unusedSimpArgs false
namespace Go.Ab
structure Lr where
 x : Nat
 es : List (ByteArray × Kn)
 vc : Cap
 lc : Cap
 o : Option Nat
 wc : Cap
 rs : List (Nat × Nat)
def Lr.own (L : Lr) : List Nat := L.x :: (L.o.toList ++ L.rs.map (·.1))
def Lr.ov (L : Lr) : V := match L.o with
 | some id => .ref id 0 L.rs.length 1
 | none => .vec [] L.wc
def lps (σ : TE) : List (ByteArray × Kn) := σ.loops.map fun r => (r.1, kcon r.2)
def Lr.cs (p : Prg) (L : Lr) (σ : TS) : List V := [.vec (p.ins.map InD.v) .any, .vec (p.arrays.map ArD.v) .any, .vec (p.body.map Stm.v) .any, .vec (L.es.map nmV) L.vc, .vec ((lps σ.env).map nmV) L.lc, L.ov, I σ.steps, I σ.most, I σ.ifs]
structure Rt (p : Prg) (L : Lr) (σ : TS) (h : H) : Prop where
 x : h.objs L.x = some (.cells (L.cs p σ))
 o : match L.o with
  | some id => h.objs id = some (.cells (L.rs.map refV))
  | none => L.rs = []
 es : ∀ s, findL s L.es = (σ.env.vars s).map fun r => Kn.mk r.1 r.2 false 0
 len : L.rs.length = σ.env.words.length
 ws : ∀ (i : Nat) (ws : List Nat), σ.env.words[i]? = some ws → ∃ id, L.rs[i]? = some (id, ws.length) ∧ h.objs id = some (.cells (natVs ws))
 nd : L.own.Nodup
 lt : ∀ id ∈ L.own, id < h.next
 vl : L.es.length ≤ σ.steps
 ll : σ.env.loops.length ≤ σ.steps
 cv : L.vc = .any ∨ L.vc = .full
 cl : L.lc = .any ∨ L.lc = .full
 cw : L.wc = .any ∨ L.wc = .full
structure Fw (L L' : Lr) (h h' : H) : Prop where
 nx : h.next ≤ h'.next
 x : L'.x = L.x
 same : ∀ id, id < h.next → id ∉ L.own → h'.objs id = h.objs id
 own : ∀ id ∈ L'.own, id ∈ L.own ∨ h.next ≤ id
theorem Fw.refl (L : Lr) (h : H) : Fw L L h h := ⟨Nat.le_refl _, rfl, fun _ _ _ => rfl, fun _ hi => .inl hi⟩
theorem Fw.trans {L L' L'' : Lr} {h h' h'' : H} (a : Fw L L' h h') (b : Fw L' L'' h' h'') : Fw L L'' h h'' :=
 ⟨Nat.le_trans a.nx b.nx, b.x.trans a.x, fun id hl hn => by
  rw [b.same id (Nat.lt_of_lt_of_le hl a.nx) (fun hi => (a.own id hi).elim hn (fun hh => absurd hl (Nat.not_lt.2 hh)))]
  exact a.same id hl hn, fun id hi => (b.own id hi).elim (fun hh => a.own id hh) (fun hh => .inr (Nat.le_trans a.nx hh))⟩
theorem Lr.x_mem (L : Lr) : L.x ∈ L.own := by simp [Lr.own]
theorem Lr.o_mem {L : Lr} {id : Nat} (h : L.o = some id) : id ∈ L.own := by simp [Lr.own, h]
theorem Lr.r_mem {L : Lr} {r : Nat × Nat} (h : r ∈ L.rs) : r.1 ∈ L.own := by
 simp only [Lr.own, List.mem_cons, List.mem_append, List.mem_map]
 exact .inr (.inr ⟨r, h, rfl⟩)
theorem Rt.xo {p : Prg} {L : Lr} {σ : TS} {h : H} (A : Rt p L σ h) {id : Nat} (ho : L.o = some id) : id ≠ L.x := by
 have := A.nd
 simp only [Lr.own, List.nodup_cons, List.mem_append, not_or, ho, Option.toList_some, List.mem_singleton] at this
 exact fun e => this.1.1 e.symm
theorem Rt.xr {p : Prg} {L : Lr} {σ : TS} {h : H} (A : Rt p L σ h) {r : Nat × Nat} (hr : r ∈ L.rs) : r.1 ≠ L.x := by
 have := A.nd
 simp only [Lr.own, List.nodup_cons, List.mem_append, not_or, List.mem_map] at this
 exact fun e => this.1.2 ⟨r, hr, e⟩
theorem Rt.or {p : Prg} {L : Lr} {σ : TS} {h : H} (A : Rt p L σ h) {id : Nat} (ho : L.o = some id) {r : Nat × Nat} (hr : r ∈ L.rs) : r.1 ≠ id := by
 have := A.nd
 simp only [Lr.own, List.nodup_cons, ho, Option.toList_some, List.cons_append, List.nil_append, List.mem_map] at this
 exact fun e => this.2.1 ⟨r, hr, e⟩
theorem Rt.write {p : Prg} {L L' : Lr} {σ σ' : TS} {h : H} (A : Rt p L σ h) (hx : L'.x = L.x) (ho : L'.o = L.o) (hr : L'.rs = L.rs) (hw : σ'.env.words = σ.env.words)
  (es : ∀ s, findL s L'.es = (σ'.env.vars s).map fun r => Kn.mk r.1 r.2 false 0) (vl : L'.es.length ≤ σ'.steps) (ll : σ'.env.loops.length ≤ σ'.steps) (cv : L'.vc = .any ∨ L'.vc = .full) (cl : L'.lc = .any ∨ L'.lc = .full) (cw : L'.wc = .any ∨ L'.wc = .full) :
  Rt p L' σ' (h.set L.x (.cells (L'.cs p σ'))) ∧ Fw L L' h (h.set L.x (.cells (L'.cs p σ'))) := by
 have hown : L'.own = L.own := by unfold Lr.own; rw [hx, ho, hr]
 refine ⟨⟨by simp [set_objs, hx], ?_, es, by rw [hr, hw]; exact A.len, fun i ws hi => ?_, by rw [hown]; exact A.nd, by rw [hown]; exact A.lt, vl, ll, cv, cl, cw⟩, ⟨Nat.le_refl _, hx, fun id _ hn => ?_, fun id hi => .inl (by rw [← hown]; exact hi)⟩⟩
 ·have h0 := A.o
  have hh := fun id (e : L.o = some id) => A.xo e
  rw [ho, hr]
  revert h0 hh
  cases L.o with
  | none => intro h0 _; exact h0
  | some id => intro h0 hh; show (h.set _ _).objs id = _; rw [set_objs, if_neg (hh id rfl)]; exact h0
 ·rw [hw] at hi
  obtain ⟨id, a, b⟩ := A.ws i ws hi
  refine ⟨id, by rw [hr]; exact a, ?_⟩
  rw [set_objs, if_neg (A.xr (List.mem_of_getElem? a))]; exact b
 ·rw [set_objs, if_neg (fun e => hn (by rw [e]; exact L.x_mem))]
theorem Rt.count {p : Prg} {L : Lr} {σ : TS} {h : H} (A : Rt p L σ h) (σ' : TS) (he : σ'.env = σ.env) (hs : σ.steps ≤ σ'.steps) : Rt p L σ' (h.set L.x (.cells (L.cs p σ'))) ∧ Fw L L h (h.set L.x (.cells (L.cs p σ'))) :=
 A.write rfl rfl rfl (by rw [he]) (by rw [he]; exact A.es) (Nat.le_trans A.vl hs) (by rw [he]; exact Nat.le_trans A.ll hs) A.cv A.cl A.cw
theorem ix_nonneg {s : ByteArray} {l : List ByteArray} : (0 ≤ ixI s l) ↔ s ∈ l := by
 unfold ixI
 cases h : l.findIdx? (fun a => decide (a = s)) with
 | none =>
  rw [List.findIdx?_eq_none_iff] at h
  exact ⟨fun h' => absurd h' (by decide), fun hm => by have := h s hm; simp at this⟩
 | some i =>
  obtain ⟨hi, h1, _⟩ := List.findIdx?_eq_some_iff_getElem.1 h
  exact ⟨fun _ => by have : l[i] = s := of_decide_eq_true h1; rw [← this]; exact List.getElem_mem hi, fun _ => Int.natCast_nonneg i⟩
theorem ix_ins {p : Prg} {s : ByteArray} : (0 ≤ ixI s (p.ins.map InD.name)) ↔ (inOf p s).isSome = true := by
 rw [ix_nonneg, List.mem_map]
 unfold inOf
 rw [List.find?_isSome]
 exact ⟨fun ⟨d, h1, h2⟩ => ⟨d, h1, by simpa using h2⟩, fun ⟨d, h1, h2⟩ => ⟨d, h1, by simpa using h2⟩⟩
theorem ix_ars {p : Prg} {s : ByteArray} : ixI s (p.arrays.map ArD.name) = match arOf p s with | some i => (i : Int) | none => -1 := by
 unfold ixI arOf
 rw [List.findIdx?_map]
 rfl
theorem ix_find {s : ByteArray} {l : List (ByteArray × Kn)} : (0 ≤ ixI s (l.map (·.1))) ↔ (findL s l).isSome = true := by
 rw [ix_nonneg]
 induction l with
 | nil => simp [findL]
 | cons a l ih =>
  obtain ⟨a, v⟩ := a
  simp only [List.map_cons, List.mem_cons, findL]
  by_cases h : a = s
  ·simp [h]
  ·rw [if_neg h]; rw [← ih]; exact ⟨fun h' => h'.resolve_left (fun e => h e.symm), fun h' => .inr h'⟩
theorem ix_at {s : ByteArray} {l : List (ByteArray × Kn)} {k : Kn} (h : findL s l = some k) : ∃ i : Nat, ixI s (l.map (·.1)) = i ∧ (l.map nmV)[i]? = some (nmV (s, k)) := by
 induction l with
 | nil => simp [findL] at h
 | cons a l ih =>
  obtain ⟨a, v⟩ := a
  simp only [findL] at h
  by_cases c : a = s
  ·rw [if_pos c] at h; cases h
   exact ⟨0, by unfold ixI; simp [List.findIdx?_cons, c], by subst c; rfl⟩
  ·rw [if_neg c] at h
   obtain ⟨i, h1, h2⟩ := ih h
   refine ⟨i + 1, ?_, h2⟩
   unfold ixI at h1 ⊢
   rw [List.map_cons, List.findIdx?_cons]
   simp only [c, decide_false, Bool.false_eq_true, if_false]
   revert h1
   cases List.findIdx? (fun a => decide (a = s)) (l.map (·.1)) with
   | none => intro h1; exact absurd h1 (by show ¬ (-1 : Int) = _; omega)
   | some j => intro h1; simp only [Option.map_some]; have : (j : Int) = i := h1; show ((j + 1 : Nat) : Int) = _; omega
theorem findL_lps {s : ByteArray} {σ : TE} : findL s (lps σ) = (findL s σ.loops).map kcon := by
 unfold lps
 induction σ.loops with
 | nil => rfl
 | cons a l ih =>
  obtain ⟨a, v⟩ := a
  simp only [List.map_cons, findL]
  split
  ·rfl
  ·exact ih
theorem ix_in {p : Prg} {s : ByteArray} {d : InD} (h : inOf p s = some d) : ∃ i : Nat, ixI s (p.ins.map InD.name) = i ∧ (p.ins.map InD.v)[i]? = some d.v := by
 unfold inOf at h
 unfold ixI
 rw [List.findIdx?_map]
 revert h
 induction p.ins with
 | nil => intro h; cases h
 | cons a l ih =>
  intro h
  rw [List.find?_cons] at h
  by_cases c : a.name = s
  ·rw [decide_eq_true c] at h; cases h
   exact ⟨0, by simp [List.findIdx?_cons, c], rfl⟩
  ·rw [decide_eq_false c] at h
   obtain ⟨i, h1, h2⟩ := ih h
   refine ⟨i + 1, ?_, h2⟩
   rw [List.findIdx?_cons]
   simp only [Function.comp, c, decide_false, Bool.false_eq_true, if_false]
   revert h1
   simp only [Function.comp_def]
   cases List.findIdx? (fun x : InD => decide (x.name = s)) l with
   | none => intro h1; exact absurd h1 (by show ¬ (-1 : Int) = _; omega)
   | some j => intro h1; simp only [Option.map_some]; have : (j : Int) = i := h1; show ((j + 1 : Nat) : Int) = _; omega
namespace YtihmoaibgmhjeaaDoor
section
variable {h : H} {K : Out → H → Prop} {p : Prg} {L : Lr} {σ : TS}
theorem takenR {s : ByteArray} (okp : POk p) (A : Rt p L σ h) (hs : σ.steps ≤ 10000) (hK : K (.ret (.bool (takenT p σ.env s))) h) : R 62 [.ptr L.x 0, .str s] h K := by
 refine run62 (Nat.le_of_ble_eq_true rfl) ?_
 have gx := get_of A.x
 have hv0 : V.agg [.vec (p.ins.map InD.v) .any, .vec (p.arrays.map ArD.v) .any, .vec (p.body.map Stm.v) .any] = p.v := rfl
 have m1 : p.ins.length ≤ 9223372036854775807 := by have := okp.li; unfold maxLen at this; omega
 have m2 : p.arrays.length ≤ 9223372036854775807 := by have := okp.la; unfold maxLen at this; omega
 have m3 : (lps σ.env).length ≤ 9223372036854775807 := by have := A.ll; unfold lps; rw [List.length_map]; omega
 have i1 := @ix_ins p s
 have i2 := @ix_nonneg s (p.arrays.map ArD.name)
 have i2' : (arOf p s).isSome = true ↔ s ∈ p.arrays.map ArD.name := by
  rw [← i2, ix_ars]
  cases arOf p s with
  | none => exact ⟨fun h => Bool.noConfusion h, fun h => absurd h (show ¬ (0 : Int) ≤ -1 by decide)⟩
  | some i => exact ⟨fun _ => Int.natCast_nonneg i, fun _ => rfl⟩
 have i3 := @ix_find s (lps σ.env)
 rw [findL_lps, Option.isSome_map] at i3
 rw [← i2'] at i2
 unfold takenT at hK
 simp -dsimp -implicitDefEqProofs only [↓STP, STQ, seval, ir62, gx, Lr.cs]
 rw [hv0]
 refine inputR m1 ?_
 cases c1 : (inOf p s).isSome with
 | true =>
  simp -dsimp -implicitDefEqProofs only [↓STP, STQ, seval, eq_true (i1.2 c1)]
  rw [c1] at hK
  exact hK
 | false =>
  rw [c1] at hK i1
  simp -dsimp -implicitDefEqProofs only [↓STP, STQ, seval, eq_false (show ¬ 0 ≤ ixI s (p.ins.map InD.name) from fun h => by have := i1.1 h; cases this), gx, Lr.cs]
  rw [hv0]
  refine arrayR m2 ?_
  cases c2 : (arOf p s).isSome with
  | true =>
   simp -dsimp -implicitDefEqProofs only [↓STP, STQ, seval, eq_true (i2.2 c2)]
   rw [c2] at hK
   exact hK
  | false =>
   rw [c2] at hK i2
   simp -dsimp -implicitDefEqProofs only [↓STP, STQ, seval, eq_false (show ¬ 0 ≤ ixI s (p.arrays.map ArD.name) from fun h => by have := i2.1 h; cases this), gx, Lr.cs]
   refine findR m3 ?_
   cases c3 : (findL s σ.env.loops).isSome with
   | true =>
    simp -dsimp -implicitDefEqProofs only [↓STP, STQ, seval, eq_true (i3.2 c3)]
    rw [c3] at hK
    exact hK
   | false =>
    rw [c3] at hK i3
    simp -dsimp -implicitDefEqProofs only [↓STP, STQ, seval, eq_false (show ¬ 0 ≤ ixI s ((lps σ.env).map (·.1)) from fun h => by have := i3.1 h; cases this)]
    exact hK
theorem stepR (A : Rt p L σ h) (hs : σ.steps ≤ 10000) (hK : Ans (stepT σ) (fun σ' => ∀ h', Rt p L σ' h' → Fw L L h h' → K (.ret (I 0)) h') (fun e => K (.ret (I e)) h)) : R 60 [.ptr L.x 0] h K := by
 refine run60 (Nat.le_of_ble_eq_true rfl) ?_
 have gx := get_of A.x
 unfold stepT at hK
 by_cases c : 10000 ≤ σ.steps
 ·have c' : (10000 : Int) ≤ (σ.steps : Int) := by omega
  rw [if_pos c] at hK
  simp -dsimp -implicitDefEqProofs only [↓STP, STQ, seval, ir60, gx, Lr.cs, eq_true c']
  exact hK
 ·have c' : ¬ (10000 : Int) ≤ (σ.steps : Int) := by omega
  rw [if_neg c] at hK
  have w1 : IntKind.i64.wrap ((σ.steps : Int) + 1) = ((σ.steps + 1 : Nat) : Int) := by rw [wrap_i64] <;> omega
  simp -dsimp -implicitDefEqProofs only [↓STP, STQ, seval, ir60, gx, Lr.cs, eq_false c', w1, storeV]
  obtain ⟨A', F⟩ := A.count { σ with steps := σ.steps + 1 } rfl (Nat.le_succ _)
  exact hK _ A' F
end
end YtihmoaibgmhjeaaDoor
end Go.Ab
set_option linter.unusedVariables false
set_option linter.unusedSimpArgs false
namespace Go.Ab
theorem ix_none_ins {p : Prg} {s : ByteArray} (h : inOf p s = none) : ¬ 0 ≤ ixI s (p.ins.map InD.name) := fun h' => by
 have := ix_ins.1 h'
 rw [h] at this; cases this
theorem ix_none_find {s : ByteArray} {l : List (ByteArray × Kn)} (h : findL s l = none) : ¬ 0 ≤ ixI s (l.map (·.1)) := fun h' => by
 have := ix_find.1 h'
 rw [h] at this; cases this
theorem arV_cells {d : ArD} : d.v = .agg [.str d.name, I d.size] := rfl
theorem nonneg (i : Nat) : (0 : Int) ≤ (i : Int) := Int.natCast_nonneg i
def zkn : Kn := ⟨0, 0, false, 0⟩
theorem Rt.outer {p : Prg} {L : Lr} {σ : TS} {h : H} (A : Rt p L σ h) {i : Nat} {ws : List Nat} (hi : σ.env.words[i]? = some ws) :
  ∃ o id, L.ov = .ref o 0 L.rs.length 1 ∧ h.get o = some (L.rs.map refV) ∧ (L.rs.map refV)[i]? = some (.ref id 0 ws.length 1) ∧ i < L.rs.length ∧ h.get id = some (natVs ws) := by
 obtain ⟨id, a, b⟩ := A.ws i ws hi
 have hlt : i < L.rs.length := by
  rcases Nat.lt_or_ge i L.rs.length with h' | h'
  ·exact h'
  ·rw [List.getElem?_eq_none h'] at a; cases a
 have h0 := A.o
 cases ho : L.o with
 | none =>
  rw [ho] at h0
  simp only at h0
  rw [h0] at hlt; exact absurd hlt (Nat.not_lt_zero _)
 | some o =>
  rw [ho] at h0
  refine ⟨o, id, by unfold Lr.ov; rw [ho], get_of h0, ?_, hlt, get_of b⟩
  rw [List.getElem?_map, a]; rfl
namespace YtihmoaibgmhjeaaDoor
section
variable {h : H} {K : Out → H → Prop} {p : Prg} {L : Lr} {σ : TS}
theorem variableR {s : ByteArray} (okp : POk p) (hp : PV p) (A : Rt p L σ h) (hs : σ.steps ≤ 10000) (hK : Ans (nameT p σ.env s) (fun k => K (.ret (.tuple [k.v, I 0])) h) (fun e => ∀ k : Kn, K (.ret (.tuple [k.v, I e])) h)) : R 91 [.ptr L.x 0, .str s] h K := by
 refine run91 (Nat.le_of_ble_eq_true rfl) ?_
 have gx := get_of A.x
 have hv0 : V.agg [.vec (p.ins.map InD.v) .any, .vec (p.arrays.map ArD.v) .any, .vec (p.body.map Stm.v) .any] = p.v := rfl
 have m1 : p.ins.length ≤ 9223372036854775807 := by have := okp.li; unfold maxLen at this; omega
 have m3 : (lps σ.env).length ≤ 9223372036854775807 := by have := A.ll; unfold lps; rw [List.length_map]; omega
 have m4 : L.es.length ≤ 9223372036854775807 := by have := A.vl; omega
 unfold nameT at hK
 simp -dsimp -implicitDefEqProofs only [↓STP, STQ, seval, ir91, gx, Lr.cs]
 refine findR m3 ?_
 have e3 := @findL_lps s σ.env
 cases c1 : findL s σ.env.loops with
 | some n =>
  rw [c1] at hK e3
  obtain ⟨i, h1, h2⟩ := ix_at e3
  rw [h1]
  simp -dsimp -implicitDefEqProofs only [↓STP, STQ, seval, eq_true (nonneg i), gx, Lr.cs, h2, nmV, storeV]
  exact hK
 | none =>
  rw [c1] at hK e3
  simp -dsimp -implicitDefEqProofs only [↓STP, STQ, seval, eq_false (ix_none_find e3), gx, Lr.cs]
  refine findR m4 ?_
  have e4 := A.es s
  cases c2 : σ.env.vars s with
  | some r =>
   obtain ⟨k, w⟩ := r
   rw [c2] at hK e4
   obtain ⟨i, h1, h2⟩ := ix_at e4
   rw [h1]
   simp -dsimp -implicitDefEqProofs only [↓STP, STQ, seval, eq_true (nonneg i), gx, Lr.cs, h2, nmV, storeV]
   exact hK
  | none =>
   rw [c2] at hK e4
   simp -dsimp -implicitDefEqProofs only [↓STP, STQ, seval, eq_false (ix_none_find e4), gx, Lr.cs]
   rw [hv0]
   refine inputR m1 ?_
   cases c3 : inOf p s with
   | none =>
    rw [c3] at hK
    simp -dsimp -implicitDefEqProofs only [↓STP, STQ, seval, eq_false (ix_none_ins c3), storeV]
    exact hK zkn
   | some d =>
    rw [c3] at hK
    obtain ⟨i, h1, h2⟩ := ix_in c3
    rw [h1]
    have hd := hp.ins d (inOf_mem c3).1
    simp only at hK
    by_cases cs : d.size = 0
    ·rw [if_pos cs] at hK
     have hw : d.width = ((d.width.toNat : Nat) : Int) := by omega
     simp -dsimp -implicitDefEqProofs only [↓STP, STQ, seval, eq_true (nonneg i), gx, Lr.cs, h2, inV_cells, eq_true cs]
     rw [hw]
     refine numberR ?_
     simp -dsimp -implicitDefEqProofs only [↓STP, STQ, seval, storeV, kn_cells]
     exact hK
    ·rw [if_neg cs] at hK
     simp -dsimp -implicitDefEqProofs only [↓STP, STQ, seval, eq_true (nonneg i), gx, Lr.cs, h2, inV_cells, eq_false cs, storeV]
     exact hK zkn
theorem indexR {s : ByteArray} {k : Kn} (okp : POk p) (hp : PV p) (A : Rt p L σ h) (ok : EOkT p σ.env) (hv : KOk k) (hK : Ans (indexT p σ.env s k) (fun k => K (.ret (.tuple [k.v, I 0])) h) (fun e => ∀ k : Kn, K (.ret (.tuple [k.v, I e])) h)) : R 92 [.ptr L.x 0, .str s, k.v] h K := by
 refine run92 (Nat.le_of_ble_eq_true rfl) ?_
 have gx := get_of A.x
 have hv0 : V.agg [.vec (p.ins.map InD.v) .any, .vec (p.arrays.map ArD.v) .any, .vec (p.body.map Stm.v) .any] = p.v := rfl
 have m1 : p.ins.length ≤ 9223372036854775807 := by have := okp.li; unfold maxLen at this; omega
 have m2 : p.arrays.length ≤ 9223372036854775807 := by have := okp.la; unfold maxLen at this; omega
 unfold indexT at hK
 simp -dsimp -implicitDefEqProofs only [↓STP, STQ, seval, ir92, kn_cells, gx, Lr.cs]
 rw [hv0]
 refine inputR m1 ?_
 simp -dsimp -implicitDefEqProofs only [↓STP, STQ, seval, gx, Lr.cs, hv0.symm, eq_self]
 rw [hv0]
 refine arrayR m2 ?_
 have e2 := @ix_ars p s
 cases c2 : arOf p s with
 | some i =>
  rw [c2] at e2 hK
  simp only at e2 hK
  rw [e2]
  obtain ⟨d, hd, hn, hg⟩ := arOf_some c2
  rw [hg] at hK
  have hds := hp.ars d (List.mem_of_getElem? hd)
  have hdv : (p.arrays.map ArD.v)[i]? = some d.v := by rw [List.getElem?_map, hd]; rfl
  have hwl : i < σ.env.words.length := by
   rw [ok.wlen]
   rcases Nat.lt_or_ge i p.arrays.length with h' | h'
   ·exact h'
   ·rw [List.getElem?_eq_none h'] at hd; cases hd
  have hws := List.getElem?_eq_getElem hwl
  generalize σ.env.words[i] = ws at hws
  have hlen := (ok.words i ws d hws hd).1
  simp -dsimp -implicitDefEqProofs only [↓STP, STQ, seval, eq_true (nonneg i), gx, Lr.cs, hdv, arV_cells]
  rw [show (V.agg [I k.kind, I k.w, .bool k.is, W k.val]) = k.v from rfl]
  refine placeR (by omega) (by omega) hv.lt ?_
  cases hpl : placeT k d.size with
  | error e =>
   rw [hpl] at hK
   simp only [Ans_error, andT_error] at hK ⊢
   have he : e ≠ 0 := by
    unfold placeT at hpl
    split at hpl
    ·cases hpl; decide
    ·split at hpl
     ·cases hpl; decide
     ·cases hpl
   simp -dsimp -implicitDefEqProofs only [↓STP, STQ, seval, eq_false he, storeV]
   exact hK zkn
  | ok n =>
   rw [hpl] at hK
   simp only [Ans_ok, andT_ok] at hK ⊢
   have hn : n < ws.length := by
    unfold placeT at hpl
    split at hpl
    ·cases hpl
    ·split at hpl
     ·cases hpl
     ·cases hpl; omega
   obtain ⟨o, id, o1, o2, o3, o4, o5⟩ := A.outer hws
   have hnI : ((n : Nat) : Int) < ((ws.length : Nat) : Int) := by omega
   have hiI : ((i : Nat) : Int) < ((L.rs.length : Nat) : Int) := by omega
   simp -dsimp -implicitDefEqProofs only [↓STP, STQ, seval, gx, Lr.cs, o1, o2, o3, o5, eq_true hiI, nat_vs_get hn, eq_true hnI, Nat.mul_one]
   refine numberR ?_
   simp -dsimp -implicitDefEqProofs only [↓STP, STQ, seval, storeV, kn_cells]
   have hgw : σ.env.words.getD i [] = ws := by rw [List.getD_eq_getElem?_getD, hws]; rfl
   rw [hgw] at hK
   exact hK
 | none =>
  rw [c2] at e2 hK
  simp only at e2 hK
  rw [e2]
  cases c1 : inOf p s with
  | none =>
   rw [c1] at hK
   have hneg : ixI s (p.ins.map InD.name) < 0 := by have := ix_none_ins c1; omega
   simp -dsimp -implicitDefEqProofs only [↓STP, STQ, seval, eq_true hneg, storeV]
   exact hK zkn
  | some d =>
   rw [c1] at hK
   obtain ⟨i, h1, h2⟩ := ix_in c1
   rw [h1]
   have hd := hp.ins d (inOf_mem c1).1
   have hneg : ¬ (i : Int) < 0 := by omega
   simp only at hK
   by_cases cs : d.size = 0
   ·rw [if_pos cs] at hK
    simp -dsimp -implicitDefEqProofs only [↓STP, STQ, seval, eq_false hneg, gx, Lr.cs, h2, inV_cells, eq_true cs, storeV]
    exact hK zkn
   ·rw [if_neg cs] at hK
    have hw : d.width = ((d.width.toNat : Nat) : Int) := by omega
    simp -dsimp -implicitDefEqProofs only [↓STP, STQ, seval, eq_false hneg, gx, Lr.cs, h2, inV_cells, eq_false cs, storeV]
    rw [show (V.agg [I k.kind, I k.w, .bool k.is, W k.val]) = k.v from rfl]
    refine placeR (by omega) (by omega) hv.lt ?_
    cases hpl : placeT k d.size with
    | error e =>
     rw [hpl] at hK
     simp only [Ans_error, andT_error] at hK ⊢
     simp -dsimp -implicitDefEqProofs only [↓STP, STQ, seval, gx, Lr.cs, h2, inV_cells]
     rw [hw]
     refine numberR ?_
     simp -dsimp -implicitDefEqProofs only [↓STP, STQ, seval, storeV, kn_cells]
     exact hK (knum d.width.toNat)
    | ok n =>
     rw [hpl] at hK
     simp only [Ans_ok, andT_ok] at hK ⊢
     simp -dsimp -implicitDefEqProofs only [↓STP, STQ, seval, gx, Lr.cs, h2, inV_cells]
     rw [hw]
     refine numberR ?_
     simp -dsimp -implicitDefEqProofs only [↓STP, STQ, seval, storeV, kn_cells]
     exact hK
theorem opR {o : Int} {a b : Kn} (o1 : 1 ≤ o) (o2 : o ≤ 7) (ha : KOk a) (hb : KOk b)
  (hK : Ans (opK o a b) (fun r => ∀ v : Nat, (r.w ≤ 60 → v = r.val) → K (.ret (.tuple [({ r with val := v } : Kn).v, I 0])) h) (fun e => ∀ k : Kn, K (.ret (.tuple [k.v, I e])) h)) : R 93 [I o, a.v, b.v] h K := by
 refine run93 (Nat.le_of_ble_eq_true rfl) ?_
 have oo : o = 1 ∨ o = 2 ∨ o = 3 ∨ o = 4 ∨ o = 5 ∨ o = 6 ∨ o = 7 := by omega
 have hal := ha.lt
 have hbl := hb.lt
 have haw := ha.w
 have hbw := hb.w
 have hm : (if (b.w : Int) > (a.w : Int) then (b.w : Int) else (a.w : Int)) = ((max a.w b.w : Nat) : Int) := by split <;> omega
 have w1 : IntKind.i64.wrap (((max a.w b.w : Nat) : Int) + 1) = ((max a.w b.w + 1 : Nat) : Int) := by rw [wrap_i64] <;> omega
 have w2 : IntKind.i64.wrap ((a.w : Int) + (b.w : Int)) = ((a.w + b.w : Nat) : Int) := by rw [wrap_i64] <;> omega
 have w3 := wuadd (show a.val + b.val < 18446744073709551616 by omega)
 have w4 : IntKind.u64.wrap ((a.val : Int) * (b.val : Int)) = ((a.val * b.val % 18446744073709551616 : Nat) : Int) := by rw [wrap_u64, ← Int.natCast_mul]; exact (Int.natCast_emod _ _).symm
 have pm : a.w + b.w ≤ 60 → a.val * b.val % 18446744073709551616 = a.val * b.val := fun hw => by
  have h1 : a.val * b.val < 2 ^ (a.w + b.w) := by rw [Nat.pow_add]; exact Nat.mul_lt_mul'' ha.val hb.val
  have h2 : 2 ^ (a.w + b.w) ≤ 2 ^ 60 := Nat.pow_le_pow_right (by decide) hw
  exact Nat.mod_eq_of_lt (by omega)
 have ka := ha.kind
 have kb := hb.kind
 have t12 : ¬ (1 : Int) = 2 := by decide
 unfold opK at hK
 rcases oo with rfl | rfl | rfl | rfl | rfl | rfl | rfl
 ·rw [show opKind 1 = 1 from by decide] at hK
  rcases ka with ka | ka
  rotate_left
  ·rw [if_pos (.inl (by rw [ka]; decide))] at hK
   simp -dsimp -implicitDefEqProofs only [↓STP, STQ, seval, ir93, kn_cells, ka, storeV]
   exact hK zkn
  rcases kb with kb | kb
  rotate_left
  ·rw [if_pos (.inr (by rw [kb]; decide))] at hK
   simp -dsimp -implicitDefEqProofs only [↓STP, STQ, seval, ir93, kn_cells, ka, kb, storeV]
   exact hK zkn
  rw [if_neg (by simp [ka, kb]), if_pos rfl] at hK
  cases ca : a.is <;> cases cb : b.is <;> rw [ca, cb] at hK
  ·simp -dsimp -implicitDefEqProofs only [↓STP, STQ, seval, ir93, kn_cells, ka, kb, storeV, ca, cb, maxV_two, hm, w1]
   exact hK 0 (fun _ => rfl)
  ·simp -dsimp -implicitDefEqProofs only [↓STP, STQ, seval, ir93, kn_cells, ka, kb, storeV, ca, cb, maxV_two, hm, w1]
   exact hK 0 (fun _ => rfl)
  ·simp -dsimp -implicitDefEqProofs only [↓STP, STQ, seval, ir93, kn_cells, ka, kb, storeV, ca, cb, maxV_two, hm, w1]
   exact hK 0 (fun _ => rfl)
  ·by_cases c60 : ((max a.w b.w + 1 : Nat) : Int) ≤ 60
   ·simp -dsimp -implicitDefEqProofs only [↓STP, STQ, seval, ir93, kn_cells, ka, kb, storeV, ca, cb, maxV_two, hm, w1, eq_true c60, w3]
    exact hK _ (fun hw => rfl)
   ·simp -dsimp -implicitDefEqProofs only [↓STP, STQ, seval, ir93, kn_cells, ka, kb, storeV, ca, cb, maxV_two, hm, w1, eq_false c60]
    exact hK 0 (fun hw => absurd (show max a.w b.w + 1 ≤ 60 from hw) (by omega))
 ·rw [show opKind 2 = 1 from by decide] at hK
  rcases ka with ka | ka
  rotate_left
  ·rw [if_pos (.inl (by rw [ka]; decide))] at hK
   simp -dsimp -implicitDefEqProofs only [↓STP, STQ, seval, ir93, kn_cells, ka, storeV]
   exact hK zkn
  rcases kb with kb | kb
  rotate_left
  ·rw [if_pos (.inr (by rw [kb]; decide))] at hK
   simp -dsimp -implicitDefEqProofs only [↓STP, STQ, seval, ir93, kn_cells, ka, kb, storeV]
   exact hK zkn
  rw [if_neg (by simp [ka, kb]), if_neg (by decide), if_pos rfl] at hK
  cases ca : a.is <;> cases cb : b.is <;> rw [ca, cb] at hK
  ·simp -dsimp -implicitDefEqProofs only [↓STP, STQ, seval, ir93, kn_cells, ka, kb, storeV, ca, cb, maxV_two]
   exact hK 0 (fun _ => rfl)
  ·simp -dsimp -implicitDefEqProofs only [↓STP, STQ, seval, ir93, kn_cells, ka, kb, storeV, ca, cb, maxV_two]
   exact hK 0 (fun _ => rfl)
  ·simp -dsimp -implicitDefEqProofs only [↓STP, STQ, seval, ir93, kn_cells, ka, kb, storeV, ca, cb, maxV_two]
   exact hK 0 (fun _ => rfl)
  ·have c60 : (a.w : Int) ≤ 60 := by omega
   by_cases c : (b.val : Int) ≤ (a.val : Int)
   ·have w5 : IntKind.u64.wrap ((a.val : Int) - (b.val : Int)) = ((a.val - b.val : Nat) : Int) := by rw [wrap_u64_self] <;> omega
    simp -dsimp -implicitDefEqProofs only [↓STP, STQ, seval, ir93, kn_cells, ka, kb, storeV, ca, cb, eq_true c60, eq_true c, w5]
    exact hK _ (fun _ => rfl)
   ·simp -dsimp -implicitDefEqProofs only [↓STP, STQ, seval, ir93, kn_cells, ka, kb, storeV, ca, cb, eq_true c60, eq_false c]
    exact hK 0 (fun _ => by show 0 = a.val - b.val; omega)
 ·rw [show opKind 3 = 1 from by decide] at hK
  rcases ka with ka | ka
  rotate_left
  ·rw [if_pos (.inl (by rw [ka]; decide))] at hK
   simp -dsimp -implicitDefEqProofs only [↓STP, STQ, seval, ir93, kn_cells, ka, storeV]
   exact hK zkn
  rcases kb with kb | kb
  rotate_left
  ·rw [if_pos (.inr (by rw [kb]; decide))] at hK
   simp -dsimp -implicitDefEqProofs only [↓STP, STQ, seval, ir93, kn_cells, ka, kb, storeV]
   exact hK zkn
  rw [if_neg (by simp [ka, kb]), if_neg (by decide), if_neg (by decide), if_pos rfl] at hK
  cases ca : a.is <;> cases cb : b.is <;> rw [ca, cb] at hK
  ·simp -dsimp -implicitDefEqProofs only [↓STP, STQ, seval, ir93, kn_cells, ka, kb, storeV, ca, cb, w2]
   exact hK 0 (fun _ => rfl)
  ·simp -dsimp -implicitDefEqProofs only [↓STP, STQ, seval, ir93, kn_cells, ka, kb, storeV, ca, cb, w2]
   exact hK 0 (fun _ => rfl)
  ·simp -dsimp -implicitDefEqProofs only [↓STP, STQ, seval, ir93, kn_cells, ka, kb, storeV, ca, cb, w2]
   exact hK 0 (fun _ => rfl)
  ·by_cases c60 : ((a.w + b.w : Nat) : Int) ≤ 60
   ·simp -dsimp -implicitDefEqProofs only [↓STP, STQ, seval, ir93, kn_cells, ka, kb, storeV, ca, cb, w2, eq_true c60, w4]
    exact hK _ (fun hw => pm hw)
   ·simp -dsimp -implicitDefEqProofs only [↓STP, STQ, seval, ir93, kn_cells, ka, kb, storeV, ca, cb, w2, eq_false c60]
    exact hK 0 (fun hw => absurd (show a.w + b.w ≤ 60 from hw) (by omega))
 ·rw [show opKind 4 = 1 from by decide] at hK
  rcases ka with ka | ka
  rotate_left
  ·rw [if_pos (.inl (by rw [ka]; decide))] at hK
   simp -dsimp -implicitDefEqProofs only [↓STP, STQ, seval, ir93, kn_cells, ka, storeV]
   exact hK zkn
  rcases kb with kb | kb
  rotate_left
  ·rw [if_pos (.inr (by rw [kb]; decide))] at hK
   simp -dsimp -implicitDefEqProofs only [↓STP, STQ, seval, ir93, kn_cells, ka, kb, storeV]
   exact hK zkn
  rw [if_neg (by simp [ka, kb]), if_neg (by decide), if_neg (by decide), if_neg (by decide)] at hK
  cases ca : a.is <;> cases cb : b.is
  all_goals
   simp -dsimp -implicitDefEqProofs only [↓STP, STQ, seval, ir93, kn_cells, ka, kb, storeV, ca, cb]
   exact hK 0 (fun _ => rfl)
 ·rw [show opKind 5 = 1 from by decide] at hK
  rcases ka with ka | ka
  rotate_left
  ·rw [if_pos (.inl (by rw [ka]; decide))] at hK
   simp -dsimp -implicitDefEqProofs only [↓STP, STQ, seval, ir93, kn_cells, ka, storeV]
   exact hK zkn
  rcases kb with kb | kb
  rotate_left
  ·rw [if_pos (.inr (by rw [kb]; decide))] at hK
   simp -dsimp -implicitDefEqProofs only [↓STP, STQ, seval, ir93, kn_cells, ka, kb, storeV]
   exact hK zkn
  rw [if_neg (by simp [ka, kb]), if_neg (by decide), if_neg (by decide), if_neg (by decide)] at hK
  cases ca : a.is <;> cases cb : b.is
  all_goals
   simp -dsimp -implicitDefEqProofs only [↓STP, STQ, seval, ir93, kn_cells, ka, kb, storeV, ca, cb]
   exact hK 0 (fun _ => rfl)
 ·rw [show opKind 6 = 2 from by decide] at hK
  rcases ka with ka | ka
  ·rw [if_pos (.inl (by rw [ka]; decide))] at hK
   simp -dsimp -implicitDefEqProofs only [↓STP, STQ, seval, ir93, kn_cells, ka, storeV]
   exact hK zkn
  rcases kb with kb | kb
  ·rw [if_pos (.inr (by rw [kb]; decide))] at hK
   simp -dsimp -implicitDefEqProofs only [↓STP, STQ, seval, ir93, kn_cells, ka, kb, storeV]
   exact hK zkn
  rw [if_neg (by simp [ka, kb]), if_neg (by decide), if_neg (by decide), if_neg (by decide)] at hK
  cases ca : a.is <;> cases cb : b.is
  all_goals
   simp -dsimp -implicitDefEqProofs only [↓STP, STQ, seval, ir93, kn_cells, ka, kb, storeV, ca, cb]
   exact hK 0 (fun _ => rfl)
 ·rw [show opKind 7 = 2 from by decide] at hK
  rcases ka with ka | ka
  ·rw [if_pos (.inl (by rw [ka]; decide))] at hK
   simp -dsimp -implicitDefEqProofs only [↓STP, STQ, seval, ir93, kn_cells, ka, storeV]
   exact hK zkn
  rcases kb with kb | kb
  ·rw [if_pos (.inr (by rw [kb]; decide))] at hK
   simp -dsimp -implicitDefEqProofs only [↓STP, STQ, seval, ir93, kn_cells, ka, kb, storeV]
   exact hK zkn
  rw [if_neg (by simp [ka, kb]), if_neg (by decide), if_neg (by decide), if_neg (by decide)] at hK
  cases ca : a.is <;> cases cb : b.is
  all_goals
   simp -dsimp -implicitDefEqProofs only [↓STP, STQ, seval, ir93, kn_cells, ka, kb, storeV, ca, cb]
   exact hK 0 (fun _ => rfl)
end
end YtihmoaibgmhjeaaDoor
end Go.Ab
set_option linter.unusedVariables false
set_option linter.unusedSimpArgs false
namespace Go.Ab
namespace YtihmoaibgmhjeaaDoor
section
variable {K : Out → H → Prop} {p : Prg} {L : Lr}
theorem madeR {σ : TS} {h : H} {k o : Int} {n : Nat} {s : ByteArray} {ks : List Exp} {l : List Kn} {lv : Nat} (okp : POk p) (hp : PV p) (A : Rt p L σ h) (okt : TOk p σ) (hv : VE (.mk k o n s ks) lv) (hll : l.length = ks.length) (hkl : ∀ k ∈ l, KOk k)
  (hK : Ans (madeT p σ.env k o n s l) (fun r => ∀ v : Nat, (r.w ≤ 60 → v = r.val) → K (.ret (.tuple [({ r with val := v } : Kn).v, I 0])) h) (fun e => ∀ k : Kn, K (.ret (.tuple [k.v, I e])) h)) :
  R 89 [.ptr L.x 0, (Exp.mk k o n s ks).v, .vec (l.map Kn.v) .any] h K := by
 obtain ⟨v1, v2, v3, v4, v5, v6, v7, v8, v9⟩ := VE_mk.1 hv
 have hn' : n < 1152921504606846976 := by omega
 have okn := fun i => nthK_ok hkl i
 have hkk : k = 1 ∨ k = 2 ∨ k = 3 ∨ k = 4 ∨ k = 5 ∨ k = 6 := by
  unfold kidsN at v2
  repeat' split at v2
  all_goals omega
 refine run89 (Nat.le_of_ble_eq_true rfl) ?_
 have t12 : ¬ (1 : Int) = 2 := by decide
 unfold madeT at hK
 rcases hkk with rfl | rfl | rfl | rfl | rfl | rfl
 ·rw [if_pos rfl] at hK
  simp -dsimp -implicitDefEqProofs only [↓STP, STQ, seval, Exp.v_mk, ir89]
  refine exactR (by omega) ?_
  simp -dsimp -implicitDefEqProofs only [↓STP, STQ, seval, storeV, kn_cells]
  exact hK _ (fun _ => rfl)
 ·rw [if_neg (by decide), if_pos rfl] at hK
  simp -dsimp -implicitDefEqProofs only [↓STP, STQ, seval, Exp.v_mk, ir89]
  refine variableR okp hp A okt.steps ?_
  refine ans_mono hK (fun k hk => ?_) (fun e he k => ?_)
  ·simp -dsimp -implicitDefEqProofs only [↓STP, STQ, seval, storeV, kn_cells]
   exact hk _ (fun _ => rfl)
  ·simp -dsimp -implicitDefEqProofs only [↓STP, STQ, seval, storeV, kn_cells]
   exact he k
 ·rw [if_neg (by decide), if_neg (by decide), if_pos rfl] at hK
  have hl1 : l.length = 1 := by rw [hll]; have : kidsN 3 = 1 := rfl; omega
  have g0 := nthK_get (l := l) (i := 0) (by omega)
  simp -dsimp -implicitDefEqProofs only [↓STP, STQ, seval, Exp.v_mk, ir89, g0, Kn.v_clen, Kn.v_mkEl]
  refine indexR okp hp A okt.env (okn 0) ?_
  refine ans_mono hK (fun k hk => ?_) (fun e he k => ?_)
  ·simp -dsimp -implicitDefEqProofs only [↓STP, STQ, seval, storeV, kn_cells]
   exact hk _ (fun _ => rfl)
  ·simp -dsimp -implicitDefEqProofs only [↓STP, STQ, seval, storeV, kn_cells]
   exact he k
 ·rw [if_neg (by decide), if_neg (by decide), if_neg (by decide), if_pos rfl] at hK
  have hl1 : l.length = 2 := by rw [hll]; have : kidsN 4 = 2 := rfl; omega
  have g0 := nthK_get (l := l) (i := 0) (by omega)
  have g1 := nthK_get (l := l) (i := 1) (by omega)
  obtain ⟨o1, o2⟩ := v5 rfl
  simp -dsimp -implicitDefEqProofs only [↓STP, STQ, seval, Exp.v_mk, ir89, g0, g1, Kn.v_clen, Kn.v_mkEl]
  refine opR o1 o2 (okn 0) (okn 1) ?_
  refine ans_mono hK (fun k hk v hv => ?_) (fun e he k => ?_)
  ·simp -dsimp -implicitDefEqProofs only [↓STP, STQ, seval, storeV, kn_cells]
   exact hk v hv
  ·simp -dsimp -implicitDefEqProofs only [↓STP, STQ, seval, storeV, kn_cells]
   exact he k
 ·rw [if_neg (by decide), if_neg (by decide), if_neg (by decide), if_neg (by decide), if_pos rfl] at hK
  have hl1 : l.length = 1 := by rw [hll]; have : kidsN 5 = 1 := rfl; omega
  have g0 := nthK_get (l := l) (i := 0) (by omega)
  by_cases c : (nthK l 0).kind = 2
  ·rw [if_neg (by simp [c])] at hK
   simp -dsimp -implicitDefEqProofs only [↓STP, STQ, seval, Exp.v_mk, ir89, g0, Kn.v_clen, Kn.v_mkEl, kn_cells, eq_true c, storeV]
   exact hK 0 (fun _ => rfl)
  ·rw [if_pos c] at hK
   simp -dsimp -implicitDefEqProofs only [↓STP, STQ, seval, Exp.v_mk, ir89, g0, Kn.v_clen, Kn.v_mkEl, kn_cells, eq_false c, storeV]
   exact hK zkn
 ·rw [if_neg (by decide), if_neg (by decide), if_neg (by decide), if_neg (by decide), if_neg (by decide)] at hK
  have hl1 : l.length = 3 := by rw [hll]; have : kidsN 6 = 3 := rfl; omega
  have g0 := nthK_get (l := l) (i := 0) (by omega)
  have g1 := nthK_get (l := l) (i := 1) (by omega)
  have g2 := nthK_get (l := l) (i := 2) (by omega)
  have hmx : (if ((nthK l 2).w : Int) > ((nthK l 1).w : Int) then ((nthK l 2).w : Int) else ((nthK l 1).w : Int)) = ((max (nthK l 1).w (nthK l 2).w : Nat) : Int) := by split <;> omega
  by_cases c : (nthK l 0).kind = 2
  ·by_cases c2 : (nthK l 1).kind = (nthK l 2).kind
   ·rw [if_neg (by simp [c, c2])] at hK
    simp -dsimp -implicitDefEqProofs only [↓STP, STQ, seval, Exp.v_mk, ir89, g0, g1, g2, Kn.v_clen, Kn.v_mkEl, kn_cells, eq_true c, eq_true c2, maxV_two, hmx, storeV]
    exact hK 0 (fun _ => rfl)
   ·rw [if_pos (.inr (fun e => c2 e.symm))] at hK
    simp -dsimp -implicitDefEqProofs only [↓STP, STQ, seval, Exp.v_mk, ir89, g0, g1, g2, Kn.v_clen, Kn.v_mkEl, kn_cells, eq_true c, eq_false c2, storeV]
    exact hK zkn
  ·rw [if_pos (.inl c)] at hK
   simp -dsimp -implicitDefEqProofs only [↓STP, STQ, seval, Exp.v_mk, ir89, g0, g1, g2, Kn.v_clen, Kn.v_mkEl, kn_cells, eq_false c, storeV]
   exact hK zkn
def SpR (p : Prg) (L : Lr) (e : Exp) : Prop := ∀ (σ : TS) (h : H) (K : Out → H → Prop), Rt p L σ h → TOk p σ →
 Ans (exprT p σ.env e) (fun r => ∀ h', Rt p L { σ with most := max σ.most r.2 } h' → Fw L L h h' → K (.ret (.tuple [r.1.v, I 0])) h') (fun er => er ≠ 0 → ∀ h' (k : Kn), Fw L L h h' → K (.ret (.tuple [k.v, I er])) h') →
 R 80 [.ptr L.x 0, e.v] h K
theorem allR_of {l : List Exp} {lv : Nat} (hp : PV p) (hl : l.length ≤ 4) (ih : ∀ x ∈ l, SpR p L x) (hv : ∀ x ∈ l, VE x lv) (nz : ∀ x ∈ l, ∀ σ, Nz (exprT p σ x)) {σ : TS} {h : H} (A : Rt p L σ h) (ok : TOk p σ)
  (hK : Ans (exprsT p σ.env l) (fun r => ∀ h', Rt p L { σ with most := max σ.most r.2 } h' → Fw L L h h' → K (.ret (.tuple [.vec (r.1.map Kn.v) .any, I 0])) h') (fun er => er ≠ 0 → ∀ h', Fw L L h h' → K (.ret (.tuple [.vec [] .any, I er])) h')) :
  R 61 [.ptr L.x 0, .vec (l.map Exp.v) .any] h K := by
 refine run61 (Nat.le_of_ble_eq_true rfl) ?_
 simp -dsimp -implicitDefEqProofs only [↓STP, STQ, seval, ir61, List.length_map]
 refine codeT_loop (fun k s => ∃ j acc m h', j ≤ l.length ∧ k = l.length - j ∧ exprsT p σ.env (l.take j) = .ok (acc, m) ∧ acc.length = j ∧ m ≤ 60 ∧ Rt p L { σ with most := max σ.most m } h' ∧ Fw L L h h' ∧
  s = ⟨upd (upd (upd (upd ρ0 0 (.ptr L.x 0)) 1 (.vec (l.map Exp.v) .any)) 6 (.vec (acc.map Kn.v) (.own 0))) 7 (I j), m0, 1, [], h'⟩) (i := l.length) ⟨0, [], 0, h, Nat.zero_le _, rfl, rfl, rfl, by decide, by rw [Nat.max_eq_left (Nat.zero_le _)]; exact A, Fw.refl _ _, by simp -dsimp -implicitDefEqProofs only [↓STP, STQ, seval] <;> rfl⟩ ?_ mono
 rintro k s ⟨j, acc, m, h', hj, rfl, hr, hac, hm, A', F', rfl⟩
 rcases Nat.lt_or_ge j l.length with hi | hi
 ·have hget := get_map (f := Exp.v) hi
  have hx := ih _ (List.getElem_mem hi)
  have hvx := hv _ (List.getElem_mem hi)
  have hnz := nz _ (List.getElem_mem hi) σ.env
  have w1 := wiM (show j < 9223372036854775807 by omega)
  have htk := exprsT_take hi hr
  have hok := exprT_ok hp ok.env l[j] lv hvx
  generalize l[j] = x at *
  simp -dsimp -implicitDefEqProofs only [↓STP, STQ, seval, List.length_map, Int.ofNat_lt, hi, hget, storeE, Exp.v_outs, Exp.v_clen, Exp.v_tk, Exp.v_ag, Exp.v_out, eq_self]
  refine hx _ _ _ A' (ok.most' hm) ?_
  rw [most_env]
  cases hex : exprT p σ.env x with
  | error er =>
   rw [hex] at htk
   rw [exprsT_fail htk, Ans_error] at hK
   rw [Ans_error]
   intro hne h'' k F''
   simp -dsimp -implicitDefEqProofs only [↓STP, STQ, seval, kn_cells, storeV, eq_false hne]
   exact hK hne _ (F'.trans F'')
  | ok r =>
   obtain ⟨a, ma⟩ := r
   rw [hex] at htk
   rw [Ans_ok]
   intro h'' A'' F''
   obtain ⟨ka, hma⟩ := hok a ma hex
   simp -dsimp -implicitDefEqProofs only [↓STP, STQ, seval, kn_cells, storeV]
   rw [app1_own (sz := 4) (by simp) mapK_cells rfl (by decide) (by decide) (by rw [List.length_map]; omega)]
   simp -dsimp -implicitDefEqProofs only [↓STP, STQ, seval, w1, mkEl, V.cells]
   refine ⟨l.length - (j + 1), by omega, j + 1, acc ++ [a], max m ma, h'', hi, rfl, htk, by simp [hac], by omega, ?_, F'.trans F'', ?_⟩
   ·have e : ({ σ with most := max σ.most (max m ma) } : TS) = { ({ σ with most := max σ.most m } : TS) with most := max (max σ.most m) ma } := by rw [Nat.max_assoc]
    rw [e]; exact A''
   ·rw [List.map_append]; rfl
 ·have hj' : j = l.length := by omega
  subst hj'
  rw [List.take_length] at hr
  rw [hr, Ans_ok] at hK
  simp -dsimp -implicitDefEqProofs only [↓STP, STQ, seval, List.length_map, Int.lt_irrefl]
  exact hK _ A' F'
theorem exprR (okp : POk p) (hp : PV p) (e : Exp) : ∀ lv, VE e lv → EOk e → SpR p L e := by
 induction e using Exp.ind with
 | h k o n s ks ih =>
  intro lv hv ok σ h K A okt hK
  obtain ⟨v1, v2, v3, v4, v5, v6, v7, v8, v9⟩ := VE_mk.1 hv
  obtain ⟨hk, ho, hn, hs, hl, hks⟩ := EOk_mk ok
  have hl3 := kids4 v2
  refine run80 (Nat.le_of_ble_eq_true rfl) ?_
  simp -dsimp -implicitDefEqProofs only [↓STP, STQ, seval, Exp.v_mk, ir80]
  rw [exprT] at hK
  refine allR_of hp (by omega) (fun x hx => ih x hx _ (v9 x hx) (hks x hx)) v9 (fun x _ _ => exprT_nz x) A okt ?_
  cases h1 : exprsT p σ.env ks with
  | error er =>
   rw [h1] at hK
   intro hne h' F'
   simp -dsimp -implicitDefEqProofs only [↓STP, STQ, seval, storeV, eq_false hne]
   exact hK hne _ zkn F'
  | ok lm =>
   obtain ⟨l, m⟩ := lm
   rw [h1, andT_ok] at hK
   simp only at hK
   intro h' A' F'
   obtain ⟨hkl, hm, hll⟩ := exprsT_ok hp okt.env v9 l m h1
   have hmm : max σ.most m ≤ 60 := (okt.most' hm).most
   simp -dsimp -implicitDefEqProofs only [↓STP, STQ, seval]
   rw [show V.agg [I k, I o, W n, .str s, .vec (ks.map Exp.v) .any] = (Exp.mk k o n s ks).v from Exp.v_mk.symm]
   refine madeR okp hp A' (okt.most' hm) hv hll hkl ?_
   rw [most_env]
   have gx := get_of A'.x
   have nzm := @madeT_nz p σ.env k o n s l
   have hmd := fun r (e : madeT p σ.env k o n s l = .ok r) => madeT_ok hp okt.env v7 hkl e
   cases h2 : madeT p σ.env k o n s l with
   | error er =>
    rw [h2] at hK nzm
    have hne := nzm er rfl
    intro q
    simp -dsimp -implicitDefEqProofs only [↓STP, STQ, seval, kn_cells, storeV, eq_false hne]
    exact hK hne _ zkn F'
   | ok r =>
    rw [h2, andT_ok] at hK
    intro v hv
    have hr := hmd r h2
    unfold toldT at hK
    by_cases c : r.kind = 1
    ·rw [if_pos c] at hK
     by_cases d : 60 < r.w
     ·have d' : (60 : Int) < (r.w : Int) := by omega
      rw [if_pos d] at hK
      simp -dsimp -implicitDefEqProofs only [↓STP, STQ, seval, kn_cells, storeV, eq_true c, eq_true d']
      exact hK (by decide) _ zkn F'
     ·have d' : ¬ (60 : Int) < (r.w : Int) := by omega
      rw [if_neg d] at hK
      have hvv : v = r.val := hv (by omega)
      subst hvv
      have hm2 : (if (r.w : Int) > ((max σ.most m : Nat) : Int) then (r.w : Int) else ((max σ.most m : Nat) : Int)) = ((max (max σ.most m) r.w : Nat) : Int) := by split <;> omega
      simp -dsimp -implicitDefEqProofs only [↓STP, STQ, seval, kn_cells, storeV, eq_true c, eq_false d', gx, Lr.cs, maxV_two, hm2]
      obtain ⟨A2, F2⟩ := A'.count { σ with most := max (max σ.most m) r.w } rfl (Nat.le_refl _)
      have A3 : Rt p L { σ with most := max σ.most (max m r.w) } (h'.set L.x (.cells (L.cs p { σ with most := max (max σ.most m) r.w }))) := by
       rw [← Nat.max_assoc]; exact A2
      exact hK _ A3 (F'.trans F2)
    ·rw [if_neg c] at hK
     have hvv : v = r.val := hv (by have := (hr.other c).w; omega)
     subst hvv
     simp -dsimp -implicitDefEqProofs only [↓STP, STQ, seval, kn_cells, storeV, eq_false c]
     exact hK _ A' F'
end
end YtihmoaibgmhjeaaDoor
end Go.Ab
set_option linter.unusedVariables false
set_option linter.unusedSimpArgs false
namespace Go.Ab
theorem findL_filter {s t : ByteArray} : ∀ {l : List (ByteArray × Kn)}, findL t (l.filter fun r => decide (r.1 ≠ s)) = if t = s then none else findL t l
 | [] => by simp [findL]
 | (a, v) :: l => by
  have ih := @findL_filter s t l
  by_cases c : a = s
  ·rw [List.filter_cons_of_neg (by simp [c]), ih]
   simp only [findL]
   by_cases d : t = s
   ·rw [if_pos d, if_pos d]
   ·rw [if_neg d, if_neg d, if_neg (fun e => d (by rw [← c, e]))]
  ·rw [List.filter_cons_of_pos (by simp [c])]
   simp only [findL]
   rw [ih]
   by_cases d : a = t
   ·rw [if_pos d, if_pos d, if_neg (fun e => c (d.trans e))]
   ·rw [if_neg d, if_neg d]
theorem vec_outs {xs : List V} {c : Cap} (h : c = .any ∨ c = .full) : (V.vec xs c).outS = some (V.vec xs c) := by
 rcases h with rfl | rfl <;> rfl
namespace YtihmoaibgmhjeaaDoor
section
variable {K : Out → H → Prop} {p : Prg}
def EndR (p : Prg) (L : Lr) (h : H) (K : Out → H → Prop) (r : TR TS) : Prop :=
 Ans r (fun σ' => ∀ L' h', Rt p L' σ' h' → Fw L L' h h' → K (.ret (I 0)) h') (fun e => e ≠ 0 → ∀ L' h', Fw L L' h h' → K (.ret (I e)) h')
def SqSs (p : Prg) (a : List Stm) (lv : Nat) : Prop := ∀ (L : Lr) (σ : TS) (h : H) (K : Out → H → Prop), Rt p L σ h → TOk p σ → σ.ifs ≤ lv → EndR p L h K (stmtsT p a σ) →
 R 39 [.ptr L.x 0, .vec (a.map Stm.v) .any] h K
theorem loopR {k : Int} {s : ByteArray} {e : List Exp} {a b : List Stm} {l : List Kn} {lv : Nat} (okp : POk p) (hp : PV p) (ha : SqSs p a lv) (good : GoodT p (stmtsT p a)) {L : Lr} {σ : TS} {h : H} (A : Rt p L σ h) (ok : TOk p σ) (hifs : σ.ifs ≤ lv)
  (hl : ∀ k ∈ l, KOk k) (hK : EndR p L h K (forT p s l (stmtsT p a) σ)) : R 68 [.ptr L.x 0, (Stm.mk k s e a b).v, (nthK l 0).v, (nthK l 1).v] h K := by
 have ok0 := nthK_ok hl 0
 have ok1 := nthK_ok hl 1
 unfold forT at hK
 generalize nthK l 0 = k0 at *
 generalize nthK l 1 = k1 at *
 refine run68 (Nat.le_of_ble_eq_true rfl) ?_
 by_cases c0 : k0.kind = 1
 rotate_left
 ·rw [if_pos (.inl c0)] at hK
  simp -dsimp -implicitDefEqProofs only [↓STP, STQ, seval, ir68, kn_cells, Stm.v_mk, eq_false c0]
  exact hK (by decide) _ _ (Fw.refl _ _)
 by_cases c1 : k1.kind = 1
 rotate_left
 ·rw [if_pos (.inr (.inl c1))] at hK
  simp -dsimp -implicitDefEqProofs only [↓STP, STQ, seval, ir68, kn_cells, Stm.v_mk, eq_true c0, eq_false c1]
  exact hK (by decide) _ _ (Fw.refl _ _)
 cases i0 : k0.is with
 | false =>
  rw [if_pos (.inr (.inr (.inl i0)))] at hK
  simp -dsimp -implicitDefEqProofs only [↓STP, STQ, seval, ir68, kn_cells, Stm.v_mk, eq_true c0, eq_true c1, i0]
  exact hK (by decide) _ _ (Fw.refl _ _)
 | true =>
 cases i1 : k1.is with
 | false =>
  rw [if_pos (.inr (.inr (.inr i1)))] at hK
  simp -dsimp -implicitDefEqProofs only [↓STP, STQ, seval, ir68, kn_cells, Stm.v_mk, eq_true c0, eq_true c1, i0, i1]
  exact hK (by decide) _ _ (Fw.refl _ _)
 | true =>
 rw [if_neg (by simp [c0, c1, i0, i1])] at hK
 simp -dsimp -implicitDefEqProofs only [↓STP, STQ, seval, ir68, kn_cells, Stm.v_mk, eq_true c0, eq_true c1, i0, i1]
 refine takenR okp A ok.steps ?_
 cases ht : takenT p σ.env s with
 | true =>
  rw [ht, if_pos rfl] at hK
  simp -dsimp -implicitDefEqProofs only [↓STP, STQ, seval]
  exact hK (by decide) _ _ (Fw.refl _ _)
 | false =>
 rw [ht, if_neg (by decide)] at hK
 have gx := get_of A.x
 have m4 : L.es.length ≤ 1000000 := by have := A.vl; have := ok.steps; omega
 simp -dsimp -implicitDefEqProofs only [↓STP, STQ, seval, gx, Lr.cs]
 refine withoutR m4 ?_
 simp -dsimp -implicitDefEqProofs only [↓STP, STQ, seval, gx, Lr.cs, storeV]
 obtain ⟨A1, F1⟩ := A.write (L' := { L with es := L.es.filter fun r => decide (r.1 ≠ s), vc := .any }) (σ' := { σ with env := { σ.env with vars := setV σ.env.vars s none } }) rfl rfl rfl rfl
  (fun t => by
   show findL t (L.es.filter _) = (setV σ.env.vars s none t).map _
   rw [findL_filter, A.es]; unfold setV
   by_cases c : t = s
   ·rw [if_pos c, if_pos c]; rfl
   ·rw [if_neg c, if_neg c]) (Nat.le_trans (List.length_filter_le _ _) A.vl) A.ll (.inl rfl) A.cl A.cw
 have ok1' : TOk p { σ with env := { σ.env with vars := setV σ.env.vars s none } } := ⟨ok.env.setV (fun k w h => by cases h), ok.steps, ok.most⟩
 have hv1 := ok1.lt
 have hv0 := ok0.lt
 refine codeT_loop (fun c s' => ∃ n τ L' h', c = k1.val + 1 - n ∧ n ≤ 1152921504606846976 ∧ Rt p L' τ h' ∧ TOk p τ ∧ τ.ifs = σ.ifs ∧ Fw L L' h h' ∧
  EndR p L h K (iterT (turnT s (stmtsT p a)) (k1.val + 1 - n) n τ) ∧
  s' = ⟨upd (upd (upd (upd ρ0 0 (.ptr L.x 0)) 5 (.lptr 0 5 0)) 7 (.lptr 1 4 0)) 9 (W n), upd (upd m0 0 (some [I k, .str s, .vec (e.map Exp.v) .any, .vec (a.map Stm.v) .any, .vec (b.map Stm.v) .any])) 1 (some [I k1.kind, I k1.w, .bool true, W k1.val]), 2, [], h'⟩)
  (i := k1.val + 1 - k0.val) ⟨k0.val, _, _, _, rfl, by omega, A1, ok1', rfl, F1, hK, by simp -dsimp -implicitDefEqProofs only [↓STP, STQ, seval] <;> rfl⟩ ?_ mono
 rintro c s' ⟨n, τ, L', h', rfl, hn, A', okτ, hτi, F', hK', rfl⟩
 by_cases hle : n ≤ k1.val
 rotate_left
 ·have hle' : ¬ ((n : Nat) : Int) ≤ ((k1.val : Nat) : Int) := by omega
  rw [show k1.val + 1 - n = 0 by omega, iterT] at hK'
  simp -dsimp -implicitDefEqProofs only [↓STP, STQ, seval, eq_false hle']
  exact hK' _ _ A' F'
 ·have hle' : ((n : Nat) : Int) ≤ ((k1.val : Nat) : Int) := by omega
  simp -dsimp -implicitDefEqProofs only [↓STP, STQ, seval, eq_true hle']
  rw [show k1.val + 1 - n = (k1.val + 1 - (n + 1)) + 1 by omega, iterT] at hK'
  unfold turnT at hK'
  rw [← F'.x]
  refine stepR A' okτ.steps ?_
  unfold stepT at hK' ⊢
  by_cases hst : 10000 ≤ τ.steps
  ·rw [if_pos hst]
   rw [if_pos hst] at hK'
   simp -dsimp -implicitDefEqProofs only [↓STP, STQ, seval]
   exact hK' (by decide) _ _ F'
  ·rw [if_neg hst]
   rw [if_neg hst] at hK'
   simp only [andT_ok] at hK'
   rw [Ans_ok]
   intro h2 A2 F2
   have gx2 := get_of A2.x
   have clo := vec_outs (xs := (lps τ.env).map nmV) A2.cl
   have ll2 : (lps τ.env).length ≤ 10000 := by have := A'.ll; have := okτ.steps; unfold lps; rw [List.length_map]; omega
   simp -dsimp -implicitDefEqProofs only [↓STP, STQ, seval, gx2, Lr.cs, clo]
   rw [app_full (sz := 5) (by simp) nm_elems (by decide) (by decide) (by rw [List.length_map]; show 0 + _ ≤ _; omega)]
   obtain ⟨A3, F3⟩ := A2.write (L' := { L' with lc := .any }) (σ' := { τ with steps := τ.steps + 1, env := { τ.env with loops := τ.env.loops ++ [(s, n)] } }) rfl rfl rfl rfl A2.es A2.vl
    (by show (τ.env.loops ++ [(s, n)]).length ≤ τ.steps + 1; have := A'.ll; simp; omega) A2.cv (.inl rfl) A2.cw
   have hl3 : (lps { τ.env with loops := τ.env.loops ++ [(s, n)] }).map nmV = (lps τ.env).map nmV ++ [nmV (s, kcon n)] := by unfold lps; rw [List.map_append, List.map_append]; rfl
   have hcs : Lr.cs p { L' with lc := .any } { τ with steps := τ.steps + 1, env := { τ.env with loops := τ.env.loops ++ [(s, n)] } } = [.vec (p.ins.map InD.v) .any, .vec (p.arrays.map ArD.v) .any, .vec (p.body.map Stm.v) .any, .vec (L'.es.map nmV) L'.vc, .vec ((lps τ.env).map nmV ++ [nmV (s, kcon n)]) .any, L'.ov, I (τ.steps + 1 : Nat), I τ.most, I τ.ifs] := by
    rw [← hl3]; rfl
   rw [hcs] at A3 F3
   have ok3 : TOk p { τ with steps := τ.steps + 1, env := { τ.env with loops := τ.env.loops ++ [(s, n)] } } := ⟨⟨okτ.env.vars, fun t m hm => by
    have hm : (t, m) ∈ τ.env.loops ++ [(s, n)] := hm
    rcases List.mem_append.1 hm with hm | hm
    ·exact okτ.env.loops t m hm
    ·rw [List.mem_singleton] at hm; cases hm; omega, okτ.env.wlen, okτ.env.words⟩, by show τ.steps + 1 ≤ 10000; omega, okτ.most⟩
   by_cases hz : ((lps τ.env).map nmV).length = 0
   case' pos =>
    have hz' : (lps τ.env).map nmV = [] := List.eq_nil_of_length_eq_zero hz
    rw [if_pos hz]
    simp -dsimp -implicitDefEqProofs only [↓STP, STQ, seval]
    refine exactR (by omega) ?_
    simp -dsimp -implicitDefEqProofs only [↓STP, STQ, seval, kn_cells]
    rw [app1_full (sz := 5) (by simp) rfl (by decide) (by decide) (by decide)]
    simp -dsimp -implicitDefEqProofs only [↓STP, STQ, seval, gx2, Lr.cs, storeV, mkEl, V.cells]
    rw [show V.vec [V.agg [.str s, I (kcon n).kind, I (kcon n).w, .bool (kcon n).is, W (kcon n).val]] .any = V.vec ((lps τ.env).map nmV ++ [V.agg [.str s, I (kcon n).kind, I (kcon n).w, .bool (kcon n).is, W (kcon n).val]]) .any from by rw [hz']; rfl]
   case' neg =>
    rw [if_neg hz]
    simp -dsimp -implicitDefEqProofs only [↓STP, STQ, seval]
    refine exactR (by omega) ?_
    simp -dsimp -implicitDefEqProofs only [↓STP, STQ, seval, kn_cells]
    rw [app1_own (sz := 5) (by simp) (by simpa using nm_cells) rfl (by decide) (by decide) (by simp; omega)]
    simp -dsimp -implicitDefEqProofs only [↓STP, STQ, seval, gx2, Lr.cs, storeV, mkEl, V.cells]
   all_goals
    refine ha { L' with lc := .any } _ _ _ A3 ok3 (by show τ.ifs ≤ lv; omega) ?_
    cases hr : stmtsT p a { τ with steps := τ.steps + 1, env := { τ.env with loops := τ.env.loops ++ [(s, n)] } } with
    | error er =>
     rw [hr] at hK'
     intro hne L4 h4 F4
     simp -dsimp -implicitDefEqProofs only [↓STP, STQ, seval, eq_false hne]
     exact hK' hne _ _ (((F'.trans F2).trans F3).trans F4)
    | ok σ4 =>
     rw [hr] at hK'
     simp only [andT_ok] at hK'
     have kp := good _ _ ok3 hr
     intro L4 h4 A4 F4
     have gx4 := get_of A4.x
     rw [F4.x] at gx4
     simp only at gx4
     have st4 : τ.steps + 1 ≤ σ4.steps := kp.steps
     have hx4 : L4.x = L'.x := F4.x
     obtain ⟨A5, F5⟩ := A4.write (L' := { L4 with lc := L'.lc, x := L'.x }) (σ' := { σ4 with env := { σ4.env with loops := τ.env.loops } }) hx4.symm rfl rfl rfl A4.es A4.vl
      (by show τ.env.loops.length ≤ σ4.steps; have := A'.ll; omega) A4.cv A2.cl A4.cw
     simp -dsimp -implicitDefEqProofs only [↓STP, STQ, seval, gx4, Lr.cs, clo, storeV, wuaddM (show n < 18446744073709551615 by omega)]
     rw [hx4] at A5 F5
     refine ⟨k1.val + 1 - (n + 1), by omega, n + 1, { σ4 with env := { σ4.env with loops := τ.env.loops } }, { L4 with lc := L'.lc, x := L'.x }, _, rfl, by omega, A5, ⟨⟨kp.ok.env.vars, okτ.env.loops, kp.ok.env.wlen, kp.ok.env.words⟩, kp.ok.steps, kp.ok.most⟩, kp.ifs.trans hτi, (((F'.trans F2).trans F3).trans F4).trans F5, hK', ?_⟩
     rw [F'.x]; rfl
end
end YtihmoaibgmhjeaaDoor
end Go.Ab
set_option linter.unusedVariables false
set_option linter.unusedSimpArgs false
namespace Go.Ab
def ovO (o : Option Nat) (k : Nat) : V := match o with
 | some id => .ref id 0 k 1
 | none => .vec [] .any
def ovL (o : Option Nat) (k : Nat) : V := match o with
 | some id => .ref id 0 k 1
 | none => .vec [] (.own 0)
def ovN (o : Option Nat) : Nat := match o with
 | some _ => 0
 | none => 1
structure Cp (wss : List (List Nat)) (h h' : H) (o : Option Nat) (rs : List (Nat × Nat)) : Prop where
 len : rs.length = wss.length
 ho : match o with
  | some id => h'.objs id = some (.cells (rs.map refV))
  | none => rs = []
 ws : ∀ (i : Nat) (ws : List Nat), wss[i]? = some ws → ∃ id, rs[i]? = some (id, ws.length) ∧ h'.objs id = some (.cells (natVs ws))
 nd : (o.toList ++ rs.map (·.1)).Nodup
 ge : ∀ id ∈ o.toList ++ rs.map (·.1), h.next ≤ id ∧ id < h'.next
 old : ∀ id, id < h.next → h'.objs id = h.objs id
 nx : h.next ≤ h'.next
theorem Cp.nil {h : H} : Cp [] h h none [] := ⟨rfl, rfl, by simp, by simp, by simp, fun _ _ => rfl, Nat.le_refl _⟩
theorem move_objs' {h : H} {id j : Nat} {o : O} : (h.move id o).objs j = if j = h.next then some o else if j = id then none else h.objs j := by
 simp only [H.move, upd]
theorem move_next' {h : H} {id : Nat} {o : O} : (h.move id o).next = h.next + 1 := rfl
def growH (h : H) (o : Option Nat) (rs : List (Nat × Nat)) (ws : List Nat) : H := match o with
 | some id => (h.new (.cells (natVs ws))).move id (.cells ((rs ++ [(h.next, ws.length)]).map refV))
 | none => (h.new (.cells (natVs ws))).new (.cells ((rs ++ [(h.next, ws.length)]).map refV))
theorem Cp.grow {wss : List (List Nat)} {h h' : H} {o : Option Nat} {rs : List (Nat × Nat)} (c : Cp wss h h' o rs) (ws : List Nat) : Cp (wss ++ [ws]) h (growH h' o rs ws) (some (h'.next + 1)) (rs ++ [(h'.next, ws.length)]) := by
 have hr : ∀ r ∈ rs, h.next ≤ r.1 ∧ r.1 < h'.next := fun r hr => c.ge r.1 (List.mem_append_right _ (List.mem_map.2 ⟨r, hr, rfl⟩))
 have hnx : (growH h' o rs ws).next = h'.next + 2 := by unfold growH; cases o <;> rfl
 have hobj : ∀ j, (growH h' o rs ws).objs j = if j = h'.next + 1 then some (.cells ((rs ++ [(h'.next, ws.length)]).map refV)) else if o = some j ∧ j ≠ h'.next then none else if j = h'.next then some (.cells (natVs ws)) else h'.objs j := by
  intro j
  have := c.nx
  unfold growH
  cases ho : o with
  | none => simp only [new_objs, new_next]; simp
  | some id =>
   have hid := c.ge id (by rw [ho]; simp)
   rw [move_objs', new_objs]
   show (if j = h'.next + 1 then some (O.cells ((rs ++ [(h'.next, ws.length)]).map refV)) else if j = id then none else if j = h'.next then some (O.cells (natVs ws)) else h'.objs j) = _
   by_cases c1 : j = h'.next + 1
   ·rw [if_pos c1, if_pos c1]
   ·rw [if_neg c1, if_neg c1]
    by_cases c2 : j = id
    ·rw [if_pos c2, if_pos ⟨by rw [c2], by omega⟩]
    ·rw [if_neg c2, if_neg (show ¬ (some id = some j ∧ j ≠ h'.next) from fun e => c2 (Option.some.inj e.1).symm)]
 have hne : ∀ r ∈ rs, o ≠ some r.1 := fun r hr e => by
  have hd := c.nd
  rw [e] at hd
  simp only [Option.toList_some, List.cons_append, List.nil_append, List.nodup_cons, List.mem_map] at hd
  exact hd.1 ⟨r, hr, rfl⟩
 refine ⟨by simp [c.len], ?_, fun i w hi => ?_, ?_, fun id hid => ?_, fun id hid => ?_, by rw [hnx]; have := c.nx; omega⟩
 ·show (growH h' o rs ws).objs (h'.next + 1) = _
  rw [hobj, if_pos rfl]
 ·rcases Nat.lt_or_ge i wss.length with hl | hl
  ·rw [List.getElem?_append_left hl] at hi
   obtain ⟨id, a, b⟩ := c.ws i w hi
   have hm := List.mem_of_getElem? a
   have hh := hr _ hm
   simp only at hh
   refine ⟨id, by rw [List.getElem?_append_left (by rw [c.len]; exact hl)]; exact a, ?_⟩
   rw [hobj, if_neg (by omega), if_neg (fun e => hne _ hm e.1), if_neg (by omega)]
   exact b
  ·rw [List.getElem?_append_right hl] at hi
   have h0 : i - wss.length = 0 := by
    rcases Nat.eq_zero_or_pos (i - wss.length) with h0 | h0
    ·exact h0
    ·rw [List.getElem?_eq_none (by simp; omega)] at hi; cases hi
   rw [h0] at hi
   cases hi
   refine ⟨h'.next, by rw [List.getElem?_append_right (by rw [c.len]; exact hl), c.len, h0]; rfl, ?_⟩
   rw [hobj, if_neg (by omega), if_neg (fun e => e.2 rfl), if_pos rfl]
 ·have hd := c.nd
  rw [List.nodup_append] at hd
  simp only [Option.toList_some, List.cons_append, List.nil_append, List.map_append, List.map_cons, List.map_nil, List.nodup_cons, List.mem_append, List.mem_map, List.mem_singleton, not_or, List.nodup_append]
  refine ⟨⟨fun ⟨r, h1, h2⟩ => ?_, by omega⟩, hd.2.1, by simp, fun a ⟨r, h1, h2⟩ b hb => ?_⟩
  ·have := hr r h1; omega
  ·have := hr r h1; omega
 ·rw [hnx]
  have := c.nx
  simp only [Option.toList_some, List.cons_append, List.nil_append, List.map_append, List.map_cons, List.map_nil, List.mem_cons, List.mem_append, List.mem_map, List.not_mem_nil, or_false] at hid
  rcases hid with rfl | ⟨r, h1, rfl⟩ | rfl
  ·omega
  ·have := hr r h1; omega
  ·omega
 ·have h1 := c.nx
  rw [hobj, if_neg (by omega), if_neg (fun e => by
   have := c.ge id (by rw [e.1]; simp)
   omega), if_neg (by omega)]
  exact c.old id hid
theorem app_o1 {st : S} {s s' a b : Nat} {c : Cap} (hs : s' ∉ st.u) : appV st s (.vec [] (.own s')) (.vec [.ref a 0 b 1] c) 1 24 false true = some (.ref st.h.next 0 1 1, st.withH (st.h.new (.cells [.ref a 0 b 1]))) := by
 simp [appV, lenV, flat, V.cells, hs, most]
theorem app_o2 {st : S} {s id k a b : Nat} {c : Cap} {cs : List V} (hg : st.h.get id = some cs) (hl : cs.length = k) (hk : k ≤ 4294967295) : appV st s (.ref id 0 k 1) (.vec [.ref a 0 b 1] c) 1 24 false true = some (.ref st.h.next 0 (k + 1) 1, st.withH (st.h.move id (.cells (cs ++ [.ref a 0 b 1])))) := by
 have h1 : k + 1 ≤ most := by unfold most; omega
 simp [appV, lenV, flat, V.cells, hg, hl, h1]
namespace YtihmoaibgmhjeaaDoor
section
variable {K : Out → H → Prop}
theorem copiedR {wss : List (List Nat)} {h : H} {o : Option Nat} {rs : List (Nat × Nat)} (len : rs.length = wss.length) (hlen : wss.length ≤ 4294967295)
  (ho : match o with
   | some id => h.objs id = some (.cells (rs.map refV)) ∧ id < h.next
   | none => rs = [])
  (ws : ∀ (i : Nat) (ws : List Nat), wss[i]? = some ws → ∃ id, rs[i]? = some (id, ws.length) ∧ h.objs id = some (.cells (natVs ws)) ∧ id < h.next)
  (pos : ∀ ws ∈ wss, 0 < ws.length ∧ ws.length ≤ 1000000)
  (hK : ∀ h' o' rs', Cp wss h h' o' rs' → K (.ret (ovO o' rs'.length)) h') :
  R 83 [ovO o rs.length] h K := by
 refine run83 (Nat.le_of_ble_eq_true rfl) ?_
 cases o with
 | none =>
  simp only at ho
  subst ho
  have hw : wss = [] := List.eq_nil_of_length_eq_zero len.symm
  subst hw
  have e0 : ovO none ([] : List (Nat × Nat)).length = .vec [] .any := rfl
  rw [e0]
  simp -dsimp -implicitDefEqProofs only [↓STP, STQ, seval, ir83]
  refine codeT_loop (fun k s => s = ⟨upd (upd (upd ρ0 0 (.vec [] .any)) 3 (.vec [] (.own 0))) 4 (I 0), m0, 1, [], h⟩) (i := 0) (by simp -dsimp -implicitDefEqProofs only [↓STP, STQ, seval] <;> rfl) ?_ mono
  rintro k s rfl
  simp -dsimp -implicitDefEqProofs only [↓STP, STQ, seval, Int.lt_irrefl]
  exact hK h none [] Cp.nil
 | some id =>
 obtain ⟨ho1, ho2⟩ := ho
 have e0 : ovO (some id) rs.length = .ref id 0 rs.length 1 := rfl
 rw [e0]
 simp -dsimp -implicitDefEqProofs only [↓STP, STQ, seval, ir83]
 refine codeT_loop (fun k s => ∃ j o' rs' h', j ≤ wss.length ∧ k = wss.length - j ∧ Cp (wss.take j) h h' o' rs' ∧ (o' = none ↔ j = 0) ∧
  s = ⟨upd (upd (upd ρ0 0 (.ref id 0 rs.length 1)) 3 (ovL o' j)) 4 (I j), m0, ovN o', [], h'⟩) (i := wss.length) ⟨0, none, [], h, Nat.zero_le _, rfl, Cp.nil, by simp, by simp -dsimp -implicitDefEqProofs only [↓STP, STQ, seval, ovL, ovN] <;> rfl⟩ ?_ mono
 rintro k s ⟨j, o', rs', h', hj, rfl, c, hoj, rfl⟩
 rcases Nat.lt_or_ge j wss.length with hi | hi
 ·have hw := List.getElem?_eq_getElem hi
  have hm := List.getElem_mem hi
  have htk : wss.take (j + 1) = wss.take j ++ [wss[j]] := by rw [List.take_add_one, hw]; rfl
  obtain ⟨p1, p2⟩ := pos _ hm
  generalize wss[j] = w at *
  obtain ⟨id0, a1, a2, a3⟩ := ws j w hw
  have g0 : h'.get id = some (rs.map refV) := get_of ((c.old id ho2).trans ho1)
  have g1 : h'.get id0 = some (natVs w) := get_of ((c.old id0 a3).trans a2)
  have g2 : (rs.map refV)[j]? = some (.ref id0 0 w.length 1) := by rw [List.getElem?_map, a1]; rfl
  have lj : ((j : Nat) : Int) < ((rs.length : Nat) : Int) := by omega
  have hrl : rs'.length = j := by rw [c.len, List.length_take]; omega
  have an := fun (st : S) (q : st.h = h') (s : Nat) => app_new (st := st) (s := s) (by rw [q]; exact g1) natVs_len p1 (by omega)
  have c' := c.grow w
  rw [← htk] at c'
  have w1 := wi (show j < 9000000000000000000 by omega)
  cases o' with
  | none =>
   have hj0 : j = 0 := hoj.1 rfl
   have hr0 : rs' = [] := c.ho
   simp -dsimp -implicitDefEqProofs only [↓STP, STQ, seval, ovL, ovN, eq_true lj, g0, g2, Nat.mul_one]
   rw [app_new g1 natVs_len p1 (by omega)]
   simp -dsimp -implicitDefEqProofs only [↓STP, STQ, seval]
   rw [app_o1 (by simp)]
   simp -dsimp -implicitDefEqProofs only [↓STP, STQ, seval, w1]
   refine ⟨wss.length - (j + 1), by omega, j + 1, some (h'.next + 1), _, _, hi, rfl, c', by simp, ?_⟩
   subst hr0
   subst hj0
   rfl
  | some oid =>
   have hob : h'.objs oid = some (.cells (rs'.map refV)) := c.ho
   have hlt := (c.ge oid (by simp)).2
   simp -dsimp -implicitDefEqProofs only [↓STP, STQ, seval, ovL, ovN, eq_true lj, g0, g2, Nat.mul_one]
   rw [app_new g1 natVs_len p1 (by omega)]
   simp -dsimp -implicitDefEqProofs only [↓STP, STQ, seval]
   rw [app_o2 (cs := rs'.map refV) (get_of (by show (h'.new _).objs oid = _; rw [new_objs, if_neg (by omega)]; exact hob)) (by rw [List.length_map]; exact hrl) (by omega)]
   simp -dsimp -implicitDefEqProofs only [↓STP, STQ, seval, w1]
   refine ⟨wss.length - (j + 1), by omega, j + 1, some (h'.next + 1), _, _, hi, rfl, c', by simp, ?_⟩
   unfold growH
   rw [List.map_append]
   rfl
 ·have hj' : j = wss.length := by omega
  subst hj'
  rw [List.take_length] at c
  have lj : ¬ ((wss.length : Nat) : Int) < ((rs.length : Nat) : Int) := by omega
  have hh := hK h' o' rs' c
  rw [c.len] at hh
  cases o' with
  | none =>
   simp -dsimp -implicitDefEqProofs only [↓STP, STQ, seval, ovL, ovN, eq_false lj]
   exact hh
  | some oid =>
   simp -dsimp -implicitDefEqProofs only [↓STP, STQ, seval, ovL, ovN, eq_false lj]
   exact hh
end
end YtihmoaibgmhjeaaDoor
end Go.Ab
set_option linter.unusedVariables false
set_option linter.unusedSimpArgs false
namespace Go.Ab
def bothK (a b : Option Kn) : Option Kn := match a, b with
 | some x, some y => if x.kind = y.kind then some ⟨x.kind, max x.w y.w, false, 0⟩ else none
 | _, _ => none
def bothE (l a b : List (ByteArray × Kn)) : List (ByteArray × Kn) := l.filterMap fun r => (bothK (findL r.1 a) (findL r.1 b)).map fun k => (r.1, k)
theorem findL_both {a b : List (ByteArray × Kn)} {s : ByteArray} : ∀ {l : List (ByteArray × Kn)}, findL s (bothE l a b) = match findL s l with | some _ => bothK (findL s a) (findL s b) | none => none
 | [] => rfl
 | (t, v) :: l => by
  have ih := @findL_both a b s l
  have e : bothE ((t, v) :: l) a b = (match bothK (findL t a) (findL t b) with | some k => [(t, k)] | none => []) ++ bothE l a b := by
   unfold bothE
   rw [List.filterMap_cons]
   cases bothK (findL t a) (findL t b) <;> rfl
  have e1 : findL s ((t, v) :: l) = if t = s then some v else findL s l := rfl
  rw [e, e1]
  by_cases c : t = s
  ·subst c
   rw [if_pos rfl]
   cases hb : bothK (findL t a) (findL t b) with
   | some k => simp [findL]
   | none =>
    simp only [List.nil_append]
    rw [ih, hb]; cases findL t l <;> rfl
  ·rw [if_neg c]
   cases hb : bothK (findL t a) (findL t b) with
   | some k => simp only [List.cons_append, List.nil_append, findL]; rw [if_neg c]; exact ih
   | none => simp only [List.nil_append]; exact ih
theorem bothE_len {l a b : List (ByteArray × Kn)} : (bothE l a b).length ≤ l.length := List.length_filterMap_le _ _
theorem bothE_take {l a b : List (ByteArray × Kn)} {j : Nat} (h : j < l.length) : bothE (l.take (j + 1)) a b = bothE (l.take j) a b ++ ((bothK (findL l[j].1 a) (findL l[j].1 b)).map fun k => (l[j].1, k)).toList := by
 unfold bothE
 rw [List.take_add_one, List.getElem?_eq_getElem h, List.filterMap_append]
 congr 1
namespace YtihmoaibgmhjeaaDoor
section
variable {K : Out → H → Prop} {h : H}
theorem bothR {l a b : List (ByteArray × Kn)} (hl : l.length ≤ 1000000) (ha : a.length ≤ 1000000) (hb : b.length ≤ 1000000) (hK : K (.ret (.vec ((bothE l a b).map nmV) .any)) h) :
  R 84 [.vec (l.map nmV) .any, .vec (a.map nmV) .any, .vec (b.map nmV) .any] h K := by
 refine run84 (Nat.le_of_ble_eq_true rfl) ?_
 simp -dsimp -implicitDefEqProofs only [↓STP, STQ, seval, ir84]
 refine codeT_for (N := l.length) (fun j => ⟨upd (upd (upd (upd (upd ρ0 0 (.vec (l.map nmV) .any)) 1 (.vec (a.map nmV) .any)) 2 (.vec (b.map nmV) .any)) 7 (.vec ((bothE (l.take j) a b).map nmV) (.own 0))) 8 (I j), m0, 1, [], h⟩) (fun j => True) (by simp -dsimp -implicitDefEqProofs only [↓STP, STQ, seval] <;> rfl) trivial (fun j hj pj => ?_) (fun pj => ?_) mono
 ·have g : (l.map nmV)[j]? = some (nmV l[j]) := by rw [List.getElem?_map, List.getElem?_eq_getElem hj]; rfl
  have lj : (j : Int) < (l.length : Int) := by omega
  have e := bothE_take (a := a) (b := b) hj
  have hlen := @bothE_len (l.take j) a b
  rw [List.length_take] at hlen
  rw [e]
  generalize l[j] = r at *
  obtain ⟨s, kv⟩ := r
  simp only at *
  have w1 := wi (show j < 9000000000000000000 by omega)
  have m1 : a.length ≤ 9223372036854775807 := by omega
  have m2 : b.length ≤ 9223372036854775807 := by omega
  simp -dsimp -implicitDefEqProofs only [↓STP, STQ, seval, List.length_map, eq_true lj, g, nmV]
  refine findR m1 ?_
  simp -dsimp -implicitDefEqProofs only [↓STP, STQ, seval, g, nmV, eq_self]
  refine findR m2 ?_
  cases ca : findL s a with
  | none =>
   have hr : bothK none (findL s b) = none := rfl
   rw [hr]
   simp -dsimp -implicitDefEqProofs only [↓STP, STQ, seval, eq_false (ix_none_find ca), w1]
   simp only [Option.map_none, Option.toList_none, List.append_nil]
  | some x =>
   obtain ⟨ix, x1, x2⟩ := ix_at ca
   rw [x1]
   cases cb : findL s b with
   | none =>
    have hr : bothK (some x) none = none := rfl
    rw [hr]
    simp -dsimp -implicitDefEqProofs only [↓STP, STQ, seval, eq_true (nonneg ix), eq_false (ix_none_find cb), w1]
    simp only [Option.map_none, Option.toList_none, List.append_nil]
   | some y =>
    obtain ⟨iy, y1, y2⟩ := ix_at cb
    rw [y1]
    by_cases ck : x.kind = y.kind
    ·have hr : bothK (some x) (some y) = some ⟨x.kind, max x.w y.w, false, 0⟩ := if_pos ck
     have hmx : (if (y.w : Int) > (x.w : Int) then (y.w : Int) else (x.w : Int)) = ((max x.w y.w : Nat) : Int) := by split <;> omega
     rw [hr]
     simp -dsimp -implicitDefEqProofs only [↓STP, STQ, seval, eq_true (nonneg ix), eq_true (nonneg iy), x2, y2, g, nmV, eq_true ck, maxV_two, hmx]
     rw [app1_own (sz := 5) (by simp) (by simpa [nmV] using nm_cells) rfl (by decide) (by decide) (by rw [List.length_map]; omega)]
     simp -dsimp -implicitDefEqProofs only [↓STP, STQ, seval, w1, mkEl, V.cells]
     simp only [Option.map_some, Option.toList_some, List.map_append]
     rfl
    ·have hr : bothK (some x) (some y) = none := if_neg ck
     rw [hr]
     simp -dsimp -implicitDefEqProofs only [↓STP, STQ, seval, eq_true (nonneg ix), eq_true (nonneg iy), x2, y2, g, nmV, eq_false ck, w1]
     simp only [Option.map_none, Option.toList_none, List.append_nil]
 ·have lj : ¬ (l.length : Int) < (l.length : Int) := by omega
  simp -dsimp -implicitDefEqProofs only [↓STP, STQ, seval, List.length_map, eq_false lj]
  rw [List.take_length]
  exact hK
end
end YtihmoaibgmhjeaaDoor
end Go.Ab
set_option linter.unusedVariables false
set_option linter.unusedSimpArgs false
namespace Go.Ab
def cpC (n s : Nat) : Cap := if n = 0 then .full else .own s
def cpA (n : Nat) : Cap := if n = 0 then .full else .any
theorem cp_outs {xs : List V} {n s : Nat} : (V.vec xs (cpC n s)).outS = some (V.vec xs (cpA n)) := by
 unfold cpC cpA; split <;> rfl
theorem cpA_or (n : Nat) : cpA n = .any ∨ cpA n = .full := by unfold cpA; split; exact .inr rfl; exact .inl rfl
theorem app_copy {st : S} {s : Nat} {xs : List V} {c2 : Cap} (hy : ∀ e ∈ xs, e.cells.length = 5 ∧ mkEl true e.cells = e) (hl : xs.length ≤ 4294967296) :
  appV st s (.vec [] .full) (.vec xs c2) 5 48 true false = some (.vec xs (cpC xs.length s), st) := by
 rw [app_full (sz := 5) (by simp) hy (by decide) (by decide) (by simpa using hl)]
 unfold cpC
 split
 ·rename_i h; rw [List.eq_nil_of_length_eq_zero h]
 ·rw [List.nil_append]
theorem Lr.ov_out {L : Lr} : L.ov.out = some (ovO L.o L.rs.length) := by
 unfold Lr.ov ovO; cases L.o <;> rfl
theorem Lr.ov_outs {L : Lr} (h : L.wc = .any ∨ L.wc = .full) : L.ov.outS = some L.ov := by
 unfold Lr.ov
 cases L.o with
 | some id => rfl
 | none => rcases h with h | h <;> rw [h] <;> rfl
theorem ovO_outs {o : Option Nat} {k : Nat} : (ovO o k).outS = some (ovO o k) := by cases o <;> rfl
theorem Rt.frame {p : Prg} {L : Lr} {σ : TS} {h h' : H} (A : Rt p L σ h) (hn : h.next ≤ h'.next) (e : ∀ id ∈ L.own, h'.objs id = h.objs id) : Rt p L σ h' := by
 refine ⟨(e _ L.x_mem).trans A.x, ?_, A.es, A.len, fun i ws hi => ?_, A.nd, fun id hid => Nat.lt_of_lt_of_le (A.lt id hid) hn, A.vl, A.ll, A.cv, A.cl, A.cw⟩
 ·have h0 := A.o
  have hm := fun id (q : L.o = some id) => e id (L.o_mem q)
  revert h0 hm
  cases L.o with
  | none => intro h0 _; exact h0
  | some id => intro h0 hm; exact (hm id rfl).trans h0
 ·obtain ⟨id, a, b⟩ := A.ws i ws hi
  exact ⟨id, a, (e id (L.r_mem (List.mem_of_getElem? a))).trans b⟩
theorem Rt.setWord {p : Prg} {L : Lr} {σ : TS} {h : H} (A : Rt p L σ h) {i id n : Nat} {ws ws' : List Nat} (hi : σ.env.words[i]? = some ws) (hid : L.rs[i]? = some (id, n)) (hl : ws'.length = ws.length) :
  Rt p L { σ with env := { σ.env with words := σ.env.words.set i ws' } } (h.set id (.cells (natVs ws'))) ∧ Fw L L h (h.set id (.cells (natVs ws'))) := by
 have hm := List.mem_of_getElem? hid
 have nx := A.xr hm
 simp only at nx
 have hlt : i < σ.env.words.length := by
  rcases Nat.lt_or_ge i σ.env.words.length with h' | h'
  ·exact h'
  ·rw [List.getElem?_eq_none h'] at hi; cases hi
 refine ⟨⟨?_, ?_, A.es, by rw [A.len]; simp, fun j w hj => ?_, A.nd, A.lt, A.vl, A.ll, A.cv, A.cl, A.cw⟩, ⟨Nat.le_refl _, rfl, fun j _ hn => ?_, fun j hj => .inl hj⟩⟩
 ·rw [set_objs, if_neg nx.symm]; exact A.x
 ·have h0 := A.o
  have hne := fun o (q : L.o = some o) => A.or q hm
  revert h0 hne
  cases L.o with
  | none => intro h0 _; exact h0
  | some o => intro h0 hne; show (h.set _ _).objs o = _; rw [set_objs, if_neg (fun q => hne o rfl q.symm)]; exact h0
 ·have hj : (σ.env.words.set i ws')[j]? = some w := hj
  rw [List.getElem?_set] at hj
  by_cases c : i = j
  ·subst c
   rw [if_pos rfl, if_pos hlt] at hj
   cases hj
   obtain ⟨id', a, b⟩ := A.ws i ws hi
   rw [hid] at a
   cases a
   exact ⟨id, by rw [hid, hl], by rw [set_objs, if_pos rfl]⟩
  ·rw [if_neg c] at hj
   obtain ⟨id', a, b⟩ := A.ws j w hj
   have hne : id' ≠ id := fun q => by
    have hd := A.nd
    simp only [Lr.own, List.nodup_cons, List.nodup_append] at hd
    have hd := hd.2.2.1
    exact c (map_inj (f := fun r : Nat × Nat => r.1) hd hid a q.symm)
   exact ⟨id', a, by rw [set_objs, if_neg hne]; exact b⟩
 ·rw [set_objs, if_neg (fun e => hn (by rw [e]; exact L.r_mem hm))]
theorem Rt.swap {p : Prg} {L L1 : Lr} {σ σ1 : TS} {h h1 h3 : H} {o : Option Nat} {rs : List (Nat × Nat)} (A : Rt p L σ h) (A1 : Rt p L1 σ1 h3) (hx : L1.x = L.x) (c : Cp σ.env.words h h1 o rs) (keep : ∀ id, h.next ≤ id → id < h1.next → h3.objs id = h1.objs id) (hn : h1.next ≤ h3.next)
  (hlp : σ1.env.loops = σ.env.loops) (hst : σ.steps ≤ σ1.steps) {vc : Cap} (hvc : vc = .any ∨ vc = .full) :
  Rt p { L1 with x := L.x, es := L.es, vc := vc, o := o, wc := .any, rs := rs } { σ1 with env := σ.env } (h3.set L.x (.cells (Lr.cs p { L1 with x := L.x, es := L.es, vc := vc, o := o, wc := .any, rs := rs } { σ1 with env := σ.env }))) := by
 have hxl := A.lt _ L.x_mem
 have far : ∀ id ∈ o.toList ++ rs.map (·.1), id ≠ L.x := fun id hid e => by have := c.ge id hid; omega
 refine ⟨by rw [set_objs, if_pos rfl], ?_, A.es, c.len, fun i ws hi => ?_, ?_, fun id hid => ?_, Nat.le_trans A.vl hst, Nat.le_trans A.ll hst, hvc, A1.cl, .inl rfl⟩
 ·have h0 := c.ho
  have hg := c.ge
  revert h0 hg far
  cases o with
  | none => intro far h0 _; exact h0
  | some id =>
   intro far h0 hg
   have hq := hg id (by simp)
   show (h3.set _ _).objs id = _
   rw [set_objs, if_neg (far id (by simp)), keep id hq.1 hq.2]
   exact h0
 ·obtain ⟨id, a, b⟩ := c.ws i ws hi
  have hm : id ∈ o.toList ++ rs.map (·.1) := List.mem_append_right _ (List.mem_map.2 ⟨_, List.mem_of_getElem? a, rfl⟩)
  have hq := c.ge id hm
  refine ⟨id, a, ?_⟩
  rw [set_objs, if_neg (far id hm), keep id hq.1 hq.2]
  exact b
 ·show (L.x :: (o.toList ++ rs.map (·.1))).Nodup
  rw [List.nodup_cons]
  exact ⟨fun hm => far _ hm rfl, c.nd⟩
 ·have hid : id ∈ L.x :: (o.toList ++ rs.map (·.1)) := hid
  rw [set_next]
  rcases List.mem_cons.1 hid with rfl | hid
  ·have := c.nx; omega
  ·have := c.ge id hid; omega
def mixW (a b : List (List Nat)) (i : Nat) : List (List Nat) := (maxW a b).take i ++ a.drop i
theorem mix_zero {a b : List (List Nat)} : mixW a b 0 = a := by simp [mixW]
theorem mix_all {a b : List (List Nat)} (h : a.length = b.length) : mixW a b a.length = maxW a b := by
 unfold mixW
 rw [List.drop_length, List.append_nil, List.take_of_length_le (by unfold maxW; rw [List.length_zipWith]; omega)]
theorem mix_get {a b : List (List Nat)} (h : a.length = b.length) {i : Nat} (hi : i < a.length) : (mixW a b i)[i]? = some a[i] := by
 unfold mixW
 rw [List.getElem?_append_right (by rw [List.length_take]; omega), List.length_take, show i - min i (maxW a b).length = 0 by unfold maxW; rw [List.length_zipWith]; omega, List.getElem?_drop, Nat.add_zero, List.getElem?_eq_getElem hi]
theorem mix_set {a b : List (List Nat)} (h : a.length = b.length) {i : Nat} (hi : i < a.length) (hb : i < b.length) : (mixW a b i).set i (List.zipWith max a[i] b[i]) = mixW a b (i + 1) := by
 have hl : (maxW a b).length = a.length := by unfold maxW; rw [List.length_zipWith]; omega
 unfold mixW
 rw [List.set_append_right _ _ (by rw [List.length_take]; omega), List.length_take, show i - min i (maxW a b).length = 0 by omega, List.take_add_one, List.drop_eq_getElem_cons hi, List.set_cons_zero,
  List.getElem?_eq_getElem (by omega)]
 have : (maxW a b)[i]'(by omega) = List.zipWith max a[i] b[i] := by unfold maxW; rw [List.getElem_zipWith]
 simp [this]
end Go.Ab
