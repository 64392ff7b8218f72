/-  -/
import Derived.Test.YtemlhjlceeiflaaDoorZ8
import Derived.Test.YtemlhjlceeiflaaDoorZ7
import Derived.Lib.LaidTab
set_option linter.unusedVariables false
set_option linter.unusedSimpArgs false
namespace Go.Ab
theorem endD_ret {F : IFn} {tw : TypeId} {h : H} {K : Out → H → Prop} {st : S} : endD F tw h K .ret st = withV (finish st F.results) (fun v => K (.ret v) st.h) ⟨⟩ := rfl
theorem endD_pan {F : IFn} {tw : TypeId} {h h' : H} {K : Out → H → Prop} {v : V} : endD F tw h K (.pan v) (.blank h') = ∃ n x0 x1, v = .iface tw (.agg [.int .i64 n]) ∧ h'.objs h.next = some (.cells [x0]) ∧ h'.objs (h.next + 1) = some (.cells [x1]) ∧
   K (.ret (.tuple [.int .i64 0, .int .i64 n])) ((h'.set h.next (.cells [.int .i64 0])).set (h.next + 1) (.cells [.int .i64 n])) := rfl
structure Bse (h0 h : H) : Prop where
 nx : h0.next + 2 ≤ h.next
 old : ∀ j, j < h0.next → h.objs j = h0.objs j
 r0 : h.objs h0.next = some (.cells [I 0])
 r1 : h.objs (h0.next + 1) = some (.cells [I 0])
structure Bd (h0 : H) (L : Lk) (insl : List (ByteArray × InD)) (arsl : List (ByteArray × Int)) (m : Nat) (h : H) : Prop where
 x : h.objs L.x = some (.cells (L.cs ⟨⟨fun _ => none, [], []⟩, 0, m, 0⟩))
 i : ∃ ver, h.objs L.i = some (.map (mapO InD.v insl) ver)
 s : ∃ ver, h.objs L.s = some (.map (mapO intV arsl) ver)
 v : ∃ ver, h.objs L.v = some (.map (mapO vkV L.es) ver)
 w : ∃ ver, h.objs L.w = some (.map (mapO refV L.ws) ver)
 l : ∃ ver, h.objs L.l = some (.map (mapO conV []) ver)
 es : L.es = []
 ws : ∀ r ∈ L.ws, h.objs r.2.1 = some (.cells (natVs (List.replicate r.2.2 1)))
 nd : L.own.Nodup
 lt : ∀ id ∈ L.own, h0.next + 2 ≤ id ∧ id < h.next
 bs : Bse h0 h
theorem Bse.fin {h0 h : H} {n : Int} (b : Bse h0 h) : ((h.set h0.next (.cells [.int .i64 0])).set (h0.next + 1) (.cells [.int .i64 n])).next = h.next ∧ ∀ j, j < h0.next → ((h.set h0.next (.cells [.int .i64 0])).set (h0.next + 1) (.cells [.int .i64 n])).objs j = h0.objs j :=
 ⟨rfl, fun j hj => by rw [set_objs, if_neg (by omega), set_objs, if_neg (by omega)]; exact b.old j hj⟩
theorem Bse.mono {h0 h h' : H} (b : Bse h0 h) (hn : h.next ≤ h'.next) (e : ∀ j, j < h0.next + 2 → h'.objs j = h.objs j) : Bse h0 h' :=
 ⟨Nat.le_trans b.nx hn, fun j hj => by rw [e j (by omega)]; exact b.old j hj, by rw [e _ (by omega)]; exact b.r0, by rw [e _ (by omega)]; exact b.r1⟩
theorem maxI_append {d : InD} : ∀ {l : List InD}, maxI (l ++ [d]) = max (maxI l) d.width.toNat
 | [] => by simp [maxI]
 | x :: xs => by simp only [List.cons_append, maxI, maxI_append (l := xs), Nat.max_assoc]
def insM (l : List InD) : List (ByteArray × InD) := l.map fun d => (d.name, d)
def arsM (l : List ArD) : List (ByteArray × Int) := l.map fun d => (d.name, d.size)
theorem insM_keys {l : List InD} : (insM l).map (·.1) = l.map InD.name := by simp [insM, List.map_map, Function.comp_def]
theorem arsM_keys {l : List ArD} : (arsM l).map (·.1) = l.map ArD.name := by simp [arsM, List.map_map, Function.comp_def]
theorem isSome_false {α : Type} {s : ByteArray} {l : List (ByteArray × α)} : (findL s l).isSome = false ↔ s ∉ l.map (·.1) := by
 rw [← findL_none]
 cases findL s l <;> simp
theorem isSome_true {α : Type} {s : ByteArray} {l : List (ByteArray × α)} : (findL s l).isSome = true ↔ s ∈ l.map (·.1) := by
 constructor
 ·intro h
  cases hf : findL s l with
  | none => rw [hf] at h; cases h
  | some v => exact List.mem_map.2 ⟨_, findL_mem hf, rfl⟩
 ·intro h
  cases hf : (findL s l).isSome with
  | true => rfl
  | false => exact absurd h (isSome_false.1 hf)
theorem unlike_false {p : Prg} (h : ¬ (p.ins.map InD.name ++ p.arrays.map ArD.name).Nodup) : checkT p = .error 4 := by
 unfold checkT unlikeT
 rw [decide_eq_false h]; rfl
theorem take_bad {α : Type} {l : List α} {r : List ByteArray} {f : α → ByteArray} {j : Nat} (hj : j < l.length) (h : f l[j] ∈ (l.take j).map f) : ¬ (l.map f ++ r).Nodup := fun hn => by
 have h1 := (List.nodup_append.1 hn).1
 have e : l = l.take j ++ l[j] :: l.drop (j + 1) := by rw [← List.drop_eq_getElem_cons hj, List.take_append_drop]
 rw [e, List.map_append, List.map_cons] at h1
 exact (List.nodup_append.1 h1).2.2 _ h _ List.mem_cons_self rfl
theorem Bd.grow {h0 h1 h2 : H} {L : Lk} {ws0 old : List (ByteArray × Nat × Nat)} {s : ByteArray} {k ver : Nat} {insl : List (ByteArray × InD)} {arsl : List (ByteArray × Int)} {m : Nat} (B : Bd h0 { L with ws := ws0 ++ old } insl arsl m h1)
  (hw : h2.objs L.w = some (.map (mapO refV (ws0 ++ [(s, h1.next, k + 1)])) ver)) (hid : h2.objs h1.next = some (.cells (natVs (List.replicate (k + 1) 1)))) (same : ∀ j, j < h1.next → j ≠ L.w → (∀ r ∈ old, r.2.1 ≠ j) → h2.objs j = h1.objs j) (nx : h2.next = h1.next + 1) :
  Bd h0 { L with ws := ws0 ++ [(s, h1.next, k + 1)] } insl arsl m h2 := by
 have D := Lk.dist B.nd
 obtain ⟨⟨xi, xs, xv, xw, xl, xn⟩, ⟨is, iv, iw, il, in_⟩, ⟨sv, sw, sl, sn⟩, ⟨vw, vl, vn⟩, ⟨wl, wn⟩, ln, wnd⟩ := D
 simp only [List.map_append, List.mem_append, not_or] at xn in_ sn vn wn ln
 have hold : ∀ {id}, id ∉ old.map (fun r => r.2.1) → ∀ r ∈ old, r.2.1 ≠ id := fun hn r hr e => hn (by rw [← e]; exact List.mem_map.2 ⟨r, hr, rfl⟩)
 have lt : ∀ id ∈ Lk.own { L with ws := ws0 ++ old }, h0.next + 2 ≤ id ∧ id < h1.next := B.lt
 have l1 := lt L.x (by simp [Lk.own])
 have l2 := lt L.i (by simp [Lk.own])
 have l3 := lt L.s (by simp [Lk.own])
 have l4 := lt L.v (by simp [Lk.own])
 have l5 := lt L.w (by simp [Lk.own])
 have l6 := lt L.l (by simp [Lk.own])
 have l7 : ∀ r ∈ ws0, h0.next + 2 ≤ r.2.1 ∧ r.2.1 < h1.next := fun r hr => lt _ (List.mem_append_right _ (List.mem_map.2 ⟨r, List.mem_append_left _ hr, rfl⟩))
 have l8 : ∀ r ∈ old, h0.next + 2 ≤ r.2.1 ∧ r.2.1 < h1.next := fun r hr => lt _ (List.mem_append_right _ (List.mem_map.2 ⟨r, List.mem_append_right _ hr, rfl⟩))
 have hnd := wnd
 simp only [List.map_append] at hnd
 have nn : ∀ id, id < h1.next → id ∉ ws0.map (fun r => r.2.1) → id ∉ (ws0 ++ [(s, h1.next, k + 1)]).map (fun r => r.2.1) := fun id hl hn hm => by
  rw [List.map_append, List.mem_append] at hm
  rcases hm with hm | hm
  ·exact hn hm
  ·simp at hm; omega
 refine ⟨?_, ?_, ?_, ?_, ⟨ver, hw⟩, ?_, B.es, fun r hr => ?_, ?_, fun id hid => ?_, B.bs.mono (by omega) (fun q hq => same q (by omega) (by omega) (fun r hr => by have := l8 r hr; omega))⟩
 ·show h2.objs L.x = _; rw [same L.x (by omega) xw (hold xn.2)]; exact B.x
 ·show ∃ ver, h2.objs L.i = _; rw [same L.i (by omega) iw (hold in_.2)]; exact B.i
 ·show ∃ ver, h2.objs L.s = _; rw [same L.s (by omega) sw (hold sn.2)]; exact B.s
 ·show ∃ ver, h2.objs L.v = _; rw [same L.v (by omega) vw (hold vn.2)]; exact B.v
 ·show ∃ ver, h2.objs L.l = _; rw [same L.l (by omega) wl.symm (hold ln.2)]; exact B.l
 ·have hr : r ∈ ws0 ++ [(s, h1.next, k + 1)] := hr
  rcases List.mem_append.1 hr with hr | hr
  ·rw [same _ (l7 r hr).2 (fun e => wn.1 (by rw [← e]; exact List.mem_map.2 ⟨r, hr, rfl⟩)) (fun r' hr' e => (List.nodup_append.1 hnd).2.2 r.2.1 (List.mem_map.2 ⟨r, hr, rfl⟩) r'.2.1 (List.mem_map.2 ⟨r', hr', rfl⟩) e.symm)]
   exact B.ws r (List.mem_append_left _ hr)
  ·rw [List.mem_singleton] at hr; subst hr; exact hid
 ·simp only [Lk.own, List.cons_append, List.nil_append, List.nodup_cons, List.mem_cons, not_or]
  refine ⟨⟨xi, xs, xv, xw, xl, nn _ l1.2 xn.1⟩, ⟨is, iv, iw, il, nn _ l2.2 in_.1⟩, ⟨sv, sw, sl, nn _ l3.2 sn.1⟩, ⟨vw, vl, nn _ l4.2 vn.1⟩, ⟨wl, nn _ l5.2 wn.1⟩, nn _ l6.2 ln.1, ?_⟩
  rw [List.map_append]
  refine List.nodup_append.2 ⟨(List.nodup_append.1 hnd).1, by simp, fun a ha b hb e => ?_⟩
  obtain ⟨r, hr, rfl⟩ := List.mem_map.1 ha
  simp only [List.map_cons, List.map_nil, List.mem_singleton] at hb
  have := (l7 r hr).2
  omega
 ·rw [nx]
  simp only [Lk.own, List.cons_append, List.nil_append, List.mem_cons, List.map_append, List.mem_append, List.map_nil, List.not_mem_nil, or_false, List.map_cons] at hid
  rcases hid with e | e | e | e | e | e | e | e
  ·omega
  ·omega
  ·omega
  ·omega
  ·omega
  ·omega
  ·obtain ⟨r, hr, rfl⟩ := List.mem_map.1 e
   have := l7 r hr; omega
  ·have := B.bs.nx; omega
theorem app_new1 {st : S} {s k : Nat} {c : Cap} (hk : k = 0) : appV st s (.vec [] .full) (.vec [I 1] c) 1 8 false true = some (.ref st.h.next 0 (k + 1) 1, st.withH (st.h.new (.cells (natVs (List.replicate (k + 1) 1))))) := by subst hk; rfl
theorem app_more {st : S} {s id k : Nat} {c : Cap} {n : Int} {cs : List V} (hg : st.h.get id = some cs) (hl : cs.length = k) (hk : k ≤ 1000) : appV st s (.ref id 0 k 1) (.vec [I n] c) 1 8 false true = some (.ref st.h.next 0 (k + 1) 1, st.withH (st.h.move id (.cells (cs ++ [I n])))) := by
 simp only [appV, lenV, flat, hg, List.flatMap_cons, List.flatMap_nil, V.cells, List.append_nil, List.length_cons, List.length_nil]
 rw [if_pos ⟨trivial, by decide, by decide⟩, if_pos ⟨by rw [Nat.mul_one]; exact hl, trivial, by unfold most; omega, by decide⟩]
theorem move_objs {h : H} {id j : Nat} {o : O} : (h.move id o).objs j = if j = h.next then some o else if j = id then none else h.objs j := rfl
theorem move_next {h : H} {id : Nat} {o : O} : (h.move id o).next = h.next + 1 := rfl
theorem findL_last {α : Type} {s : ByteArray} {v : α} : ∀ {l : List (ByteArray × α)}, s ∉ l.map (·.1) → findL s (l ++ [(s, v)]) = some v
 | [], _ => by simp [findL]
 | (a, u) :: es, h => by
  simp only [List.map_cons, List.mem_cons, not_or] at h
  simp only [List.cons_append, findL]
  rw [if_neg (fun e => h.1 e.symm), findL_last h.2]
theorem natVs_snoc {k : Nat} : natVs (List.replicate k 1) ++ [I 1] = natVs (List.replicate (k + 1) 1) := by
 rw [List.replicate_succ']; simp [natVs]
theorem maxI_le {l : List InD} (h : ∀ d ∈ l, VIn d) : maxI l ≤ 16 := by
 induction l with
 | nil => decide
 | cons d ds ih =>
  have h1 := (h d (by simp)).w2
  have h2 := ih fun x hx => h x (by simp [hx])
  simp only [maxI]; omega
namespace YtemlhjlceeiflaaDoor
section
variable {K : Out → H → Prop} {p : Prg}
theorem takenB {s : ByteArray} {h : H} {x i sz l v1 v2 v3 : Nat} {a b c d e : V} {insl : List (ByteArray × InD)} {arsl : List (ByteArray × Int)} {loops : List (ByteArray × Nat)} (gx : h.get x = some [.map i, .map sz, a, b, .map l, c, d, e]) (i1 : h.objs i = some (.map (mapO InD.v insl) v1))
  (i2 : h.objs sz = some (.map (mapO intV arsl) v2)) (i3 : h.objs l = some (.map (mapO conV loops) v3)) (hK : K (.ret (.bool ((findL s insl).isSome || (findL s arsl).isSome || (findL s loops).isSome))) h) : R 34 [.ptr x 0, .str s] h K := by
 refine run34 (Nat.le_of_ble_eq_true rfl) ?_
 cases c1 : findL s insl <;> cases c2 : findL s arsl <;> cases c3 : findL s loops <;> rw [c1, c2, c3] at hK <;>
  (simp -dsimp -implicitDefEqProofs only [↓STP, STQ, seval, ir34, gx, lkp_two i1, lkp_two i2, lkp_two i3, c1, c2, c3, getD_none, getD_some, map_none', map_some', isSome_none', isSome_some', inV_cells, intV, conV, kn_cells, storeV]; exact hK)
theorem goneG {p : Prg} (ok : POk p) (hv : VSs p.body 1) (hin : ∀ d ∈ p.ins, VIn d) (har : ∀ d ∈ p.arrays, VAr d) {h : H}
  (hK : Ans (checkT p) (fun σ => ∀ h', h.next ≤ h'.next → (∀ j, j < h.next → h'.objs j = h.objs j) → K (.ret (.tuple [I σ.most, I 0])) h') (fun e => ∀ h', h.next ≤ h'.next → (∀ j, j < h.next → h'.objs j = h.objs j) → K (.ret (.tuple [I 0, I e])) h')) :
  R 18 [p.v] h K := by
 refine runs_defer ext2 (F := ir18) (tw := 86) rfl ?_
 simp -dsimp -implicitDefEqProofs only [↓STP, STQ, seval, ir18, Prg.v, Prg.cells, new_next, List.length_map]
 generalize hL0 : (Lk.mk (h.next + 1 + 1 + 1 + 1 + 1 + 1 + 1) (h.next + 1 + 1) (h.next + 1 + 1 + 1) (h.next + 1 + 1 + 1 + 1) (h.next + 1 + 1 + 1 + 1 + 1) (h.next + 1 + 1 + 1 + 1 + 1 + 1) [] []) = L
 have xe : L.x = h.next + 1 + 1 + 1 + 1 + 1 + 1 + 1 := by rw [← hL0]
 have li := maxLen_eq
 have pli := ok.li
 have pla := ok.la
 refine codeT_loop (fun k s => ∃ j h', k = p.ins.length - j ∧ j ≤ p.ins.length ∧ ((p.ins.take j).map InD.name).Nodup ∧ Bd h L (insM (p.ins.take j)) [] (maxI (p.ins.take j)) h' ∧
  s = ⟨upd (upd (upd (upd (upd (upd (upd ρ0 1 (.lptr 0 3 0)) 2 (.ptr h.next 0)) 3 (.ptr (h.next + 1) 0)) 4 (.ptr L.x 0)) 18 (.vec (p.ins.map InD.v) .any)) 19 (I p.ins.length)) 20 (I j), upd m0 0 (some [.vec (p.ins.map InD.v) .any, .vec (p.arrays.map ArD.v) .any, .vec (p.body.map Stm.v) .any]), 1, [], h'⟩)
  (i := p.ins.length) ⟨0, _, rfl, Nat.zero_le _, by simp, ?_, by rw [xe]; simp -dsimp -implicitDefEqProofs only [↓STP, STQ, seval] <;> rfl⟩ ?_ mono
 ·subst hL0
  refine ⟨?_, ⟨0, ?_⟩, ⟨0, ?_⟩, ⟨0, ?_⟩, ⟨0, ?_⟩, ⟨0, ?_⟩, rfl, by simp, ?_, ?_, ⟨?_, fun j hj => ?_, ?_, ?_⟩⟩
  ·simp [new_objs, new_next, Lk.cs, maxI]
  ·simp [new_objs, new_next, mapO, insM]
  ·simp [new_objs, new_next, mapO]
  ·simp [new_objs, new_next, mapO]
  ·simp [new_objs, new_next, mapO]
  ·simp [new_objs, new_next, mapO]
  ·simp [Lk.own]; omega
  ·intro id hid
   simp only [Lk.own, List.map_nil, List.append_nil, List.mem_cons, List.not_mem_nil, or_false] at hid
   simp only [new_next]
   omega
  ·simp only [new_next]; omega
  ·rw [new_objs, if_neg (by simp only [new_next]; omega), new_objs, if_neg (by simp only [new_next]; omega), new_objs, if_neg (by simp only [new_next]; omega), new_objs, if_neg (by simp only [new_next]; omega), new_objs, if_neg (by simp only [new_next]; omega), new_objs, if_neg (by simp only [new_next]; omega), new_objs, if_neg (by simp only [new_next]; omega), new_objs, if_neg (by omega)]
  ·rw [new_objs, if_neg (by simp only [new_next]; omega), new_objs, if_neg (by simp only [new_next]; omega), new_objs, if_neg (by simp only [new_next]; omega), new_objs, if_neg (by simp only [new_next]; omega), new_objs, if_neg (by simp only [new_next]; omega), new_objs, if_neg (by simp only [new_next]; omega), new_objs, if_neg (by simp only [new_next]; omega), new_objs, if_pos rfl]
  ·rw [new_objs, if_neg (by simp only [new_next]; omega), new_objs, if_neg (by simp only [new_next]; omega), new_objs, if_neg (by simp only [new_next]; omega), new_objs, if_neg (by simp only [new_next]; omega), new_objs, if_neg (by simp only [new_next]; omega), new_objs, if_neg (by simp only [new_next]; omega), new_objs, if_pos (by rw [new_next])]
 rintro k s ⟨j, h', rfl, hj, hnd, B, rfl⟩
 have gx := get_of B.x
 obtain ⟨vi, hi1⟩ := B.i
 obtain ⟨vs, hs1⟩ := B.s
 obtain ⟨vl, hl1⟩ := B.l
 have D := Lk.dist B.nd
 rcases Nat.lt_or_ge j p.ins.length with hi | hi
 ·have hget := get_map (f := InD.v) hi
  have hdm : p.ins[j] ∈ p.ins := List.getElem_mem hi
  have hdi := hin _ hdm
  have w1 := wiM (show j < 9223372036854775807 by omega)
  have htk : p.ins.take (j + 1) = p.ins.take j ++ [p.ins[j]] := by rw [List.take_add_one, List.getElem?_eq_getElem hi]; rfl
  have hbad := fun hh => take_bad (r := p.arrays.map ArD.name) (f := InD.name) hi hh
  generalize p.ins[j] = d at *
  simp -dsimp -implicitDefEqProofs only [↓STP, STQ, seval, Int.ofNat_lt, hi, hget, inV_cells, storeV]
  refine takenB gx hi1 hs1 hl1 ?_
  cases ht : (findL d.name (insM (p.ins.take j))).isSome with
  | true =>
   have hm := isSome_true.1 ht
   rw [insM_keys] at hm
   rw [unlike_false (hbad hm)] at hK
   simp -dsimp -implicitDefEqProofs only [↓STP, STQ, seval, Bool.true_or]
   refine failG ?_
   simp -dsimp -implicitDefEqProofs only [↓STP, STQ, seval, wrongV, endD_pan]
   obtain ⟨f1, f2⟩ := B.bs.fin (n := 4)
   exact ⟨4, _, _, rfl, B.bs.r0, B.bs.r1, hK _ (by rw [f1]; have := B.bs.nx; omega) f2⟩
  | false =>
   have hm := isSome_false.1 ht
   obtain ⟨vi', hup⟩ := mup_ok (f := InD.v) (s := d.name) (v := d) hi1
   rw [setE_new hm] at hup
   rw [inV_cells] at hup
   generalize hh1 : h'.set L.i (.map (mapO InD.v (insM (p.ins.take j) ++ [(d.name, d)])) vi') = h1 at *
   have gx1 : h1.get L.x = some (L.cs ⟨⟨fun _ => none, [], []⟩, 0, maxI (p.ins.take j), 0⟩) := get_of (by rw [← hh1, set_objs, if_neg D.1.1]; exact B.x)
   have hmx : (if d.width > ((maxI (p.ins.take j) : Nat) : Int) then d.width else ((maxI (p.ins.take j) : Nat) : Int)) = ((max (maxI (p.ins.take j)) d.width.toNat : Nat) : Int) := by
    have := hdi.w1
    split <;> omega
   have st1 := fun ρ m n u => storeF (ρ := ρ) (m := m) (n := n) (u := u) (j := 6) (v := I ((max (maxI (p.ins.take j)) d.width.toNat : Nat) : Int)) gx1 (by simp [Lk.cs]) rfl rfl
   generalize hh2 : h1.set L.x (.cells ((L.cs ⟨⟨fun _ => none, [], []⟩, 0, maxI (p.ins.take j), 0⟩).set 6 (I ((max (maxI (p.ins.take j)) d.width.toNat : Nat) : Int)))) = h2 at *
   simp -dsimp -implicitDefEqProofs only [↓STP, STQ, seval, Bool.false_or, findL, isSome_none', gx, Lk.cs, hup, gx1, maxV_two, hmx, st1, w1]
   refine ⟨p.ins.length - (j + 1), by omega, j + 1, _, rfl, hi, ?_, ?_, rfl⟩
   ·rw [htk, List.map_append]
    rw [insM_keys] at hm
    exact List.nodup_append.2 ⟨hnd, by simp, fun a ha b hb e => by rw [List.map_cons, List.map_nil, List.mem_singleton] at hb; subst hb; subst e; exact hm ha⟩
   ·rw [htk]
    have hins : insM (p.ins.take j ++ [d]) = insM (p.ins.take j) ++ [(d.name, d)] := by simp [insM]
    rw [hins, maxI_append]
    obtain ⟨⟨xi, xs, xv, xw, xl, xn⟩, ⟨is, iv, iw, il, in_⟩, ⟨sv, sw, sl, sn⟩, ⟨vw, vl, vn⟩, ⟨wl, wn⟩, ln, wnd⟩ := D
    have hold : ∀ q, q ≠ L.i → q ≠ L.x → h2.objs q = h'.objs q := fun q h1' h2' => by rw [← hh2, set_objs, if_neg h2', ← hh1, set_objs, if_neg h1']
    have hnx : h2.next = h'.next := by rw [← hh2, set_next, ← hh1, set_next]
    have lx := (B.lt L.x (by simp [Lk.own])).1
    have lii := (B.lt L.i (by simp [Lk.own])).1
    refine ⟨by rw [← hh2, set_objs, if_pos rfl]; rfl, ⟨vi', by rw [← hh2, set_objs, if_neg xi.symm, ← hh1, set_objs, if_pos rfl]⟩, ?_, ?_, ?_, ?_, B.es, fun r hr => ?_, B.nd, fun id hid => by rw [hnx]; exact B.lt id hid, B.bs.mono (by rw [hnx]; exact Nat.le_refl _) (fun q hq => hold q (by omega) (by omega))⟩
    ·rw [hold _ is.symm xs.symm]; exact B.s
    ·rw [hold _ iv.symm xv.symm]; exact B.v
    ·rw [hold _ iw.symm xw.symm]; exact B.w
    ·rw [hold _ il.symm xl.symm]; exact B.l
    ·have hm : r.2.1 ∈ L.ws.map (fun r => r.2.1) := List.mem_map.2 ⟨r, hr, rfl⟩
     rw [hold _ (fun e => in_ (by rw [← e]; exact hm)) (fun e => xn (by rw [← e]; exact hm))]; exact B.ws r hr
 ·have hj' : j = p.ins.length := by omega
  subst hj'
  rw [List.take_length] at B hnd
  simp -dsimp -implicitDefEqProofs only [↓STP, STQ, seval, Int.lt_irrefl]
  generalize hm0 : maxI p.ins = m0' at *
  have hL1 : L = { L with ws := [] } := by rw [← hL0]
  have les : L.es = [] := B.es
  refine codeT_loop (fun k s => ∃ j ws h', k = p.arrays.length - j ∧ j ≤ p.arrays.length ∧ (p.ins.map InD.name ++ (p.arrays.take j).map ArD.name).Nodup ∧ Bd h { L with ws := ws } (insM p.ins) (arsM (p.arrays.take j)) m0' h' ∧
   (ws.map fun r => (r.1, r.2.2)) = (p.arrays.take j).map (fun d => (d.name, d.size.toNat)) ∧
   s = ⟨upd (upd (upd (upd (upd (upd (upd ρ0 1 (.lptr 0 3 0)) 2 (.ptr h.next 0)) 3 (.ptr (h.next + 1) 0)) 4 (.ptr L.x 0)) 48 (.vec (p.arrays.map ArD.v) .any)) 49 (I p.arrays.length)) 50 (I j), upd m0 0 (some [.vec (p.ins.map InD.v) .any, .vec (p.arrays.map ArD.v) .any, .vec (p.body.map Stm.v) .any]), 1, [], h'⟩)
   (i := p.arrays.length) ⟨0, [], h', rfl, Nat.zero_le _, by simpa using hnd, by rw [← hL1]; exact B, rfl, by simp -dsimp -implicitDefEqProofs only [↓STP, STQ, seval, List.length_map] <;> rfl⟩ ?_ mono
  rintro k s ⟨j, ws, h2, rfl, hj2, hnd2, B2, hws, rfl⟩
  have gx2 := get_of B2.x
  obtain ⟨vi2, hi2⟩ := B2.i
  obtain ⟨vs2, hs2⟩ := B2.s
  obtain ⟨vl2, hl2⟩ := B2.l
  simp only at gx2 hi2 hs2 hl2
  have D2 := Lk.dist B2.nd
  simp only at D2
  rcases Nat.lt_or_ge j p.arrays.length with hi | hi
  ·have hget := get_map (f := ArD.v) hi
   have hdm : p.arrays[j] ∈ p.arrays := List.getElem_mem hi
   have hdi := har _ hdm
   have w1 := wiM (show j < 9223372036854775807 by omega)
   have htk : p.arrays.take (j + 1) = p.arrays.take j ++ [p.arrays[j]] := by rw [List.take_add_one, List.getElem?_eq_getElem hi]; rfl
   have hbad : p.arrays[j].name ∈ p.ins.map InD.name ++ (p.arrays.take j).map ArD.name → ¬ (p.ins.map InD.name ++ p.arrays.map ArD.name).Nodup := fun hh hn => by
    rcases List.mem_append.1 hh with hh | hh
    ·exact (List.nodup_append.1 hn).2.2 _ hh _ (List.mem_map.2 ⟨_, hdm, rfl⟩) rfl
    ·have := take_bad (r := []) (f := ArD.name) hi hh
     rw [List.append_nil] at this
     exact this (List.nodup_append.1 hn).2.1
   generalize p.arrays[j] = d at *
   simp -dsimp -implicitDefEqProofs only [↓STP, STQ, seval, Int.ofNat_lt, hi, hget, ArD.v, ArD.cells, storeV]
   refine takenB gx2 hi2 hs2 hl2 ?_
   cases ht : ((findL d.name (insM p.ins)).isSome || (findL d.name (arsM (p.arrays.take j))).isSome) with
   | true =>
    have hm : d.name ∈ p.ins.map InD.name ++ (p.arrays.take j).map ArD.name := by
     rw [Bool.or_eq_true] at ht
     refine List.mem_append.2 (ht.imp (fun h => ?_) (fun h => ?_))
     ·have := isSome_true.1 h; rwa [insM_keys] at this
     ·have := isSome_true.1 h; rwa [arsM_keys] at this
    rw [unlike_false (hbad hm)] at hK
    simp -dsimp -implicitDefEqProofs only [↓STP, STQ, seval, Bool.true_or]
    refine failG ?_
    simp -dsimp -implicitDefEqProofs only [↓STP, STQ, seval, wrongV, endD_pan]
    obtain ⟨f1, f2⟩ := B2.bs.fin (n := 4)
    exact ⟨4, _, _, rfl, B2.bs.r0, B2.bs.r1, hK _ (by rw [f1]; have := B2.bs.nx; omega) f2⟩
   | false =>
    have hm : d.name ∉ p.ins.map InD.name ++ (p.arrays.take j).map ArD.name := fun hh => by
     rw [Bool.or_eq_false_iff] at ht
     rcases List.mem_append.1 hh with hh | hh
     ·exact isSome_false.1 ht.1 (by rw [insM_keys]; exact hh)
     ·exact isSome_false.1 ht.2 (by rw [arsM_keys]; exact hh)
    have hma : d.name ∉ (arsM (p.arrays.take j)).map (·.1) := fun hh => hm (List.mem_append_right _ (by rw [arsM_keys] at hh; exact hh))
    have hkeys : ws.map (·.1) = (p.arrays.take j).map ArD.name := by
     have := congrArg (List.map Prod.fst) hws
     simpa [List.map_map, Function.comp_def] using this
    have hmw : d.name ∉ ws.map (·.1) := fun hh => hm (List.mem_append_right _ (by rw [hkeys] at hh; exact hh))
    obtain ⟨vs3, hup⟩ := mup_ok (f := intV) (s := d.name) (v := d.size) hs2
    rw [setE_new hma, show intV d.size = V.int .i64 d.size from rfl] at hup
    generalize hh3 : h2.set L.s (.map (mapO intV (arsM (p.arrays.take j) ++ [(d.name, d.size)])) vs3) = h3 at *
    have ars1 : arsM (p.arrays.take (j + 1)) = arsM (p.arrays.take j) ++ [(d.name, d.size)] := by rw [htk]; simp [arsM]
    have hold3 : ∀ q, q ≠ L.s → h3.objs q = h2.objs q := fun q hq => by rw [← hh3, set_objs, if_neg hq]
    have B3 : Bd h { L with ws := ws } (insM p.ins) (arsM (p.arrays.take (j + 1))) m0' h3 := by
     obtain ⟨⟨xi, xs, xv, xw, xl, xn⟩, ⟨is, iv, iw, il, in_⟩, ⟨sv, sw, sl, sn⟩, ⟨vw, vl, vn⟩, ⟨wl, wn⟩, ln, wnd⟩ := D2
     have ls := (B2.lt L.s (by simp [Lk.own])).1
     rw [ars1]
     refine ⟨?_, ?_, ⟨vs3, ?_⟩, ?_, ?_, ?_, B2.es, fun r hr => ?_, B2.nd, fun id hid => ?_, B2.bs.mono ?_ (fun q hq => hold3 q (by omega))⟩
     ·show h3.objs L.x = _; rw [hold3 _ xs]; exact B2.x
     ·show ∃ ver, h3.objs L.i = _; rw [hold3 _ is]; exact B2.i
     ·show h3.objs L.s = _; rw [← hh3, set_objs, if_pos rfl]
     ·show ∃ ver, h3.objs L.v = _; rw [hold3 _ sv.symm]; exact B2.v
     ·show ∃ ver, h3.objs L.w = _; rw [hold3 _ sw.symm]; exact B2.w
     ·show ∃ ver, h3.objs L.l = _; rw [hold3 _ sl.symm]; exact B2.l
     ·have hm : r.2.1 ∈ ws.map (fun r => r.2.1) := List.mem_map.2 ⟨r, hr, rfl⟩
      rw [hold3 _ (fun e => sn (by rw [← e]; exact hm))]; exact B2.ws r hr
     ·have := B2.lt id hid; rw [← hh3]; exact this
     ·rw [← hh3]; exact Nat.le_refl _
    have hsz : d.size = ((d.size.toNat : Nat) : Int) := by have := hdi.s1; omega
    simp -dsimp -implicitDefEqProofs only [↓STP, STQ, seval, Bool.false_or, findL, isSome_none', gx2, Lk.cs, hup]
    rw [hsz]
    generalize hNd : d.size.toNat = N at *
    have hN : N ≤ 64 := by have := hdi.s2; omega
    have hN1 : 1 ≤ N := by have := hdi.s1; omega
    refine codeT_loop (fun q s => ∃ k old h4, q = N - k ∧ k ≤ N ∧ ((k = 0 ∧ old = []) ∨ (0 < k ∧ ∃ id, old = [(d.name, id, k)])) ∧ Bd h { L with ws := ws ++ old } (insM p.ins) (arsM (p.arrays.take (j + 1))) m0' h4 ∧
     s = ⟨upd (upd (upd (upd (upd (upd (upd (upd (upd (upd ρ0 1 (.lptr 0 3 0)) 2 (.ptr h.next 0)) 3 (.ptr (h.next + 1) 0)) 4 (.ptr L.x 0)) 8 (.lptr 1 2 0)) 48 (.vec (p.arrays.map ArD.v) .any)) 49 (I p.arrays.length)) 50 (I j)) 68 (I N)) 69 (I k),
      upd (upd m0 0 (some [.vec (p.ins.map InD.v) .any, .vec (p.arrays.map ArD.v) .any, .vec (p.body.map Stm.v) .any])) 1 (some [.str d.name, I N]), 2, [], h4⟩)
     (i := N) ⟨0, [], h3, rfl, Nat.zero_le _, .inl ⟨rfl, rfl⟩, by rw [List.append_nil]; exact B3, by simp -dsimp -implicitDefEqProofs only [↓STP, STQ, seval] <;> rfl⟩ ?_ mono
    rintro q s ⟨k, old, h4, rfl, hk, hold, B4, rfl⟩
    rcases Nat.lt_or_ge k N with hkN | hkN
    ·have hlt : ((k : Nat) : Int) < ((N : Nat) : Int) := by omega
     have gx4 := get_of B4.x
     simp only at gx4
     obtain ⟨vw4, hw4⟩ := B4.w
     simp only at hw4
     have wk := wiM (show k < 9223372036854775807 by omega)
     have l1 := B4.lt L.x (by simp [Lk.own])
     have l5 := B4.lt L.w (by simp [Lk.own])
     have D4 := Lk.dist B4.nd
     simp only at D4
     rcases hold with ⟨hk0, rfl⟩ | ⟨hk0, id, rfl⟩
     ·have hf : findL d.name ws = none := findL_none.2 hmw
      have g5 : (h4.new (.cells (natVs (List.replicate (k + 1) 1)))).get L.x = some (Lk.cs { L with ws := ws ++ [] } ⟨⟨fun _ => none, [], []⟩, 0, m0', 0⟩) := get_of (by rw [new_objs, if_neg (by omega)]; exact B4.x)
      have hw5 : (h4.new (.cells (natVs (List.replicate (k + 1) 1)))).objs L.w = some (.map (mapO refV (ws ++ [])) vw4) := by rw [new_objs, if_neg (by omega)]; exact hw4
      obtain ⟨ver', hup⟩ := mup_ok (f := refV) (s := d.name) (v := (h4.next, k + 1)) hw5
      rw [List.append_nil, setE_new hmw, show refV (h4.next, k + 1) = V.ref h4.next 0 (k + 1) 1 from rfl] at hup
      simp -dsimp -implicitDefEqProofs only [↓STP, STQ, seval, eq_true hlt, gx4, Lk.cs, lkp_one hw4, hf, map_none', getD_none]
      rw [app_new1 hk0]
      generalize hcs : natVs (List.replicate (k + 1) 1) = cs at *
      simp -dsimp -implicitDefEqProofs only [↓STP, STQ, seval, g5, Lk.cs, hup, wk]
      refine ⟨N - (k + 1), by omega, k + 1, [(d.name, h4.next, k + 1)], _, rfl, by omega, .inr ⟨by omega, _, rfl⟩, B4.grow (old := []) (h2 := (h4.new (.cells cs)).set L.w (.map (mapO refV (ws ++ [(d.name, h4.next, k + 1)])) ver')) (by rw [set_objs, if_pos rfl]) ?_ (fun i hil hne _ => ?_) rfl, rfl⟩
      ·rw [set_objs, if_neg (by omega), new_objs, if_pos rfl, hcs]
      ·rw [set_objs, if_neg hne, new_objs, if_neg (by omega)]
     ·have hf : findL d.name (ws ++ [(d.name, id, k)]) = some (id, k) := findL_last hmw
      have hmem : (d.name, id, k) ∈ ws ++ [(d.name, id, k)] := by simp
      have hid : h4.objs id = some (.cells (natVs (List.replicate k 1))) := B4.ws _ hmem
      have hidm : id ∈ (ws ++ [(d.name, id, k)]).map (fun r => r.2.1) := List.mem_map.2 ⟨_, hmem, rfl⟩
      have idl := B4.lt id (List.mem_append_right _ hidm)
      have nx1 : L.x ≠ id := fun e => D4.1.2.2.2.2.2 (by rw [e]; exact hidm)
      have nw1 : L.w ≠ id := fun e => D4.2.2.2.2.1.2 (by rw [e]; exact hidm)
      have g5 : (h4.move id (.cells (natVs (List.replicate (k + 1) 1)))).get L.x = some (Lk.cs { L with ws := ws ++ [(d.name, id, k)] } ⟨⟨fun _ => none, [], []⟩, 0, m0', 0⟩) := get_of (by rw [move_objs, if_neg (by omega), if_neg nx1]; exact B4.x)
      have hw5 : (h4.move id (.cells (natVs (List.replicate (k + 1) 1)))).objs L.w = some (.map (mapO refV (ws ++ [(d.name, id, k)])) vw4) := by rw [move_objs, if_neg (by omega), if_neg nw1]; exact hw4
      obtain ⟨ver', hup⟩ := mup_ok (f := refV) (s := d.name) (v := (h4.next, k + 1)) hw5
      rw [setE_last hmw, show refV (h4.next, k + 1) = V.ref h4.next 0 (k + 1) 1 from rfl] at hup
      simp -dsimp -implicitDefEqProofs only [↓STP, STQ, seval, eq_true hlt, gx4, Lk.cs, lkp_one hw4, hf, map_some', getD_some, refV]
      rw [app_more (get_of hid) (by rw [natVs_len, List.length_replicate]) (by omega), natVs_snoc]
      generalize hcs : natVs (List.replicate (k + 1) 1) = cs at *
      simp -dsimp -implicitDefEqProofs only [↓STP, STQ, seval, g5, Lk.cs, hup, wk]
      refine ⟨N - (k + 1), by omega, k + 1, [(d.name, h4.next, k + 1)], _, rfl, by omega, .inr ⟨by omega, _, rfl⟩, B4.grow (old := [(d.name, id, k)]) (h2 := (h4.move id (.cells cs)).set L.w (.map (mapO refV (ws ++ [(d.name, h4.next, k + 1)])) ver')) (by rw [set_objs, if_pos rfl]) ?_ (fun i hil hne hall => ?_) rfl, rfl⟩
      ·rw [set_objs, if_neg (by omega), move_objs, if_pos rfl, hcs]
      ·rw [set_objs, if_neg hne, move_objs, if_neg (by omega), if_neg (fun e => hall (d.name, id, k) (by simp) e.symm)]
    ·have hkN' : k = N := by omega
     subst hkN'
     simp -dsimp -implicitDefEqProofs only [↓STP, STQ, seval, Int.lt_irrefl, w1]
     obtain ⟨_, id, rfl⟩ := hold.resolve_left (fun hh => by omega)
     refine ⟨p.arrays.length - (j + 1), by omega, j + 1, ws ++ [(d.name, id, k)], h4, rfl, hi, ?_, B4, ?_, rfl⟩
     ·rw [htk, List.map_append, ← List.append_assoc]
      exact List.nodup_append.2 ⟨hnd2, by simp, fun a ha b hb e => by rw [List.map_cons, List.map_nil, List.mem_singleton] at hb; subst hb; subst e; exact hm ha⟩
     ·rw [htk, List.map_append, List.map_append, hws]
      simp only [List.map_cons, List.map_nil, hNd]
  ·have hj' : j = p.arrays.length := by omega
   subst hj'
   rw [List.take_length] at B2 hnd2 hws
   have hp : PV p := ⟨fun d hd => ⟨(hin d hd).w1, (hin d hd).w2, (hin d hd).s1, (hin d hd).s2⟩, fun d hd => ⟨(har d hd).s1, (har d hd).s2⟩, hnd2⟩
   have hkeys : ws.map (·.1) = p.arrays.map ArD.name := by
    have := congrArg (List.map Prod.fst) hws
    simpa [List.map_map, Function.comp_def] using this
   have hwlen : ws.length = p.arrays.length := by simpa using congrArg List.length hws
   have hkn : (ws.map (·.1)).Nodup := by rw [hkeys]; exact (List.nodup_append.1 hnd2).2.1
   have A : At p { L with ws := ws } (initT p) h2 := by
    refine ⟨?_, B2.i, B2.s, B2.v, B2.w, B2.l, fun s => ?_, ?_, fun i d hd => ?_, hkn, fun r hr => ?_, B2.nd, fun id hid => (B2.lt id hid).2⟩
    ·have := B2.x; rw [← hm0] at this; exact this
    ·show findL s L.es = none; rw [les]; rfl
    ·show (L.es.map (·.1)).Nodup; rw [les]; simp
    ·have hil : i < p.arrays.length := (List.getElem?_eq_some_iff.1 hd).1
     have hg : ws[i]? = some ws[i] := List.getElem?_eq_getElem (by omega)
     have he : (ws.map fun r => (r.1, r.2.2))[i]? = (p.arrays.map (fun d => (d.name, d.size.toNat)))[i]? := by rw [hws]
     rw [List.getElem?_map, List.getElem?_map, hg, hd] at he
     simp only [Option.map_some, Option.some.injEq, Prod.mk.injEq] at he
     have hmem : ws[i] ∈ ws := List.mem_of_getElem? hg
     refine ⟨ws[i].2.1, List.replicate d.size.toNat 1, ?_, ?_, ?_⟩
     ·show (p.arrays.map fun d => List.replicate d.size.toNat 1)[i]? = _
      rw [List.getElem?_map, hd]; rfl
     ·rw [List.length_replicate]
      refine findL_of_mem hkn ?_
      show (d.name, ws[i].2.1, d.size.toNat) ∈ ws
      rw [← he.1, ← he.2]; exact hmem
     ·rw [← he.2]; exact B2.ws _ hmem
    ·have : r.1 ∈ p.arrays.map ArD.name := by rw [← hkeys]; exact List.mem_map.2 ⟨r, hr, rfl⟩
     obtain ⟨d, hd, hn⟩ := List.mem_map.1 this
     exact ⟨d, hd, hn⟩
   have T : TOk p (initT p) := by
    refine ⟨⟨(fun s k w h => by cases h), (fun s n h => by cases h), by simp [initT], fun i l d hl hd => ?_⟩, Nat.zero_le _, by have := maxI_le hin; show maxI p.ins ≤ 60; omega⟩
    have hl : (p.arrays.map fun d => List.replicate d.size.toNat 1)[i]? = some l := hl
    rw [List.getElem?_map, hd] at hl
    cases hl
    have := (har d (List.mem_of_getElem? hd)).s1
    refine ⟨by rw [List.length_replicate]; omega, fun w hw => ?_⟩
    have := (List.mem_replicate.1 hw).2
    omega
   have hck : checkT p = stmtsT p p.body (initT p) := by
    unfold checkT unlikeT
    rw [decide_eq_true hnd2]; rfl
   rw [hck] at hK
   simp -dsimp -implicitDefEqProofs only [↓STP, STQ, seval, Int.lt_irrefl]
   refine stmtsG hp ok.lb hv ok.body { L with ws := ws } (initT p) h2 _ A T (Nat.zero_le _) ?_
   have own2 : ∀ id, id < h.next + 2 → id ∉ Lk.own { L with ws := ws } := fun id hl hi => by have := (B2.lt id hi).1; omega
   have bnx := B2.bs.nx
   cases hr : stmtsT p p.body (initT p) with
   | error e =>
    rw [hr] at hK
    intro L5 h5 F5
    have b5 : Bse h h5 := B2.bs.mono F5.nx (fun q hq => F5.same q (by omega) (own2 q hq))
    simp -dsimp -implicitDefEqProofs only [↓STP, STQ, seval, wrongV, endD_pan]
    obtain ⟨f1, f2⟩ := b5.fin (n := e)
    exact ⟨e, _, _, rfl, b5.r0, b5.r1, hK _ (by rw [f1]; have := b5.nx; omega) f2⟩
   | ok σ =>
    rw [hr] at hK
    intro L5 h5 A5 F5
    have b5 : Bse h h5 := B2.bs.mono F5.nx (fun q hq => F5.same q (by omega) (own2 q hq))
    have gx5 := get_of A5.x
    rw [show L5.x = L.x from F5.x] at gx5
    have st5 := fun ρ m n u => storeF (ρ := ρ) (m := m) (n := n) (u := u) (j := 0) (v := I ((σ.most : Nat) : Int)) (get_of b5.r0) (by decide) rfl rfl
    generalize hh6 : h5.set h.next (.cells ([I 0].set 0 (I ((σ.most : Nat) : Int)))) = h6 at *
    have g6 : h6.get (h.next + 1) = some [I 0] := get_of (by rw [← hh6, set_objs, if_neg (by omega)]; exact b5.r1)
    have st6 := fun ρ m n u => storeF (ρ := ρ) (m := m) (n := n) (u := u) (j := 0) (v := I 0) g6 (by decide) rfl rfl
    generalize hh7 : h6.set (h.next + 1) (.cells ([I 0].set 0 (I 0))) = h7 at *
    have g70 : h7.get h.next = some [I ((σ.most : Nat) : Int)] := get_of (by rw [← hh7, set_objs, if_neg (by omega), ← hh6, set_objs, if_pos rfl]; rfl)
    have g71 : h7.get (h.next + 1) = some [I 0] := get_of (by rw [← hh7, set_objs, if_pos rfl]; rfl)
    simp -dsimp -implicitDefEqProofs only [↓STP, STQ, seval, gx5, Lk.cs, st5, st6, endD_ret, g70, g71, ir18]
    refine hK h7 (by rw [← hh7, set_next, ← hh6, set_next]; have := b5.nx; omega) (fun q hq => ?_)
    rw [← hh7, set_objs, if_neg (by omega), ← hh6, set_objs, if_neg (by omega)]
    exact b5.old q hq
end
end YtemlhjlceeiflaaDoor
end Go.Ab
namespace Go.Ab
def errT (r : TR TS) : Int := match r with | .ok _ => 0 | .error e => e
def mostT (r : TR TS) : Nat := match r with | .ok σ => σ.most | .error _ => 0
structure VT (p : Prg) : Prop where
 ok : POk p
 body : VSs p.body 1
 ins : ∀ d ∈ p.ins, VIn d
 ars : ∀ d ∈ p.arrays, VAr d
theorem VP.vt {p : Prg} (h : VP p) (ok : POk p) : VT p := ⟨ok, h.body, h.ins, h.arrays⟩
structure UpH (h h' : H) : Prop where
 nx : h.next ≤ h'.next
 old : ∀ j, j < h.next → h'.objs j = h.objs j
theorem UpH.refl (h : H) : UpH h h := ⟨Nat.le_refl _, fun _ _ => rfl⟩
theorem UpH.trans {h h' h'' : H} (a : UpH h h') (b : UpH h' h'') : UpH h h'' := ⟨Nat.le_trans a.nx b.nx, fun j hj => by rw [b.old j (Nat.lt_of_lt_of_le hj a.nx), a.old j hj]⟩
namespace YtemlhjlceeiflaaDoor
section
variable {h : H} {K : Out → H → Prop} {p : Nat}
theorem gone2 {p : Prg} (v : VT p) (hK : ∀ h', UpH h h' → K (.ret (.tuple [I (mostT (checkT p)), I (errT (checkT p))])) h') : R 18 [p.v] h K := by
 refine goneG v.ok v.body v.ins v.ars ?_
 cases hc : checkT p with
 | ok σ => rw [hc] at hK; exact fun h' a b => hK h' ⟨a, b⟩
 | error e => rw [hc] at hK; exact fun h' a b => hK h' ⟨a, b⟩
theorem checkG {p : Prg} (v : VT p) (hK : ∀ h', UpH h h' → K (.ret (I (errT (checkT p)))) h') : R 7 [p.v] h K := by
 refine run7 (Nat.le_of_ble_eq_true rfl) ?_
 have hv0 : p.v = V.agg [.vec (p.ins.map InD.v) .any, .vec (p.arrays.map ArD.v) .any, .vec (p.body.map Stm.v) .any] := rfl
 simp -dsimp -implicitDefEqProofs only [↓STP, STQ, seval, ir7, hv0]
 rw [← hv0]
 refine gone2 v fun h' u => ?_
 simp -dsimp -implicitDefEqProofs only [↓STP, STQ, seval]
 exact hK h' u
theorem maxG {p : Prg} (v : VT p) (hK : ∀ h', UpH h h' → K (.ret (.tuple [I (mostT (checkT p)), I (errT (checkT p))])) h') : R 9 [p.v] h K := by
 refine run9 (Nat.le_of_ble_eq_true rfl) ?_
 have hv0 : p.v = V.agg [.vec (p.ins.map InD.v) .any, .vec (p.arrays.map ArD.v) .any, .vec (p.body.map Stm.v) .any] := rfl
 simp -dsimp -implicitDefEqProofs only [↓STP, STQ, seval, ir9, hv0]
 rw [← hv0]
 refine gone2 v fun h' u => ?_
 simp -dsimp -implicitDefEqProofs only [↓STP, STQ, seval]
 exact hK h' u
end
end YtemlhjlceeiflaaDoor
end Go.Ab
namespace Go.Ab
theorem exprT_body {p p' : Prg} (hi : p'.ins = p.ins) (ha : p'.arrays = p.arrays) {σ : TE} (e : Exp) : exprT p' σ e = exprT p σ e := by
 induction e using Exp.ind with
 | h k o n s ks ih =>
  have hl : ∀ l : List Exp, (∀ x ∈ l, exprT p' σ x = exprT p σ x) → exprsT p' σ l = exprsT p σ l := by
   intro l
   induction l with
   | nil => intro _; rw [exprsT, exprsT]
   | cons x xs ihl =>
    intro h
    rw [exprsT, exprsT, h x (by simp), ihl fun y hy => h y (by simp [hy])]
  rw [exprT, exprT, hl ks ih]
  congr 1
  funext r
  congr 1
  unfold madeT nameT indexT inOf arOf
  rw [hi, ha]
theorem exprsT_body {p p' : Prg} (hi : p'.ins = p.ins) (ha : p'.arrays = p.arrays) {σ : TE} : ∀ l : List Exp, exprsT p' σ l = exprsT p σ l
 | [] => by rw [exprsT, exprsT]
 | x :: xs => by rw [exprsT, exprsT, exprT_body hi ha, exprsT_body hi ha]
theorem stmtsT_body_of {p p' : Prg} : ∀ {l : List Stm}, (∀ x ∈ l, stmtT p' x = stmtT p x) → stmtsT p' l = stmtsT p l
 | [], _ => by funext σ; rw [stmtsT, stmtsT]
 | x :: xs, h => by
  funext σ
  rw [stmtsT, stmtsT, h x (by simp), stmtsT_body_of fun y hy => h y (by simp [hy])]
theorem stmtT_body {p p' : Prg} (hi : p'.ins = p.ins) (ha : p'.arrays = p.arrays) (x : Stm) : stmtT p' x = stmtT p x := by
 induction x using Stm.ind with
 | h k s e a b iha ihb =>
  funext σ
  rw [stmtT, stmtT]
  congr 1
  funext τ
  rw [exprsT_body hi ha, stmtsT_body_of iha, stmtsT_body_of ihb]
  congr 1
  funext r
  unfold stmt1 setT storeT forT takenT inOf arOf
  rw [hi, ha]
theorem stmtsT_body {p p' : Prg} (hi : p'.ins = p.ins) (ha : p'.arrays = p.arrays) (l : List Stm) : stmtsT p' l = stmtsT p l := stmtsT_body_of fun x _ => stmtT_body hi ha x
theorem TOk_init {p : Prg} (hin : ∀ d ∈ p.ins, VIn d) (har : ∀ d ∈ p.arrays, VAr d) : TOk p (initT p) := by
 refine ⟨⟨(fun s k w h => by cases h), (fun s n h => by cases h), by simp [initT], fun i l d hl hd => ?_⟩, Nat.zero_le _, by have := maxI_le hin; show maxI p.ins ≤ 60; omega⟩
 have hl : (p.arrays.map fun d => List.replicate d.size.toNat 1)[i]? = some l := hl
 rw [List.getElem?_map, hd] at hl
 cases hl
 have := (har d (List.mem_of_getElem? hd)).s1
 refine ⟨by rw [List.length_replicate]; omega, fun w hw => ?_⟩
 have := (List.mem_replicate.1 hw).2
 omega
theorem PV_of {p : Prg} (v : VT p) (h : unlikeT p = true) : PV p :=
 ⟨fun d hd => ⟨(v.ins d hd).w1, (v.ins d hd).w2, (v.ins d hd).s1, (v.ins d hd).s2⟩, fun d hd => ⟨(v.ars d hd).s1, (v.ars d hd).s2⟩, of_decide_eq_true h⟩
theorem check_inv {p : Prg} {σ : TS} (h : checkT p = .ok σ) : unlikeT p = true ∧ stmtsT p p.body (initT p) = .ok σ := by
 unfold checkT at h
 split at h
 ·rename_i hu; exact ⟨hu, h⟩
 ·cases h
theorem errT_ok {r : TR TS} (h : errT r = 0) (hne : ∀ e, r = .error e → e ≠ 0) : ∃ σ, r = .ok σ := by
 cases r with
 | ok σ => exact ⟨σ, rfl⟩
 | error e => exact absurd h (hne e rfl)
def Nz {α : Type} (r : TR α) : Prop := ∀ e, r = .error e → e ≠ 0
theorem Nz.ok {α : Type} {a : α} : Nz (.ok a : TR α) := fun e h => by cases h
theorem Nz.err {α : Type} {e : Int} (h : e ≠ 0) : Nz (.error e : TR α) := fun e' h' => by cases h'; exact h
theorem Nz.and {α β : Type} {r : TR α} {f : α → TR β} (h : Nz r) (hf : ∀ a, Nz (f a)) : Nz (andT r f) := by
 cases r with
 | ok a => exact hf a
 | error e => exact fun e' h' => h e' (by cases h'; rfl)
theorem Nz.ite {α : Type} {c : Prop} [Decidable c] {a b : TR α} (ha : Nz a) (hb : Nz b) : Nz (if c then a else b) := by
 split
 ·exact ha
 ·exact hb
theorem placeT_nz {k : Kn} {z : Int} : Nz (placeT k z) := .ite (.err (by decide)) (.ite (.err (by decide)) .ok)
theorem madeT_nz {p : Prg} {σ : TE} {k o : Int} {n : Nat} {s : ByteArray} {l : List Kn} : Nz (madeT p σ k o n s l) := by
 unfold madeT
 refine .ite .ok (.ite ?_ (.ite ?_ (.ite ?_ (.ite (.ite (.err (by decide)) .ok) (.ite (.err (by decide)) .ok)))))
 ·unfold nameT
  split
  ·exact .ok
  ·split
   ·exact .ok
   ·split
    ·exact .ite .ok (.err (by decide))
    ·exact .err (by decide)
 ·unfold indexT
  split
  ·exact .and placeT_nz fun _ => .ok
  ·split
   ·exact .ite (.err (by decide)) (.and placeT_nz fun _ => .ok)
   ·exact .err (by decide)
 ·unfold opK
  exact .ite (.err (by decide)) (.ite .ok (.ite .ok (.ite .ok .ok)))
theorem toldT_nz {m : Nat} {k : Kn} : Nz (toldT m k) := .ite (.ite (.err (by decide)) .ok) .ok
theorem exprsT_nz_of {p : Prg} {σ : TE} : ∀ {l : List Exp}, (∀ x ∈ l, Nz (exprT p σ x)) → Nz (exprsT p σ l)
 | [], _ => by rw [exprsT]; exact .ok
 | x :: xs, h => by
  rw [exprsT]
  exact .and (h x (by simp)) fun _ => .and (exprsT_nz_of fun y hy => h y (by simp [hy])) fun _ => .ok
theorem exprT_nz {p : Prg} {σ : TE} (e : Exp) : Nz (exprT p σ e) := by
 induction e using Exp.ind with
 | h k o n s ks ih =>
  rw [exprT]
  exact .and (exprsT_nz_of ih) fun _ => .and madeT_nz fun _ => toldT_nz
theorem stepT_nz {σ : TS} : Nz (stepT σ) := .ite (.err (by decide)) .ok
theorem iterT_nz {f : Nat → TS → TR TS} (h : ∀ n σ, Nz (f n σ)) : ∀ c n σ, Nz (iterT f c n σ)
 | 0, n, σ => by rw [iterT]; exact .ok
 | c + 1, n, σ => by rw [iterT]; exact .and (h n σ) fun _ => iterT_nz h c (n + 1) _
theorem stmt1_nz {p : Prg} {k : Int} {s : ByteArray} {l : List Kn} {fa fb : TS → TR TS} (ha : ∀ σ, Nz (fa σ)) (hb : ∀ σ, Nz (fb σ)) {σ : TS} : Nz (stmt1 p k s l fa fb σ) := by
 unfold stmt1
 refine .ite ?_ (.ite ?_ (.ite ?_ (.ite ?_ (.ite (.err (by decide)) .ok))))
 ·exact .ite (.err (by decide)) .ok
 ·unfold storeT
  split
  ·exact .err (by decide)
  ·exact .and placeT_nz fun _ => .ite (.err (by decide)) .ok
 ·exact .ite (.err (by decide)) (.and (ha _) fun _ => .and (hb _) fun _ => .ok)
 ·exact .ite (.err (by decide)) (.ite (.err (by decide)) (iterT_nz (fun n τ => .and stepT_nz fun _ => .and (ha _) fun _ => .ok) _ _ _))
theorem stmtsT_nz_of {p : Prg} : ∀ {l : List Stm}, (∀ x ∈ l, ∀ σ, Nz (stmtT p x σ)) → ∀ σ, Nz (stmtsT p l σ)
 | [], _ => fun σ => by rw [stmtsT]; exact .ok
 | x :: xs, h => fun σ => by
  rw [stmtsT]
  exact .and (h x (by simp) σ) fun _ => stmtsT_nz_of (fun y hy => h y (by simp [hy])) _
theorem stmtT_nz {p : Prg} (x : Stm) : ∀ σ, Nz (stmtT p x σ) := by
 induction x using Stm.ind with
 | h k s e a b iha ihb =>
  intro σ
  rw [stmtT]
  exact .and stepT_nz fun _ => .and (exprsT_nz_of fun x _ => exprT_nz x) fun _ => stmt1_nz (stmtsT_nz_of iha) (stmtsT_nz_of ihb)
theorem checkT_nz {p : Prg} : Nz (checkT p) := .ite (stmtsT_nz_of (fun x _ => stmtT_nz x) _) (.err (by decide))
end Go.Ab
namespace Go.Ab
theorem nthC_map {l : List Exp} {i : Nat} (h : i < l.length) : nthC (l.map constE) i = constE (nthE l i) := by
 unfold nthC nthE
 rw [List.getD_eq_getElem?_getD, List.getElem?_map, List.getD_eq_getElem?_getD, List.getElem?_eq_getElem h]; rfl
theorem forT_is {p : Prg} {s : ByteArray} {l : List Kn} {fa : TS → TR TS} {σ τ : TS} (hs : forT p s l fa σ = .ok τ) : (nthK l 0).is = true ∧ (nthK l 1).is = true := by
 unfold forT at hs
 split at hs
 ·cases hs
 rename_i hc
 refine ⟨?_, ?_⟩
 ·cases q : (nthK l 0).is with
  | true => rfl
  | false => exact absurd (.inr (.inr (.inl q))) hc
 ·cases q : (nthK l 1).is with
  | true => rfl
  | false => exact absurd (.inr (.inr (.inr q))) hc
theorem stm_sub {p : Prg} (hp : PV p) (x : Stm) : ∀ lv, VS x lv → RelT p (stmtsT p (foldS x)) (stmtT p x) := by
 induction x using Stm.ind with
 | h k s e a b iha ihb =>
  intro lv hv σ' σ τ o' o h hs
  obtain ⟨v1, v2, v3, v4, v5, v6, v7, v8, v9, v10, v11⟩ := VS_mk.1 hv
  have ra := stms_sub hp v10 fun x hx => iha x hx _ (VSs_all.1 v10 x hx)
  have rb := stms_sub hp v11 fun x hx => ihb x hx _ (VSs_all.1 v11 x hx)
  have ga := stmtsT_ok hp v10
  have gb := stmtsT_ok hp v11
  have ga' := stmtsT_ok hp (VSs_fold v10)
  have gb' := stmtsT_ok hp (VSs_fold v11)
  rw [stmtT] at hs
  obtain ⟨σ1, h1, hs⟩ := andT_inv hs
  obtain ⟨⟨l, m⟩, h2, hs⟩ := andT_inv hs
  have sk := h.skip h1
  obtain ⟨σ1', p1, s1⟩ := stepT_sub h h1
  obtain ⟨rfl, k1⟩ := stepT_ok o h1
  obtain ⟨rfl, k1'⟩ := stepT_ok o' p1
  have hw : ∀ i : Nat, i < p.arrays.length → i < σ.env.words.length := fun i hi => by rw [o.env.wlen]; exact hi
  have vf : ∀ y ∈ e.map foldE, VE y (lv + 1) := fun y hy => by
   obtain ⟨z, hz, rfl⟩ := List.mem_map.1 hy
   exact VE_fold z _ (v9 z hz)
  obtain ⟨l', m', e1, e2, e3⟩ := exprsT_sub (fun x hx => fold_typed h.env hw x _ (v9 x hx)) l m h2
  obtain ⟨kl, km, kn⟩ := exprsT_ok hp o.env v9 l m h2
  obtain ⟨kl', km', kn'⟩ := exprsT_ok hp o'.env vf l' m' e1
  have cs := CTs_of (fun x hx => const_typed x _ (vf x hx)) l' m' e1
  have hel : l'.length = e.length := by rw [kn', List.length_map]
  have ek' : TOk p { σ' with steps := σ'.steps + 1, most := max (σ'.most) m' } := ⟨k1'.ok.env, k1'.ok.steps, by have := o'.most; show max σ'.most m' ≤ 60; omega⟩
  have ek : TOk p { σ with steps := σ.steps + 1, most := max (σ.most) m } := ⟨k1.ok.env, k1.ok.steps, by have := o.most; show max σ.most m ≤ 60; omega⟩
  have sm : SubS p { σ' with steps := σ'.steps + 1, most := max (σ'.most) m' } { σ with steps := σ.steps + 1, most := max (σ.most) m } := ⟨s1.env, s1.steps, by have := h.most; show max σ'.most m' ≤ max σ.most m; omega, s1.ifs⟩
  have sm0 : SubS p σ' { σ with steps := σ.steps + 1, most := max (σ.most) m } := ⟨sk.env, sk.steps, by have := h.most; show σ'.most ≤ max σ.most m; omega, sk.ifs⟩
  rw [foldS_mk]
  unfold foldStm
  split
  ·rename_i c
   obtain ⟨rfl, c2⟩ := c
   have hs : ifT l (stmtsT p a) (stmtsT p b) { σ with steps := σ.steps + 1, most := max (σ.most) m } = .ok τ := hs
   have q := drop_if ra rb ga' ga gb' gb (l := l) (decide ((constE (nthE (e.map foldE) 0)).1 = 1)) σ' _ τ o' ek sm0 hs
   by_cases c1 : (constE (nthE (e.map foldE) 0)).1 = 1
   ·rw [if_pos c1]; rw [decide_eq_true c1] at q; exact q
   ·rw [if_neg c1]; rw [decide_eq_false c1] at q; exact q
  ·rename_i c
   split
   ·rename_i d
    obtain ⟨rfl, d0, d1, d2⟩ := d
    have hs : forT p s l (stmtsT p a) { σ with steps := σ.steps + 1, most := max (σ.most) m } = .ok τ := hs
    obtain ⟨i0, i1⟩ := forT_is hs
    have he : e.length = 2 := v4
    obtain ⟨j0, w0⟩ := (e2.nth 0).is i0
    obtain ⟨j1, w1⟩ := (e2.nth 1).is i1
    have t0 := cs.nth 0
    have t1 := cs.nth 1
    rw [nthC_map (by rw [List.length_map]; omega)] at t0 t1
    have u0 := (t0.num d0).2.2.2 j0
    have u1 := (t1.num d1).2.2.2 j1
    obtain ⟨τ', r1, r2⟩ := drop_for (fa := stmtsT p a) (p := p) (s := s) (l := l) (by omega) σ' _ τ o' ek sm0 hs
    rw [stmtsT]
    exact ⟨τ', r1, r2⟩
   ·rename_i d
    rw [stmtsT_one', stmtT, p1, andT_ok, e1, andT_ok]
    have hs : stmt1 p k s l (stmtsT p a) (stmtsT p b) { σ with steps := σ.steps + 1, most := max (σ.most) m } = .ok τ := hs
    show ∃ τ', stmt1 p k s l' (stmtsT p (foldSs a)) (stmtsT p (foldSs b)) { σ' with steps := σ'.steps + 1, most := max (σ'.most) m' } = .ok τ' ∧ SubS p τ' τ
    unfold stmt1 at hs ⊢
    split at hs
    ·rename_i d1
     rw [if_pos d1]
     exact setT_sub sm e2 hs
    rename_i d1
    rw [if_neg d1]
    split at hs
    ·rename_i d2
     rw [if_pos d2]
     exact storeT_sub sm e2 hs
    rename_i d2
    rw [if_neg d2]
    split at hs
    ·rename_i d3
     rw [if_pos d3]
     exact ifT_sub e2 ra rb ga' ga gb' gb _ _ τ ek' ek sm hs
    rename_i d3
    rw [if_neg d3]
    split at hs
    ·rename_i d4
     rw [if_pos d4]
     exact forT_sub e2 kl' kl ra ga' ga _ _ τ ek' ek sm hs
    rename_i d4
    rw [if_neg d4]
    split at hs
    ·cases hs
    rename_i d5
    cases hs
    have := sm.ifs
    rw [if_neg (by omega)]
    exact ⟨_, rfl, sm⟩
theorem VT.fold {p : Prg} (v : VT p) (hb : p.v.bulk ≤ 20000000) : VT p.fold := ⟨POk_fold v.ok v.body hb, VSs_fold v.body, v.ins, v.ars⟩
theorem SubS.refl {p : Prg} (v : VT p) : SubS p (initT p) (initT p) :=
 ⟨⟨fun s k w h => ⟨w, h, Nat.le_refl _⟩, fun s k w h => (by cases h), rfl, rfl, fun i x' x h h' => by rw [h] at h'; cases h'; exact ⟨rfl, fun n => Nat.le_refl _⟩⟩, Nat.le_refl _, Nat.le_refl _, Nat.le_refl _⟩
theorem check_fold {p : Prg} (v : VT p) {σ : TS} (h : checkT p = .ok σ) : ∃ σ', checkT p.fold = .ok σ' ∧ σ'.most ≤ σ.most := by
 obtain ⟨hu, hs⟩ := check_inv h
 have hp := PV_of v hu
 have T := TOk_init v.ins v.ars
 obtain ⟨τ, h1, h2⟩ := stms_sub hp v.body (fun x hx => stm_sub hp x _ (VSs_all.1 v.body x hx)) (initT p) (initT p) σ T T (SubS.refl v) hs
 refine ⟨τ, ?_, h2.most⟩
 unfold checkT
 rw [show unlikeT p.fold = unlikeT p from rfl, hu, if_pos rfl, stmtsT_body (p := p) (p' := p.fold) rfl rfl]
 exact h1
end Go.Ab
namespace Go.Ab.YtemlhjlceeiflaaDoor
theorem typing31 {p : Prg} {K : Out → H → Prop} (ok : POk p) (hb : p.v.bulk ≤ 1048576) (hK : ∀ h', K (.ret (.bool true)) h') : R 3 [p.v] h0 K := by
 refine run3 (Nat.le_of_ble_eq_true rfl) ?_
 have hv0 : p.v = V.agg [.vec (p.ins.map InD.v) .any, .vec (p.arrays.map ArD.v) .any, .vec (p.body.map Stm.v) .any] := rfl
 have hv1 : p.fold.v = V.agg [.vec (p.ins.map InD.v) .any, .vec (p.arrays.map ArD.v) .any, .vec ((foldSs p.body).map Stm.v) .any] := rfl
 simp -dsimp -implicitDefEqProofs only [↓STP, STQ, seval, ir3, hv0]
 refine awake31 fun h => ?_
 simp -dsimp -implicitDefEqProofs only [↓STP, STQ, seval]
 rw [← hv0]
 refine few_spec ok (by omega) fun b hvp => ?_
 cases b with
 | false =>
  simp -dsimp -implicitDefEqProofs only [↓STP, STQ, seval]
  exact hK _
 | true =>
 have v := (hvp rfl).vt ok
 simp -dsimp -implicitDefEqProofs only [↓STP, STQ, seval, hv0]
 rw [← hv0]
 refine checkG v fun h1 u1 => ?_
 by_cases e : errT (checkT p) = 0
 rotate_left
 ·simp -dsimp -implicitDefEqProofs only [↓STP, STQ, seval, eq_false e]
  exact hK _
 obtain ⟨σ, hσ⟩ := errT_ok e checkT_nz
 obtain ⟨τ, hτ, hle⟩ := check_fold v hσ
 simp -dsimp -implicitDefEqProofs only [↓STP, STQ, seval, eq_true e, hv0]
 rw [← hv0]
 refine foldG ok v.body (by omega) ?_
 simp -dsimp -implicitDefEqProofs only [↓STP, STQ, seval, hv0, hv1, storeV]
 rw [← hv0]
 refine maxG v fun h2 u2 => ?_
 simp -dsimp -implicitDefEqProofs only [↓STP, STQ, seval, hv1]
 rw [← hv1]
 refine maxG (v.fold (by omega)) fun h3 u3 => ?_
 have hle' : ((mostT (checkT p.fold) : Nat) : Int) ≤ ((mostT (checkT p) : Nat) : Int) := by
  rw [hτ, hσ]; exact Int.ofNat_le.2 hle
 have he2 : errT (checkT p.fold) = 0 := by rw [hτ]; rfl
 simp -dsimp -implicitDefEqProofs only [↓STP, STQ, seval, eq_true e, eq_true he2, eq_true hle']
 exact hK _
end Go.Ab.YtemlhjlceeiflaaDoor
namespace Go.Ab
open Go.RowKit Go.ChangeShapes
section
variable {H' : Type} {enc : TypeId × Value → H'} {P : Program} {W : World} {ts : List TypeId}
theorem law_callsG {G : List (Nat × List V)} {E : Env} (hcall : ∀ n, CallOK P G (call E n)) (hwr : WR (k0 W) h0 W G) {f : FuncId} {vals : Array Value} {vs : List V} (hargs : ArgsOK (k0 W) W vs vals) (hr : Runs E f vs h0 (fun o _ => o = .ret (.bool true))) :
  Calls P f vals W fun e W' => e = .returned (.bool true) ∧ Below W.heap.size W W' := by
 obtain ⟨n, hn⟩ := hr
 refine ((hcall n _ _ _ _ hn).2 (k0 W) W vals hwr hargs).mono fun e W' h => ?_
 obtain ⟨o, h', rfl, k', hwr, hold, x, b, fb, rfl, _, hx⟩ := h
 have hx' : VR k' W' (.bool true) x := hx
 cases hx'
 exact ⟨rfl, hold.misc.2.1, hold.misc.1, hold.misc.2.2, hold.keeps.size, fun b hb => hold.same b hb (fun id o ho => by simp [h0] at ho)⟩
theorem law_contractG {B : DataW H' → Nat} (hB : BulkOK B) {N : Nat} {G : List (Nat × List V)} {E : Env} (hcall : ∀ n, CallOK P G (call E n)) (hwr : WR (k0 W) h0 W G) {f : FuncId} {fn : Func} {s : ChangeSpec} {apart fresh handsOn : Bool} {base : Nat} {args : Array Value} {ds gs : List (DataW H')} {before : List MemPlace} {tb : TypeId}
  (hl : laidOutB P = true) (hc : closedT P ts = true) (hts : (fn.params.toList.all fun t => ts.contains t && P.readableRec t && decide (t < P.types.size)) = true) (hres : fn.resultTypes = #[tb]) (htb : P.underlying tb = some .bool)
  (hvars : s.vars = []) (hfn : ∀ ds : List (DataW H'), ds.length = fn.params.toList.length → s.fn H' ds = { results := [.lit (.bool true)], args := ds })
  (hval : ∀ (j : Nat) t v, fn.params[j]? = some t → args[j]? = some v → Value.okWide P W .any base t v)
  (hW : DataW.Whole enc P fn.params.toList s.vars apart W args.toList ds gs before)
  (hbulk : (ds.map B).sum ≤ N)
  (hrun : ∀ vs, TyArgs P fn.params.toList vs → V.bulks vs ≤ N → Runs E f vs h0 (fun o _ => o = .ret (.bool true))) :
  Calls P f args W fun e W' => ∃ v, e = .returned v ∧ s.post enc P fn apart fresh handsOn false W args v W' := by
 have hW0 := hW
 obtain ⟨p, q, hA, hV, rfl, _, _⟩ := hW
 rw [List.all_eq_true] at hts
 have hts' : ∀ t ∈ fn.params.toList, ts.contains t = true ∧ P.readableRec t = true ∧ t < P.types.size := fun t ht => by
  have := hts t ht
  simp only [Bool.and_eq_true, decide_eq_true_eq] at this
  exact ⟨this.1.1, this.1.2, this.2⟩
 rw [hvars] at hV
 obtain ⟨rfl, rfl⟩ : gs = [] ∧ q = [] := by
  cases gs with
  | nil => exact ⟨rfl, hV⟩
  | cons => exact hV.elim
 obtain ⟨us, u1, u2, u3, u4⟩ := args_VB hB (b0 := base) hc (fun t ht => (hts' t ht).1) hA (fun j t v h1 h2 => hval j t v (by simpa using h1) (by simpa using h2))
 refine (law_callsG hcall hwr (vs := us) ⟨by simpa using u1.symm, fun j u hj => ?_⟩ (hrun us u3 (Nat.le_trans u4 hbulk))).mono fun e W' h => ?_
 ·obtain ⟨x, a, b⟩ := u2 j u hj
  exact ⟨x, by simpa using a, b⟩
 obtain ⟨rfl, hb⟩ := h
 have hfn := hfn ds (trodAll_len hA)
 refine ⟨_, rfl, ds, [], p ++ [], [], p, [], hW0, ?_, ?_, ?_, hb.frame _, fun h => by cases h⟩
 ·rw [List.append_nil, hfn, hres]
  exact trodAll_mk1 (shut_bool htb true)
 ·rw [List.append_nil, hfn]
  exact trodAll_below hl hb (fun t ht => (hts' t ht).2) hA
 ·rw [List.append_nil, hfn, hvars]; rfl
def litX : V → Value
 | .int k n => .int k n
 | .bool b => .bool b
 | _ => .nilFunc
theorem glob_vr {g : Nat} {vs : List V} (hp : ∀ v ∈ vs, (∃ k n, v = .int k n) ∨ ∃ b, v = .bool b) (hc : ∀ (j : Nat) (v : V), vs[j]? = some v → W.cell? ⟨g, j, none⟩ = some (litX v)) : VR (k0 W) W (.iptr vs) (.pointer (some ⟨g, 0, none⟩)) := by
 refine .iptr vs ⟨g, 0, none⟩ (fun j => litX (vs.getD j .undef)) rfl (fun j v hj => ?_) (fun j v hj => ?_)
 ·have e : vs.getD j .undef = v := by rw [List.getD_eq_getElem?_getD, hj]; rfl
  have h1 := hc j v hj
  have ha : (⟨g, 0, none⟩ : Addr).add j = ⟨g, j, none⟩ := by simp [Addr.add]; try omega
  rw [ha]
  simp only [e]
  refine ⟨h1, cell_lim h1, ?_⟩
  rcases hp v (List.mem_of_getElem? hj) with ⟨k, n, rfl⟩ | ⟨b, rfl⟩ <;> rfl
 ·have e : vs.getD j .undef = v := by rw [List.getD_eq_getElem?_getD, hj]; rfl
  simp only [e]
  rcases hp v (List.mem_of_getElem? hj) with ⟨k, n, rfl⟩ | ⟨b, rfl⟩
  ·exact .int k n
  ·exact .bool b
theorem wrG {G : List (Nat × List V)} (h : ∀ g cells, (g, cells) ∈ G → VR (k0 W) W (.iptr cells) (.pointer (some ⟨g, 0, none⟩))) : WR (k0 W) h0 W G := ⟨rfl, fun id o h => by simp [h0] at h, fun id id' o o' h => by simp [h0] at h, h⟩
end
end Go.Ab
