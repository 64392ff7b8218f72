import Derived.Test.YtihmoaibgmhjeaaDoorD13
import Derived.Test.YtihmoaibgmhjeaaDoorA6
set_option linter.unusedVariables false
set_option linter.unusedSimpArgs false
namespace Go.Ab
theorem endD_ret {F : IFn} {tw : TypeId} {h : H} {K : Out → H → Prop} {st : S} : endD F tw h K .ret st = withV (finish st F.results) (fun v => K (.ret v) st.h) ⟨⟩ := rfl
theorem endD_pan {F : IFn} {tw : TypeId} {h h' : H} {K : Out → H → Prop} {v : V} : endD F tw h K (.pan v) (.blank h') = ∃ n x0 x1, v = .iface tw (.agg [.int .i64 n]) ∧ h'.objs h.next = some (.cells [x0]) ∧ h'.objs (h.next + 1) = some (.cells [x1]) ∧
   K (.ret (.tuple [.int .i64 0, .int .i64 n])) ((h'.set h.next (.cells [.int .i64 0])).set (h.next + 1) (.cells [.int .i64 n])) := rfl
structure Bse (h0 h : H) : Prop where
 nx : h0.next + 2 ≤ h.next
 old : ∀ j, j < h0.next → h.objs j = h0.objs j
 r0 : h.objs h0.next = some (.cells [I 0])
 r1 : h.objs (h0.next + 1) = some (.cells [I 0])
structure Bd (h0 : H) (L : Lk) (insl : List (ByteArray × InD)) (arsl : List (ByteArray × Int)) (m : Nat) (h : H) : Prop where
 x : h.objs L.x = some (.cells (L.cs ⟨⟨fun _ => none, [], []⟩, 0, m, 0⟩))
 i : ∃ ver, h.objs L.i = some (.map (mapO InD.v insl) ver)
 s : ∃ ver, h.objs L.s = some (.map (mapO intV arsl) ver)
 v : ∃ ver, h.objs L.v = some (.map (mapO vkV L.es) ver)
 w : ∃ ver, h.objs L.w = some (.map (mapO refV L.ws) ver)
 l : ∃ ver, h.objs L.l = some (.map (mapO conV []) ver)
 es : L.es = []
 ws : ∀ r ∈ L.ws, h.objs r.2.1 = some (.cells (natVs (List.replicate r.2.2 1)))
 nd : L.own.Nodup
 lt : ∀ id ∈ L.own, h0.next + 2 ≤ id ∧ id < h.next
 bs : Bse h0 h
theorem Bse.fin {h0 h : H} {n : Int} (b : Bse h0 h) : ((h.set h0.next (.cells [.int .i64 0])).set (h0.next + 1) (.cells [.int .i64 n])).next = h.next ∧ ∀ j, j < h0.next → ((h.set h0.next (.cells [.int .i64 0])).set (h0.next + 1) (.cells [.int .i64 n])).objs j = h0.objs j :=
 ⟨rfl, fun j hj => by rw [set_objs, if_neg (by omega), set_objs, if_neg (by omega)]; exact b.old j hj⟩
theorem Bse.mono {h0 h h' : H} (b : Bse h0 h) (hn : h.next ≤ h'.next) (e : ∀ j, j < h0.next + 2 → h'.objs j = h.objs j) : Bse h0 h' :=
 ⟨Nat.le_trans b.nx hn, fun j hj => by rw [e j (by omega)]; exact b.old j hj, by rw [e _ (by omega)]; exact b.r0, by rw [e _ (by omega)]; exact b.r1⟩
theorem maxI_append {d : InD} : ∀ {l : List InD}, maxI (l ++ [d]) = max (maxI l) d.width.toNat
 | [] => by simp [maxI]
 | x :: xs => by simp only [List.cons_append, maxI, maxI_append (l := xs), Nat.max_assoc]
def insM (l : List InD) : List (ByteArray × InD) := l.map fun d => (d.name, d)
def arsM (l : List ArD) : List (ByteArray × Int) := l.map fun d => (d.name, d.size)
theorem insM_keys {l : List InD} : (insM l).map (·.1) = l.map InD.name := by simp [insM, List.map_map, Function.comp_def]
theorem arsM_keys {l : List ArD} : (arsM l).map (·.1) = l.map ArD.name := by simp [arsM, List.map_map, Function.comp_def]
theorem isSome_false {α : Type} {s : ByteArray} {l : List (ByteArray × α)} : (findL s l).isSome = false ↔ s ∉ l.map (·.1) := by
 rw [← findL_none]
 cases findL s l <;> simp
theorem isSome_true {α : Type} {s : ByteArray} {l : List (ByteArray × α)} : (findL s l).isSome = true ↔ s ∈ l.map (·.1) := by
 constructor
 ·intro h
  cases hf : findL s l with
  | none => rw [hf] at h; cases h
  | some v => exact List.mem_map.2 ⟨_, findL_mem hf, rfl⟩
 ·intro h
  cases hf : (findL s l).isSome with
  | true => rfl
  | false => exact absurd h (isSome_false.1 hf)
theorem unlike_false {p : Prg} (h : ¬ (p.ins.map InD.name ++ p.arrays.map ArD.name).Nodup) : checkT p = .error 4 := by
 unfold checkT unlikeT
 rw [decide_eq_false h]; rfl
theorem take_bad {α : Type} {l : List α} {r : List ByteArray} {f : α → ByteArray} {j : Nat} (hj : j < l.length) (h : f l[j] ∈ (l.take j).map f) : ¬ (l.map f ++ r).Nodup := fun hn => by
 have h1 := (List.nodup_append.1 hn).1
 have e : l = l.take j ++ l[j] :: l.drop (j + 1) := by rw [← List.drop_eq_getElem_cons hj, List.take_append_drop]
 rw [e, List.map_append, List.map_cons] at h1
 exact (List.nodup_append.1 h1).2.2 _ h _ List.mem_cons_self rfl
theorem Bd.grow {h0 h1 h2 : H} {L : Lk} {ws0 old : List (ByteArray × Nat × Nat)} {s : ByteArray} {k ver : Nat} {insl : List (ByteArray × InD)} {arsl : List (ByteArray × Int)} {m : Nat} (B : Bd h0 { L with ws := ws0 ++ old } insl arsl m h1)
  (hw : h2.objs L.w = some (.map (mapO refV (ws0 ++ [(s, h1.next, k + 1)])) ver)) (hid : h2.objs h1.next = some (.cells (natVs (List.replicate (k + 1) 1)))) (same : ∀ j, j < h1.next → j ≠ L.w → (∀ r ∈ old, r.2.1 ≠ j) → h2.objs j = h1.objs j) (nx : h2.next = h1.next + 1) :
  Bd h0 { L with ws := ws0 ++ [(s, h1.next, k + 1)] } insl arsl m h2 := by
 have D := Lk.dist B.nd
 obtain ⟨⟨xi, xs, xv, xw, xl, xn⟩, ⟨is, iv, iw, il, in_⟩, ⟨sv, sw, sl, sn⟩, ⟨vw, vl, vn⟩, ⟨wl, wn⟩, ln, wnd⟩ := D
 simp only [List.map_append, List.mem_append, not_or] at xn in_ sn vn wn ln
 have hold : ∀ {id}, id ∉ old.map (fun r => r.2.1) → ∀ r ∈ old, r.2.1 ≠ id := fun hn r hr e => hn (by rw [← e]; exact List.mem_map.2 ⟨r, hr, rfl⟩)
 have lt : ∀ id ∈ Lk.own { L with ws := ws0 ++ old }, h0.next + 2 ≤ id ∧ id < h1.next := B.lt
 have l1 := lt L.x (by simp [Lk.own])
 have l2 := lt L.i (by simp [Lk.own])
 have l3 := lt L.s (by simp [Lk.own])
 have l4 := lt L.v (by simp [Lk.own])
 have l5 := lt L.w (by simp [Lk.own])
 have l6 := lt L.l (by simp [Lk.own])
 have l7 : ∀ r ∈ ws0, h0.next + 2 ≤ r.2.1 ∧ r.2.1 < h1.next := fun r hr => lt _ (List.mem_append_right _ (List.mem_map.2 ⟨r, List.mem_append_left _ hr, rfl⟩))
 have l8 : ∀ r ∈ old, h0.next + 2 ≤ r.2.1 ∧ r.2.1 < h1.next := fun r hr => lt _ (List.mem_append_right _ (List.mem_map.2 ⟨r, List.mem_append_right _ hr, rfl⟩))
 have hnd := wnd
 simp only [List.map_append] at hnd
 have nn : ∀ id, id < h1.next → id ∉ ws0.map (fun r => r.2.1) → id ∉ (ws0 ++ [(s, h1.next, k + 1)]).map (fun r => r.2.1) := fun id hl hn hm => by
  rw [List.map_append, List.mem_append] at hm
  rcases hm with hm | hm
  ·exact hn hm
  ·simp at hm; omega
 refine ⟨?_, ?_, ?_, ?_, ⟨ver, hw⟩, ?_, B.es, fun r hr => ?_, ?_, fun id hid => ?_, B.bs.mono (by omega) (fun q hq => same q (by omega) (by omega) (fun r hr => by have := l8 r hr; omega))⟩
 ·show h2.objs L.x = _; rw [same L.x (by omega) xw (hold xn.2)]; exact B.x
 ·show ∃ ver, h2.objs L.i = _; rw [same L.i (by omega) iw (hold in_.2)]; exact B.i
 ·show ∃ ver, h2.objs L.s = _; rw [same L.s (by omega) sw (hold sn.2)]; exact B.s
 ·show ∃ ver, h2.objs L.v = _; rw [same L.v (by omega) vw (hold vn.2)]; exact B.v
 ·show ∃ ver, h2.objs L.l = _; rw [same L.l (by omega) wl.symm (hold ln.2)]; exact B.l
 ·have hr : r ∈ ws0 ++ [(s, h1.next, k + 1)] := hr
  rcases List.mem_append.1 hr with hr | hr
  ·rw [same _ (l7 r hr).2 (fun e => wn.1 (by rw [← e]; exact List.mem_map.2 ⟨r, hr, rfl⟩)) (fun r' hr' e => (List.nodup_append.1 hnd).2.2 r.2.1 (List.mem_map.2 ⟨r, hr, rfl⟩) r'.2.1 (List.mem_map.2 ⟨r', hr', rfl⟩) e.symm)]
   exact B.ws r (List.mem_append_left _ hr)
  ·rw [List.mem_singleton] at hr; subst hr; exact hid
 ·simp only [Lk.own, List.cons_append, List.nil_append, List.nodup_cons, List.mem_cons, not_or]
  refine ⟨⟨xi, xs, xv, xw, xl, nn _ l1.2 xn.1⟩, ⟨is, iv, iw, il, nn _ l2.2 in_.1⟩, ⟨sv, sw, sl, nn _ l3.2 sn.1⟩, ⟨vw, vl, nn _ l4.2 vn.1⟩, ⟨wl, nn _ l5.2 wn.1⟩, nn _ l6.2 ln.1, ?_⟩
  rw [List.map_append]
  refine List.nodup_append.2 ⟨(List.nodup_append.1 hnd).1, by simp, fun a ha b hb e => ?_⟩
  obtain ⟨r, hr, rfl⟩ := List.mem_map.1 ha
  simp only [List.map_cons, List.map_nil, List.mem_singleton] at hb
  have := (l7 r hr).2
  omega
 ·rw [nx]
  simp only [Lk.own, List.cons_append, List.nil_append, List.mem_cons, List.map_append, List.mem_append, List.map_nil, List.not_mem_nil, or_false, List.map_cons] at hid
  rcases hid with e | e | e | e | e | e | e | e
  ·omega
  ·omega
  ·omega
  ·omega
  ·omega
  ·omega
  ·obtain ⟨r, hr, rfl⟩ := List.mem_map.1 e
   have := l7 r hr; omega
  ·have := B.bs.nx; omega
theorem app_new1 {st : S} {s k : Nat} {c : Cap} (hk : k = 0) : appV st s (.vec [] .full) (.vec [I 1] c) 1 8 false true = some (.ref st.h.next 0 (k + 1) 1, st.withH (st.h.new (.cells (natVs (List.replicate (k + 1) 1))))) := by subst hk; rfl
theorem app_more {st : S} {s id k : Nat} {c : Cap} {n : Int} {cs : List V} (hg : st.h.get id = some cs) (hl : cs.length = k) (hk : k ≤ 1000) : appV st s (.ref id 0 k 1) (.vec [I n] c) 1 8 false true = some (.ref st.h.next 0 (k + 1) 1, st.withH (st.h.move id (.cells (cs ++ [I n])))) := by
 simp only [appV, lenV, flat, hg, List.flatMap_cons, List.flatMap_nil, V.cells, List.append_nil, List.length_cons, List.length_nil]
 rw [if_pos ⟨trivial, by decide, by decide⟩, if_pos ⟨by rw [Nat.mul_one]; exact hl, trivial, by unfold most; omega, by decide⟩]
theorem move_objs {h : H} {id j : Nat} {o : O} : (h.move id o).objs j = if j = h.next then some o else if j = id then none else h.objs j := rfl
theorem move_next {h : H} {id : Nat} {o : O} : (h.move id o).next = h.next + 1 := rfl
theorem findL_last {α : Type} {s : ByteArray} {v : α} : ∀ {l : List (ByteArray × α)}, s ∉ l.map (·.1) → findL s (l ++ [(s, v)]) = some v
 | [], _ => by simp [findL]
 | (a, u) :: es, h => by
  simp only [List.map_cons, List.mem_cons, not_or] at h
  simp only [List.cons_append, findL]
  rw [if_neg (fun e => h.1 e.symm), findL_last h.2]
theorem natVs_snoc {k : Nat} : natVs (List.replicate k 1) ++ [I 1] = natVs (List.replicate (k + 1) 1) := by
 rw [List.replicate_succ']; simp [natVs]
theorem maxI_le {l : List InD} (h : ∀ d ∈ l, VIn d) : maxI l ≤ 16 := by
 induction l with
 | nil => decide
 | cons d ds ih =>
  have h1 := (h d (by simp)).w2
  have h2 := ih fun x hx => h x (by simp [hx])
  simp only [maxI]; omega
namespace YtihmoaibgmhjeaaDoor
section
variable {K : Out → H → Prop} {p : Prg}
theorem takenB {s : ByteArray} {h : H} {x i sz l v1 v2 v3 : Nat} {a b c d e : V} {insl : List (ByteArray × InD)} {arsl : List (ByteArray × Int)} {loops : List (ByteArray × Nat)} (gx : h.get x = some [.map i, .map sz, a, b, .map l, c, d, e]) (i1 : h.objs i = some (.map (mapO InD.v insl) v1))
  (i2 : h.objs sz = some (.map (mapO intV arsl) v2)) (i3 : h.objs l = some (.map (mapO conV loops) v3)) (hK : K (.ret (.bool ((findL s insl).isSome || (findL s arsl).isSome || (findL s loops).isSome))) h) : R 35 [.ptr x 0, .str s] h K := by
 refine run35 (Nat.le_of_ble_eq_true rfl) ?_
 cases c1 : findL s insl <;> cases c2 : findL s arsl <;> cases c3 : findL s loops <;> rw [c1, c2, c3] at hK <;>
  (simp -dsimp -implicitDefEqProofs only [↓STP, STQ, seval, ir35, gx, lkp_two i1, lkp_two i2, lkp_two i3, c1, c2, c3, getD_none, getD_some, map_none', map_some', isSome_none', isSome_some', inV_cells, intV, conV, kn_cells, storeV]; exact hK)
theorem goneG {p : Prg} (ok : POk p) (hv : VSs p.body 1) (hin : ∀ d ∈ p.ins, VIn d) (har : ∀ d ∈ p.arrays, VAr d) {h : H}
  (hK : Ans (checkT p) (fun σ => ∀ h', h.next ≤ h'.next → (∀ j, j < h.next → h'.objs j = h.objs j) → K (.ret (.tuple [I σ.most, I 0])) h') (fun e => ∀ h', h.next ≤ h'.next → (∀ j, j < h.next → h'.objs j = h.objs j) → K (.ret (.tuple [I 0, I e])) h')) :
  R 26 [p.v] h K := by
 refine runs_defer ext2 (F := ir26) (tw := 74) rfl ?_
 simp -dsimp -implicitDefEqProofs only [↓STP, STQ, seval, ir26, Prg.v, Prg.cells, new_next, List.length_map]
 generalize hL0 : (Lk.mk (h.next + 1 + 1 + 1 + 1 + 1 + 1 + 1) (h.next + 1 + 1) (h.next + 1 + 1 + 1) (h.next + 1 + 1 + 1 + 1) (h.next + 1 + 1 + 1 + 1 + 1) (h.next + 1 + 1 + 1 + 1 + 1 + 1) [] []) = L
 have xe : L.x = h.next + 1 + 1 + 1 + 1 + 1 + 1 + 1 := by rw [← hL0]
 have li := maxLen_eq
 have pli := ok.li
 have pla := ok.la
 refine codeT_loop (fun k s => ∃ j h', k = p.ins.length - j ∧ j ≤ p.ins.length ∧ ((p.ins.take j).map InD.name).Nodup ∧ Bd h L (insM (p.ins.take j)) [] (maxI (p.ins.take j)) h' ∧
  s = ⟨upd (upd (upd (upd (upd (upd (upd ρ0 1 (.lptr 0 3 0)) 2 (.ptr h.next 0)) 3 (.ptr (h.next + 1) 0)) 4 (.ptr L.x 0)) 18 (.vec (p.ins.map InD.v) .any)) 19 (I p.ins.length)) 20 (I j), upd m0 0 (some [.vec (p.ins.map InD.v) .any, .vec (p.arrays.map ArD.v) .any, .vec (p.body.map Stm.v) .any]), 1, [], h'⟩)
  (i := p.ins.length) ⟨0, _, rfl, Nat.zero_le _, by simp, ?_, by rw [xe]; simp -dsimp -implicitDefEqProofs only [↓STP, STQ, seval] <;> rfl⟩ ?_ mono
 ·subst hL0
  refine ⟨?_, ⟨0, ?_⟩, ⟨0, ?_⟩, ⟨0, ?_⟩, ⟨0, ?_⟩, ⟨0, ?_⟩, rfl, by simp, ?_, ?_, ⟨?_, fun j hj => ?_, ?_, ?_⟩⟩
  ·simp [new_objs, new_next, Lk.cs, maxI]
  ·simp [new_objs, new_next, mapO, insM]
  ·simp [new_objs, new_next, mapO]
  ·simp [new_objs, new_next, mapO]
  ·simp [new_objs, new_next, mapO]
  ·simp [new_objs, new_next, mapO]
  ·simp [Lk.own]; omega
  ·intro id hid
   simp only [Lk.own, List.map_nil, List.append_nil, List.mem_cons, List.not_mem_nil, or_false] at hid
   simp only [new_next]
   omega
  ·simp only [new_next]; omega
  ·rw [new_objs, if_neg (by simp only [new_next]; omega), new_objs, if_neg (by simp only [new_next]; omega), new_objs, if_neg (by simp only [new_next]; omega), new_objs, if_neg (by simp only [new_next]; omega), new_objs, if_neg (by simp only [new_next]; omega), new_objs, if_neg (by simp only [new_next]; omega), new_objs, if_neg (by simp only [new_next]; omega), new_objs, if_neg (by omega)]
  ·rw [new_objs, if_neg (by simp only [new_next]; omega), new_objs, if_neg (by simp only [new_next]; omega), new_objs, if_neg (by simp only [new_next]; omega), new_objs, if_neg (by simp only [new_next]; omega), new_objs, if_neg (by simp only [new_next]; omega), new_objs, if_neg (by simp only [new_next]; omega), new_objs, if_neg (by simp only [new_next]; omega), new_objs, if_pos rfl]
  ·rw [new_objs, if_neg (by simp only [new_next]; omega), new_objs, if_neg (by simp only [new_next]; omega), new_objs, if_neg (by simp only [new_next]; omega), new_objs, if_neg (by simp only [new_next]; omega), new_objs, if_neg (by simp only [new_next]; omega), new_objs, if_neg (by simp only [new_next]; omega), new_objs, if_pos (by rw [new_next])]
 rintro k s ⟨j, h', rfl, hj, hnd, B, rfl⟩
 have gx := get_of B.x
 obtain ⟨vi, hi1⟩ := B.i
 obtain ⟨vs, hs1⟩ := B.s
 obtain ⟨vl, hl1⟩ := B.l
 have D := Lk.dist B.nd
 rcases Nat.lt_or_ge j p.ins.length with hi | hi
 ·have hget := get_map (f := InD.v) hi
  have hdm : p.ins[j] ∈ p.ins := List.getElem_mem hi
  have hdi := hin _ hdm
  have w1 := wiM (show j < 9223372036854775807 by omega)
  have htk : p.ins.take (j + 1) = p.ins.take j ++ [p.ins[j]] := by rw [List.take_add_one, List.getElem?_eq_getElem hi]; rfl
  have hbad := fun hh => take_bad (r := p.arrays.map ArD.name) (f := InD.name) hi hh
  generalize p.ins[j] = d at *
  simp -dsimp -implicitDefEqProofs only [↓STP, STQ, seval, Int.ofNat_lt, hi, hget, inV_cells, storeV]
  refine takenB gx hi1 hs1 hl1 ?_
  cases ht : (findL d.name (insM (p.ins.take j))).isSome with
  | true =>
   have hm := isSome_true.1 ht
   rw [insM_keys] at hm
   rw [unlike_false (hbad hm)] at hK
   simp -dsimp -implicitDefEqProofs only [↓STP, STQ, seval, Bool.true_or]
   refine failG ?_
   simp -dsimp -implicitDefEqProofs only [↓STP, STQ, seval, wrongV, endD_pan]
   obtain ⟨f1, f2⟩ := B.bs.fin (n := 4)
   exact ⟨4, _, _, rfl, B.bs.r0, B.bs.r1, hK _ (by rw [f1]; have := B.bs.nx; omega) f2⟩
  | false =>
   have hm := isSome_false.1 ht
   obtain ⟨vi', hup⟩ := mup_ok (f := InD.v) (s := d.name) (v := d) hi1
   rw [setE_new hm] at hup
   rw [inV_cells] at hup
   generalize hh1 : h'.set L.i (.map (mapO InD.v (insM (p.ins.take j) ++ [(d.name, d)])) vi') = h1 at *
   have gx1 : h1.get L.x = some (L.cs ⟨⟨fun _ => none, [], []⟩, 0, maxI (p.ins.take j), 0⟩) := get_of (by rw [← hh1, set_objs, if_neg D.1.1]; exact B.x)
   have hmx : (if d.width > ((maxI (p.ins.take j) : Nat) : Int) then d.width else ((maxI (p.ins.take j) : Nat) : Int)) = ((max (maxI (p.ins.take j)) d.width.toNat : Nat) : Int) := by
    have := hdi.w1
    split <;> omega
   have st1 := fun ρ m n u => storeF (ρ := ρ) (m := m) (n := n) (u := u) (j := 6) (v := I ((max (maxI (p.ins.take j)) d.width.toNat : Nat) : Int)) gx1 (by simp [Lk.cs]) rfl rfl
   generalize hh2 : h1.set L.x (.cells ((L.cs ⟨⟨fun _ => none, [], []⟩, 0, maxI (p.ins.take j), 0⟩).set 6 (I ((max (maxI (p.ins.take j)) d.width.toNat : Nat) : Int)))) = h2 at *
   simp -dsimp -implicitDefEqProofs only [↓STP, STQ, seval, Bool.false_or, findL, isSome_none', gx, Lk.cs, hup, gx1, maxV_two, hmx, st1, w1]
   refine ⟨p.ins.length - (j + 1), by omega, j + 1, _, rfl, hi, ?_, ?_, rfl⟩
   ·rw [htk, List.map_append]
    rw [insM_keys] at hm
    exact List.nodup_append.2 ⟨hnd, by simp, fun a ha b hb e => by rw [List.map_cons, List.map_nil, List.mem_singleton] at hb; subst hb; subst e; exact hm ha⟩
   ·rw [htk]
    have hins : insM (p.ins.take j ++ [d]) = insM (p.ins.take j) ++ [(d.name, d)] := by simp [insM]
    rw [hins, maxI_append]
    obtain ⟨⟨xi, xs, xv, xw, xl, xn⟩, ⟨is, iv, iw, il, in_⟩, ⟨sv, sw, sl, sn⟩, ⟨vw, vl, vn⟩, ⟨wl, wn⟩, ln, wnd⟩ := D
    have hold : ∀ q, q ≠ L.i → q ≠ L.x → h2.objs q = h'.objs q := fun q h1' h2' => by rw [← hh2, set_objs, if_neg h2', ← hh1, set_objs, if_neg h1']
    have hnx : h2.next = h'.next := by rw [← hh2, set_next, ← hh1, set_next]
    have lx := (B.lt L.x (by simp [Lk.own])).1
    have lii := (B.lt L.i (by simp [Lk.own])).1
    refine ⟨by rw [← hh2, set_objs, if_pos rfl]; rfl, ⟨vi', by rw [← hh2, set_objs, if_neg xi.symm, ← hh1, set_objs, if_pos rfl]⟩, ?_, ?_, ?_, ?_, B.es, fun r hr => ?_, B.nd, fun id hid => by rw [hnx]; exact B.lt id hid, B.bs.mono (by rw [hnx]; exact Nat.le_refl _) (fun q hq => hold q (by omega) (by omega))⟩
    ·rw [hold _ is.symm xs.symm]; exact B.s
    ·rw [hold _ iv.symm xv.symm]; exact B.v
    ·rw [hold _ iw.symm xw.symm]; exact B.w
    ·rw [hold _ il.symm xl.symm]; exact B.l
    ·have hm : r.2.1 ∈ L.ws.map (fun r => r.2.1) := List.mem_map.2 ⟨r, hr, rfl⟩
     rw [hold _ (fun e => in_ (by rw [← e]; exact hm)) (fun e => xn (by rw [← e]; exact hm))]; exact B.ws r hr
 ·have hj' : j = p.ins.length := by omega
  subst hj'
  rw [List.take_length] at B hnd
  simp -dsimp -implicitDefEqProofs only [↓STP, STQ, seval, Int.lt_irrefl]
  generalize hm0 : maxI p.ins = m0' at *
  have hL1 : L = { L with ws := [] } := by rw [← hL0]
  have les : L.es = [] := B.es
  refine codeT_loop (fun k s => ∃ j ws h', k = p.arrays.length - j ∧ j ≤ p.arrays.length ∧ (p.ins.map InD.name ++ (p.arrays.take j).map ArD.name).Nodup ∧ Bd h { L with ws := ws } (insM p.ins) (arsM (p.arrays.take j)) m0' h' ∧
   (ws.map fun r => (r.1, r.2.2)) = (p.arrays.take j).map (fun d => (d.name, d.size.toNat)) ∧
   s = ⟨upd (upd (upd (upd (upd (upd (upd ρ0 1 (.lptr 0 3 0)) 2 (.ptr h.next 0)) 3 (.ptr (h.next + 1) 0)) 4 (.ptr L.x 0)) 48 (.vec (p.arrays.map ArD.v) .any)) 49 (I p.arrays.length)) 50 (I j), upd m0 0 (some [.vec (p.ins.map InD.v) .any, .vec (p.arrays.map ArD.v) .any, .vec (p.body.map Stm.v) .any]), 1, [], h'⟩)
   (i := p.arrays.length) ⟨0, [], h', rfl, Nat.zero_le _, by simpa using hnd, by rw [← hL1]; exact B, rfl, by simp -dsimp -implicitDefEqProofs only [↓STP, STQ, seval, List.length_map] <;> rfl⟩ ?_ mono
  rintro k s ⟨j, ws, h2, rfl, hj2, hnd2, B2, hws, rfl⟩
  have gx2 := get_of B2.x
  obtain ⟨vi2, hi2⟩ := B2.i
  obtain ⟨vs2, hs2⟩ := B2.s
  obtain ⟨vl2, hl2⟩ := B2.l
  simp only at gx2 hi2 hs2 hl2
  have D2 := Lk.dist B2.nd
  simp only at D2
  rcases Nat.lt_or_ge j p.arrays.length with hi | hi
  ·have hget := get_map (f := ArD.v) hi
   have hdm : p.arrays[j] ∈ p.arrays := List.getElem_mem hi
   have hdi := har _ hdm
   have w1 := wiM (show j < 9223372036854775807 by omega)
   have htk : p.arrays.take (j + 1) = p.arrays.take j ++ [p.arrays[j]] := by rw [List.take_add_one, List.getElem?_eq_getElem hi]; rfl
   have hbad : p.arrays[j].name ∈ p.ins.map InD.name ++ (p.arrays.take j).map ArD.name → ¬ (p.ins.map InD.name ++ p.arrays.map ArD.name).Nodup := fun hh hn => by
    rcases List.mem_append.1 hh with hh | hh
    ·exact (List.nodup_append.1 hn).2.2 _ hh _ (List.mem_map.2 ⟨_, hdm, rfl⟩) rfl
    ·have := take_bad (r := []) (f := ArD.name) hi hh
     rw [List.append_nil] at this
     exact this (List.nodup_append.1 hn).2.1
   generalize p.arrays[j] = d at *
   simp -dsimp -implicitDefEqProofs only [↓STP, STQ, seval, Int.ofNat_lt, hi, hget, ArD.v, ArD.cells, storeV]
   refine takenB gx2 hi2 hs2 hl2 ?_
   cases ht : ((findL d.name (insM p.ins)).isSome || (findL d.name (arsM (p.arrays.take j))).isSome) with
   | true =>
    have hm : d.name ∈ p.ins.map InD.name ++ (p.arrays.take j).map ArD.name := by
     rw [Bool.or_eq_true] at ht
     refine List.mem_append.2 (ht.imp (fun h => ?_) (fun h => ?_))
     ·have := isSome_true.1 h; rwa [insM_keys] at this
     ·have := isSome_true.1 h; rwa [arsM_keys] at this
    rw [unlike_false (hbad hm)] at hK
    simp -dsimp -implicitDefEqProofs only [↓STP, STQ, seval, Bool.true_or]
    refine failG ?_
    simp -dsimp -implicitDefEqProofs only [↓STP, STQ, seval, wrongV, endD_pan]
    obtain ⟨f1, f2⟩ := B2.bs.fin (n := 4)
    exact ⟨4, _, _, rfl, B2.bs.r0, B2.bs.r1, hK _ (by rw [f1]; have := B2.bs.nx; omega) f2⟩
   | false =>
    have hm : d.name ∉ p.ins.map InD.name ++ (p.arrays.take j).map ArD.name := fun hh => by
     rw [Bool.or_eq_false_iff] at ht
     rcases List.mem_append.1 hh with hh | hh
     ·exact isSome_false.1 ht.1 (by rw [insM_keys]; exact hh)
     ·exact isSome_false.1 ht.2 (by rw [arsM_keys]; exact hh)
    have hma : d.name ∉ (arsM (p.arrays.take j)).map (·.1) := fun hh => hm (List.mem_append_right _ (by rw [arsM_keys] at hh; exact hh))
    have hkeys : ws.map (·.1) = (p.arrays.take j).map ArD.name := by
     have := congrArg (List.map Prod.fst) hws
     simpa [List.map_map, Function.comp_def] using this
    have hmw : d.name ∉ ws.map (·.1) := fun hh => hm (List.mem_append_right _ (by rw [hkeys] at hh; exact hh))
    obtain ⟨vs3, hup⟩ := mup_ok (f := intV) (s := d.name) (v := d.size) hs2
    rw [setE_new hma, show intV d.size = V.int .i64 d.size from rfl] at hup
    generalize hh3 : h2.set L.s (.map (mapO intV (arsM (p.arrays.take j) ++ [(d.name, d.size)])) vs3) = h3 at *
    have ars1 : arsM (p.arrays.take (j + 1)) = arsM (p.arrays.take j) ++ [(d.name, d.size)] := by rw [htk]; simp [arsM]
    have hold3 : ∀ q, q ≠ L.s → h3.objs q = h2.objs q := fun q hq => by rw [← hh3, set_objs, if_neg hq]
    have B3 : Bd h { L with ws := ws } (insM p.ins) (arsM (p.arrays.take (j + 1))) m0' h3 := by
     obtain ⟨⟨xi, xs, xv, xw, xl, xn⟩, ⟨is, iv, iw, il, in_⟩, ⟨sv, sw, sl, sn⟩, ⟨vw, vl, vn⟩, ⟨wl, wn⟩, ln, wnd⟩ := D2
     have ls := (B2.lt L.s (by simp [Lk.own])).1
     rw [ars1]
     refine ⟨?_, ?_, ⟨vs3, ?_⟩, ?_, ?_, ?_, B2.es, fun r hr => ?_, B2.nd, fun id hid => ?_, B2.bs.mono ?_ (fun q hq => hold3 q (by omega))⟩
     ·show h3.objs L.x = _; rw [hold3 _ xs]; exact B2.x
     ·show ∃ ver, h3.objs L.i = _; rw [hold3 _ is]; exact B2.i
     ·show h3.objs L.s = _; rw [← hh3, set_objs, if_pos rfl]
     ·show ∃ ver, h3.objs L.v = _; rw [hold3 _ sv.symm]; exact B2.v
     ·show ∃ ver, h3.objs L.w = _; rw [hold3 _ sw.symm]; exact B2.w
     ·show ∃ ver, h3.objs L.l = _; rw [hold3 _ sl.symm]; exact B2.l
     ·have hm : r.2.1 ∈ ws.map (fun r => r.2.1) := List.mem_map.2 ⟨r, hr, rfl⟩
      rw [hold3 _ (fun e => sn (by rw [← e]; exact hm))]; exact B2.ws r hr
     ·have := B2.lt id hid; rw [← hh3]; exact this
     ·rw [← hh3]; exact Nat.le_refl _
    have hsz : d.size = ((d.size.toNat : Nat) : Int) := by have := hdi.s1; omega
    simp -dsimp -implicitDefEqProofs only [↓STP, STQ, seval, Bool.false_or, findL, isSome_none', gx2, Lk.cs, hup]
    rw [hsz]
    generalize hNd : d.size.toNat = N at *
    have hN : N ≤ 64 := by have := hdi.s2; omega
    have hN1 : 1 ≤ N := by have := hdi.s1; omega
    refine codeT_loop (fun q s => ∃ k old h4, q = N - k ∧ k ≤ N ∧ ((k = 0 ∧ old = []) ∨ (0 < k ∧ ∃ id, old = [(d.name, id, k)])) ∧ Bd h { L with ws := ws ++ old } (insM p.ins) (arsM (p.arrays.take (j + 1))) m0' h4 ∧
     s = ⟨upd (upd (upd (upd (upd (upd (upd (upd (upd (upd ρ0 1 (.lptr 0 3 0)) 2 (.ptr h.next 0)) 3 (.ptr (h.next + 1) 0)) 4 (.ptr L.x 0)) 8 (.lptr 1 2 0)) 48 (.vec (p.arrays.map ArD.v) .any)) 49 (I p.arrays.length)) 50 (I j)) 68 (I N)) 69 (I k),
      upd (upd m0 0 (some [.vec (p.ins.map InD.v) .any, .vec (p.arrays.map ArD.v) .any, .vec (p.body.map Stm.v) .any])) 1 (some [.str d.name, I N]), 2, [], h4⟩)
     (i := N) ⟨0, [], h3, rfl, Nat.zero_le _, .inl ⟨rfl, rfl⟩, by rw [List.append_nil]; exact B3, by simp -dsimp -implicitDefEqProofs only [↓STP, STQ, seval] <;> rfl⟩ ?_ mono
    rintro q s ⟨k, old, h4, rfl, hk, hold, B4, rfl⟩
    rcases Nat.lt_or_ge k N with hkN | hkN
    ·have hlt : ((k : Nat) : Int) < ((N : Nat) : Int) := by omega
     have gx4 := get_of B4.x
     simp only at gx4
     obtain ⟨vw4, hw4⟩ := B4.w
     simp only at hw4
     have wk := wiM (show k < 9223372036854775807 by omega)
     have l1 := B4.lt L.x (by simp [Lk.own])
     have l5 := B4.lt L.w (by simp [Lk.own])
     have D4 := Lk.dist B4.nd
     simp only at D4
     rcases hold with ⟨hk0, rfl⟩ | ⟨hk0, id, rfl⟩
     ·have hf : findL d.name ws = none := findL_none.2 hmw
      have g5 : (h4.new (.cells (natVs (List.replicate (k + 1) 1)))).get L.x = some (Lk.cs { L with ws := ws ++ [] } ⟨⟨fun _ => none, [], []⟩, 0, m0', 0⟩) := get_of (by rw [new_objs, if_neg (by omega)]; exact B4.x)
      have hw5 : (h4.new (.cells (natVs (List.replicate (k + 1) 1)))).objs L.w = some (.map (mapO refV (ws ++ [])) vw4) := by rw [new_objs, if_neg (by omega)]; exact hw4
      obtain ⟨ver', hup⟩ := mup_ok (f := refV) (s := d.name) (v := (h4.next, k + 1)) hw5
      rw [List.append_nil, setE_new hmw, show refV (h4.next, k + 1) = V.ref h4.next 0 (k + 1) 1 from rfl] at hup
      simp -dsimp -implicitDefEqProofs only [↓STP, STQ, seval, eq_true hlt, gx4, Lk.cs, lkp_one hw4, hf, map_none', getD_none]
      rw [app_new1 hk0]
      generalize hcs : natVs (List.replicate (k + 1) 1) = cs at *
      simp -dsimp -implicitDefEqProofs only [↓STP, STQ, seval, g5, Lk.cs, hup, wk]
      refine ⟨N - (k + 1), by omega, k + 1, [(d.name, h4.next, k + 1)], _, rfl, by omega, .inr ⟨by omega, _, rfl⟩, B4.grow (old := []) (h2 := (h4.new (.cells cs)).set L.w (.map (mapO refV (ws ++ [(d.name, h4.next, k + 1)])) ver')) (by rw [set_objs, if_pos rfl]) ?_ (fun i hil hne _ => ?_) rfl, rfl⟩
      ·rw [set_objs, if_neg (by omega), new_objs, if_pos rfl, hcs]
      ·rw [set_objs, if_neg hne, new_objs, if_neg (by omega)]
     ·have hf : findL d.name (ws ++ [(d.name, id, k)]) = some (id, k) := findL_last hmw
      have hmem : (d.name, id, k) ∈ ws ++ [(d.name, id, k)] := by simp
      have hid : h4.objs id = some (.cells (natVs (List.replicate k 1))) := B4.ws _ hmem
      have hidm : id ∈ (ws ++ [(d.name, id, k)]).map (fun r => r.2.1) := List.mem_map.2 ⟨_, hmem, rfl⟩
      have idl := B4.lt id (List.mem_append_right _ hidm)
      have nx1 : L.x ≠ id := fun e => D4.1.2.2.2.2.2 (by rw [e]; exact hidm)
      have nw1 : L.w ≠ id := fun e => D4.2.2.2.2.1.2 (by rw [e]; exact hidm)
      have g5 : (h4.move id (.cells (natVs (List.replicate (k + 1) 1)))).get L.x = some (Lk.cs { L with ws := ws ++ [(d.name, id, k)] } ⟨⟨fun _ => none, [], []⟩, 0, m0', 0⟩) := get_of (by rw [move_objs, if_neg (by omega), if_neg nx1]; exact B4.x)
      have hw5 : (h4.move id (.cells (natVs (List.replicate (k + 1) 1)))).objs L.w = some (.map (mapO refV (ws ++ [(d.name, id, k)])) vw4) := by rw [move_objs, if_neg (by omega), if_neg nw1]; exact hw4
      obtain ⟨ver', hup⟩ := mup_ok (f := refV) (s := d.name) (v := (h4.next, k + 1)) hw5
      rw [setE_last hmw, show refV (h4.next, k + 1) = V.ref h4.next 0 (k + 1) 1 from rfl] at hup
      simp -dsimp -implicitDefEqProofs only [↓STP, STQ, seval, eq_true hlt, gx4, Lk.cs, lkp_one hw4, hf, map_some', getD_some, refV]
      rw [app_more (get_of hid) (by rw [natVs_len, List.length_replicate]) (by omega), natVs_snoc]
      generalize hcs : natVs (List.replicate (k + 1) 1) = cs at *
      simp -dsimp -implicitDefEqProofs only [↓STP, STQ, seval, g5, Lk.cs, hup, wk]
      refine ⟨N - (k + 1), by omega, k + 1, [(d.name, h4.next, k + 1)], _, rfl, by omega, .inr ⟨by omega, _, rfl⟩, B4.grow (old := [(d.name, id, k)]) (h2 := (h4.move id (.cells cs)).set L.w (.map (mapO refV (ws ++ [(d.name, h4.next, k + 1)])) ver')) (by rw [set_objs, if_pos rfl]) ?_ (fun i hil hne hall => ?_) rfl, rfl⟩
      ·rw [set_objs, if_neg (by omega), move_objs, if_pos rfl, hcs]
      ·rw [set_objs, if_neg hne, move_objs, if_neg (by omega), if_neg (fun e => hall (d.name, id, k) (by simp) e.symm)]
    ·have hkN' : k = N := by omega
     subst hkN'
     simp -dsimp -implicitDefEqProofs only [↓STP, STQ, seval, Int.lt_irrefl, w1]
     obtain ⟨_, id, rfl⟩ := hold.resolve_left (fun hh => by omega)
     refine ⟨p.arrays.length - (j + 1), by omega, j + 1, ws ++ [(d.name, id, k)], h4, rfl, hi, ?_, B4, ?_, rfl⟩
     ·rw [htk, List.map_append, ← List.append_assoc]
      exact List.nodup_append.2 ⟨hnd2, by simp, fun a ha b hb e => by rw [List.map_cons, List.map_nil, List.mem_singleton] at hb; subst hb; subst e; exact hm ha⟩
     ·rw [htk, List.map_append, List.map_append, hws]
      simp only [List.map_cons, List.map_nil, hNd]
  ·have hj' : j = p.arrays.length := by omega
   subst hj'
   rw [List.take_length] at B2 hnd2 hws
   have hp : PV p := ⟨fun d hd => ⟨(hin d hd).w1, (hin d hd).w2, (hin d hd).s1, (hin d hd).s2⟩, fun d hd => ⟨(har d hd).s1, (har d hd).s2⟩, hnd2⟩
   have hkeys : ws.map (·.1) = p.arrays.map ArD.name := by
    have := congrArg (List.map Prod.fst) hws
    simpa [List.map_map, Function.comp_def] using this
   have hwlen : ws.length = p.arrays.length := by simpa using congrArg List.length hws
   have hkn : (ws.map (·.1)).Nodup := by rw [hkeys]; exact (List.nodup_append.1 hnd2).2.1
   have A : At p { L with ws := ws } (initT p) h2 := by
    refine ⟨?_, B2.i, B2.s, B2.v, B2.w, B2.l, fun s => ?_, ?_, fun i d hd => ?_, hkn, fun r hr => ?_, B2.nd, fun id hid => (B2.lt id hid).2⟩
    ·have := B2.x; rw [← hm0] at this; exact this
    ·show findL s L.es = none; rw [les]; rfl
    ·show (L.es.map (·.1)).Nodup; rw [les]; simp
    ·have hil : i < p.arrays.length := (List.getElem?_eq_some_iff.1 hd).1
     have hg : ws[i]? = some ws[i] := List.getElem?_eq_getElem (by omega)
     have he : (ws.map fun r => (r.1, r.2.2))[i]? = (p.arrays.map (fun d => (d.name, d.size.toNat)))[i]? := by rw [hws]
     rw [List.getElem?_map, List.getElem?_map, hg, hd] at he
     simp only [Option.map_some, Option.some.injEq, Prod.mk.injEq] at he
     have hmem : ws[i] ∈ ws := List.mem_of_getElem? hg
     refine ⟨ws[i].2.1, List.replicate d.size.toNat 1, ?_, ?_, ?_⟩
     ·show (p.arrays.map fun d => List.replicate d.size.toNat 1)[i]? = _
      rw [List.getElem?_map, hd]; rfl
     ·rw [List.length_replicate]
      refine findL_of_mem hkn ?_
      show (d.name, ws[i].2.1, d.size.toNat) ∈ ws
      rw [← he.1, ← he.2]; exact hmem
     ·rw [← he.2]; exact B2.ws _ hmem
    ·have : r.1 ∈ p.arrays.map ArD.name := by rw [← hkeys]; exact List.mem_map.2 ⟨r, hr, rfl⟩
     obtain ⟨d, hd, hn⟩ := List.mem_map.1 this
     exact ⟨d, hd, hn⟩
   have T : TOk p (initT p) := by
    refine ⟨⟨(fun s k w h => by cases h), (fun s n h => by cases h), by simp [initT], fun i l d hl hd => ?_⟩, Nat.zero_le _, by have := maxI_le hin; show maxI p.ins ≤ 60; omega⟩
    have hl : (p.arrays.map fun d => List.replicate d.size.toNat 1)[i]? = some l := hl
    rw [List.getElem?_map, hd] at hl
    cases hl
    have := (har d (List.mem_of_getElem? hd)).s1
    refine ⟨by rw [List.length_replicate]; omega, fun w hw => ?_⟩
    have := (List.mem_replicate.1 hw).2
    omega
   have hck : checkT p = stmtsT p p.body (initT p) := by
    unfold checkT unlikeT
    rw [decide_eq_true hnd2]; rfl
   rw [hck] at hK
   simp -dsimp -implicitDefEqProofs only [↓STP, STQ, seval, Int.lt_irrefl]
   refine stmtsG hp ok.lb hv ok.body { L with ws := ws } (initT p) h2 _ A T (Nat.zero_le _) ?_
   have own2 : ∀ id, id < h.next + 2 → id ∉ Lk.own { L with ws := ws } := fun id hl hi => by have := (B2.lt id hi).1; omega
   have bnx := B2.bs.nx
   cases hr : stmtsT p p.body (initT p) with
   | error e =>
    rw [hr] at hK
    intro L5 h5 F5
    have b5 : Bse h h5 := B2.bs.mono F5.nx (fun q hq => F5.same q (by omega) (own2 q hq))
    simp -dsimp -implicitDefEqProofs only [↓STP, STQ, seval, wrongV, endD_pan]
    obtain ⟨f1, f2⟩ := b5.fin (n := e)
    exact ⟨e, _, _, rfl, b5.r0, b5.r1, hK _ (by rw [f1]; have := b5.nx; omega) f2⟩
   | ok σ =>
    rw [hr] at hK
    intro L5 h5 A5 F5
    have b5 : Bse h h5 := B2.bs.mono F5.nx (fun q hq => F5.same q (by omega) (own2 q hq))
    have gx5 := get_of A5.x
    rw [show L5.x = L.x from F5.x] at gx5
    have st5 := fun ρ m n u => storeF (ρ := ρ) (m := m) (n := n) (u := u) (j := 0) (v := I ((σ.most : Nat) : Int)) (get_of b5.r0) (by decide) rfl rfl
    generalize hh6 : h5.set h.next (.cells ([I 0].set 0 (I ((σ.most : Nat) : Int)))) = h6 at *
    have g6 : h6.get (h.next + 1) = some [I 0] := get_of (by rw [← hh6, set_objs, if_neg (by omega)]; exact b5.r1)
    have st6 := fun ρ m n u => storeF (ρ := ρ) (m := m) (n := n) (u := u) (j := 0) (v := I 0) g6 (by decide) rfl rfl
    generalize hh7 : h6.set (h.next + 1) (.cells ([I 0].set 0 (I 0))) = h7 at *
    have g70 : h7.get h.next = some [I ((σ.most : Nat) : Int)] := get_of (by rw [← hh7, set_objs, if_neg (by omega), ← hh6, set_objs, if_pos rfl]; rfl)
    have g71 : h7.get (h.next + 1) = some [I 0] := get_of (by rw [← hh7, set_objs, if_pos rfl]; rfl)
    simp -dsimp -implicitDefEqProofs only [↓STP, STQ, seval, gx5, Lk.cs, st5, st6, endD_ret, g70, g71, ir26]
    refine hK h7 (by rw [← hh7, set_next, ← hh6, set_next]; have := b5.nx; omega) (fun q hq => ?_)
    rw [← hh7, set_objs, if_neg (by omega), ← hh6, set_objs, if_neg (by omega)]
    exact b5.old q hq
end
end YtihmoaibgmhjeaaDoor
end Go.Ab
