import Derived.Test.YtihmoaibgmhjeaaDoorD9
set_option linter.unusedVariables false
set_option linter.unusedSimpArgs false
namespace Go.Ab
section
variable {call : CallT} {d : Option Nat} {ρ : Nat → V} {m : Nat → Option (List V)} {n : Nat} {u : List Nat} {h : H} {next : S → Prop} {K : Ex → S → Prop}
theorem opT_rng {x : Arg} {id ver : Nat} {es : List (V × V)} (hx : evA ρ x = .map id) (ho : h.mapAt id = some (es, ver)) :
  opT call d (.rng x) ⟨ρ, m, n, u, h⟩ next K ⟨⟩ = next (S.put ⟨ρ, m, n, u, h.new (.iter id ver [])⟩ d (.itr h.next)) := by
 simp only [opT, op1, isRd, eff, hx, ho, Bool.false_eq_true, if_false]
 rfl
theorem opT_nxt {x : Arg} {i id ver : Nat} {seen : List Nat} {es : List (V × V)} (hx : evA ρ x = .itr i) (hi : h.objs i = some (.iter id ver seen)) (ho : h.mapAt id = some (es, ver)) :
  opT call d (.nxt x) ⟨ρ, m, n, u, h⟩ next K ⟨⟩ = (((∀ j, j < es.length → j ∈ seen) → next (S.put ⟨ρ, m, n, u, h⟩ d (.tuple [.bool false]))) ∧
   (∀ j k v, es[j]? = some (k, v) → j ∉ seen → next (S.put ⟨ρ, m, n, u, h.set i (.iter id ver (j :: seen))⟩ d (.tuple [.bool true, k, v])))) := by
 simp only [opT, op1, isRd, eff, hx, hi, ho, Bool.false_eq_true, if_false, true_and]
 rfl
theorem opT_ent {x : Arg} {i id ver j : Nat} {seen : List Nat} {es : List (V × V)} {k v : V} (hx : evA ρ x = .itr i) (hi : h.objs i = some (.iter id ver (j :: seen))) (ho : h.mapAt id = some (es, ver)) (hj : es[j]? = some (k, v)) :
  opT call d (.ent x) ⟨ρ, m, n, u, h⟩ next K ⟨⟩ = next (S.put ⟨ρ, m, n, u, h⟩ d (.tuple [k, v])) := by
 simp only [opT, op1, isRd, eff, hx, hi, ho, hj, Bool.false_eq_true, if_false, true_and]
 rfl
end
theorem filter_len {n : Nat} : ∀ {l : List Nat}, l.Nodup → l.length ≤ (l.filter (fun x => decide (x ≠ n))).length + 1
 | [], _ => by simp
 | a :: l, h => by
  obtain ⟨h1, h2⟩ := List.nodup_cons.1 h
  by_cases c : a = n
  ·subst c
   rw [List.filter_cons, if_neg (by simp)]
   have : l.filter (fun x => decide (x ≠ a)) = l := List.filter_eq_self.2 fun x hx => by
    simp only [ne_eq, decide_eq_true_eq]
    exact fun e => h1 (e ▸ hx)
   rw [this]; simp
  ·rw [List.filter_cons, if_pos (by simpa using c)]
   have := filter_len (n := n) h2
   simp only [List.length_cons]
   omega
theorem seen_len : ∀ {n : Nat} {l : List Nat}, l.Nodup → (∀ j ∈ l, j < n) → l.length ≤ n
 | 0, l, _, h => by
  cases l with
  | nil => exact Nat.le_refl _
  | cons a l => exact absurd (h a (by simp)) (Nat.not_lt_zero _)
 | n + 1, l, hn, h => by
  have h1 := filter_len (n := n) hn
  have h2 := seen_len (n := n) (l := l.filter (fun x => decide (x ≠ n))) (hn.filter _) (fun j hj => by
   obtain ⟨a, b⟩ := List.mem_filter.1 hj
   have := h j a
   have : j ≠ n := by simpa using b
   omega)
  omega
theorem findL_of_mem {α : Type} {s : ByteArray} {v : α} : ∀ {l : List (ByteArray × α)}, (l.map (·.1)).Nodup → (s, v) ∈ l → findL s l = some v
 | (a, u) :: es, hn, hm => by
  have hn' := List.nodup_cons.1 (by simpa using hn : (a :: es.map (·.1)).Nodup)
  simp only [findL]
  rcases List.mem_cons.1 hm with h | h
  ·cases h; rw [if_pos rfl]
  ·rw [if_neg (fun e => hn'.1 (by rw [e]; exact List.mem_map.2 ⟨_, h, rfl⟩)), findL_of_mem hn'.2 h]
theorem mapO_get {α : Type} {f : α → V} {l : List (ByteArray × α)} {j : Nat} {k v : V} (h : (mapO f l)[j]? = some (k, v)) : ∃ s a, l[j]? = some (s, a) ∧ k = .str s ∧ v = f a := by
 unfold mapO at h
 rw [List.getElem?_map, Option.map_eq_some_iff] at h
 obtain ⟨⟨s, a⟩, h1, h2⟩ := h
 cases h2
 exact ⟨s, a, h1, rfl, rfl⟩
theorem mapO_len {α : Type} {f : α → V} {l : List (ByteArray × α)} : (mapO f l).length = l.length := by simp [mapO]
structure Copy (h : H) (ws : List (ByteArray × Nat × Nat)) (h' : H) (acc : List (ByteArray × Nat × Nat)) : Prop where
 all : ∀ s id0 len, findL s ws = some (id0, len) → ∃ id cs, findL s acc = some (id, len) ∧ h.objs id0 = some (.cells cs) ∧ h'.objs id = some (.cells cs)
 keys : ∀ r ∈ acc, r.1 ∈ ws.map (·.1)
 kn : (acc.map (·.1)).Nodup
 ids : ∀ r ∈ acc, h.next < r.2.1 ∧ r.2.1 < h'.next
 idn : (acc.map fun r => r.2.1).Nodup
structure WsOk (h : H) (ws : List (ByteArray × Nat × Nat)) : Prop where
 kn : (ws.map (·.1)).Nodup
 cells : ∀ r ∈ ws, r.2.1 < h.next ∧ 0 < r.2.2 ∧ r.2.2 ≤ 64 ∧ ∃ cs, h.objs r.2.1 = some (.cells cs) ∧ cs.length = r.2.2
theorem app_new {st : S} {s id0 len : Nat} {cs : List V} (hg : st.h.get id0 = some cs) (hl : cs.length = len) (h0 : 0 < len) (hm : len ≤ 4294967296) :
  appV st s (.vec [] .full) (.ref id0 0 len 1) 1 8 false true = some (.ref st.h.next 0 len 1, st.withH (st.h.new (.cells cs))) := by
 simp only [appV, lenV, flat, hg, List.drop_zero, Nat.mul_one]
 rw [List.take_of_length_le (by omega), if_pos ⟨hl, by decide, by decide⟩, if_pos ⟨hm, h0⟩]
structure CopyI (h : H) (w ver : Nat) (ws : List (ByteArray × Nat × Nat)) (seen : List Nat) (acc : List (ByteArray × Nat × Nat)) (h' : H) : Prop where
 m : ∃ va, h'.objs h.next = some (.map (mapO refV acc) va)
 i : h'.objs (h.next + 1) = some (.iter w ver seen)
 old : ∀ j, j < h.next → h'.objs j = h.objs j
 nx : h.next + 2 ≤ h'.next
 sn : seen.Nodup
 sl : ∀ j ∈ seen, j < ws.length
 keys : ∀ s, s ∈ acc.map (·.1) ↔ ∃ j r, j ∈ seen ∧ ws[j]? = some (s, r)
 cells : ∀ r ∈ acc, h.next + 2 ≤ r.2.1 ∧ r.2.1 < h'.next ∧ ∃ id0 cs, findL r.1 ws = some (id0, r.2.2) ∧ h.objs id0 = some (.cells cs) ∧ h'.objs r.2.1 = some (.cells cs)
 kn : (acc.map (·.1)).Nodup
 idn : (acc.map fun r => r.2.1).Nodup
namespace YtihmoaibgmhjeaaDoor
section
variable {h : H} {K : Out → H → Prop}
theorem cloneG {id ver : Nat} {es : List (V × V)} (ho : h.objs id = some (.map es ver)) (hK : K (.ret (.map h.next)) (h.new (.map es 0))) : R 73 [.map id] h K :=
 runs_ext ext2 (x := cloneX) rfl (n := 0) ⟨id, es, ver, rfl, mapAt_of ho, hK⟩
theorem copiedG {w ver : Nat} {ws : List (ByteArray × Nat × Nat)} (hw : h.objs w = some (.map (mapO refV ws) ver)) (hwl : w < h.next) (ok : WsOk h ws)
  (hK : ∀ h' acc, (∃ va, h'.objs h.next = some (.map (mapO refV acc) va)) → h.next < h'.next → (∀ j, j < h.next → h'.objs j = h.objs j) → Copy h ws h' acc → K (.ret (.map h.next)) h') :
  R 74 [.map w] h K := by
 refine run74 (Nat.le_of_ble_eq_true rfl) ?_
 have ho : (h.new (.map [] 0)).mapAt w = some (mapO refV ws, ver) := mapAt_of (by rw [new_objs, if_neg (by omega)]; exact hw)
 simp -dsimp -implicitDefEqProofs only [↓STP, STQ, seval, ir74]
 rw [opT_rng (id := w) (ver := ver) (es := mapO refV ws) rfl ho]
 simp -dsimp -implicitDefEqProofs only [↓STP, STQ, seval, new_next]
 refine codeT_loop (fun k s => ∃ seen acc h', k = ws.length - seen.length ∧ CopyI h w ver ws seen acc h' ∧ s = ⟨upd (upd ρ0 3 (.map h.next)) 8 (.itr (h.next + 1)), m0, 0, [], h'⟩) (i := ws.length)
  ⟨[], [], _, rfl, ⟨⟨0, ?_⟩, ?_, fun j hj => ?_, ?_, by simp, by simp, by simp, by simp, by simp, by simp⟩, by simp -dsimp -implicitDefEqProofs only [↓STP, STQ, seval] <;> rfl⟩ ?_ mono
 ·rw [new_objs, if_neg (by rw [new_next]; omega), new_objs, if_pos rfl]; rfl
 ·rw [new_objs, new_next, if_pos rfl]
 ·rw [new_objs, new_next, if_neg (by omega), new_objs, if_neg (by omega)]
 ·rw [new_next, new_next]; exact Nat.le_refl _
 rintro k s ⟨seen, acc, h', rfl, I, rfl⟩
 have ho' : h'.mapAt w = some (mapO refV ws, ver) := mapAt_of (by rw [I.old w hwl]; exact hw)
 simp -dsimp -implicitDefEqProofs only [↓STP, STQ, seval]
 rw [opT_nxt (i := h.next + 1) (id := w) (ver := ver) (seen := seen) (es := mapO refV ws) rfl I.i ho']
 refine ⟨fun hall => ?_, fun j kv vv hj hn => ?_⟩
 ·simp -dsimp -implicitDefEqProofs only [↓STP, STQ, seval]
  refine hK h' acc I.m (by have := I.nx; omega) I.old ⟨fun s id0 len hf => ?_, fun r hr => ?_, I.kn, fun r hr => ?_, I.idn⟩
  ·have hm := findL_mem hf
   obtain ⟨j, hj⟩ := List.mem_iff_getElem?.1 hm
   have hjl : j < ws.length := (List.getElem?_eq_some_iff.1 hj).1
   have hs : s ∈ acc.map (·.1) := (I.keys s).2 ⟨j, (id0, len), hall j (by rw [mapO_len]; exact hjl), hj⟩
   obtain ⟨⟨s', id, len'⟩, hr, rfl⟩ := List.mem_map.1 hs
   obtain ⟨_, _, id0', cs, e1, e2, e3⟩ := I.cells _ hr
   rw [hf] at e1
   simp only [Option.some.injEq, Prod.mk.injEq] at e1
   obtain ⟨rfl, rfl⟩ := e1
   exact ⟨id, cs, findL_of_mem I.kn hr, e2, e3⟩
  ·obtain ⟨_, _, id0, cs, e1, _⟩ := I.cells r hr
   exact List.mem_map.2 ⟨_, findL_mem e1, rfl⟩
  ·obtain ⟨a, b, _⟩ := I.cells r hr
   exact ⟨by omega, b⟩
 ·obtain ⟨s, ⟨id0, len⟩, hjw, rfl, rfl⟩ := mapO_get hj
  have hm : (s, id0, len) ∈ ws := List.mem_of_getElem? hjw
  have hjl : j < ws.length := (List.getElem?_eq_some_iff.1 hjw).1
  obtain ⟨c1, c2, c3, cs, c4, c5⟩ := ok.cells _ hm
  simp only at c1 c2 c3 c4 c5
  have i1 : (h'.set (h.next + 1) (.iter w ver (j :: seen))).objs (h.next + 1) = some (.iter w ver (j :: seen)) := by rw [set_objs, if_pos rfl]
  have i2 : (h'.set (h.next + 1) (.iter w ver (j :: seen))).mapAt w = some (mapO refV ws, ver) := mapAt_of (by rw [set_objs, if_neg (by omega), I.old w hwl]; exact hw)
  have hs : s ∉ acc.map (·.1) := fun hs => by
   obtain ⟨j', r, hj', hw'⟩ := (I.keys s).1 hs
   have : j' = j := map_inj ok.kn hw' hjw rfl
   exact hn (this ▸ hj')
  simp -dsimp -implicitDefEqProofs only [↓STP, STQ, seval]
  rw [opT_ent (i := h.next + 1) (id := w) (ver := ver) (seen := seen) (es := mapO refV ws) (j := j) rfl i1 i2 hj]
  have hg : (h'.set (h.next + 1) (.iter w ver (j :: seen))).get id0 = some cs := get_of (by rw [set_objs, if_neg (by omega), I.old id0 c1]; exact c4)
  simp -dsimp -implicitDefEqProofs only [↓STP, STQ, seval, refV]
  rw [app_new hg c5 c2 (by omega)]
  obtain ⟨va, hva⟩ := I.m
  have hnx := I.nx
  have hm2 : ((h'.set (h.next + 1) (.iter w ver (j :: seen))).new (.cells cs)).objs h.next = some (.map (mapO refV acc) va) := by
   rw [new_objs, if_neg (by rw [set_next]; omega), set_objs, if_neg (by omega)]; exact hva
  obtain ⟨ver', hup⟩ := mup_ok (f := refV) (s := s) (v := (h'.next, len)) hm2
  rw [show refV (h'.next, len) = V.ref h'.next 0 len 1 from rfl] at hup
  simp -dsimp -implicitDefEqProofs only [↓STP, STQ, seval, set_next, hup]
  refine ⟨ws.length - (j :: seen).length, ?_, j :: seen, acc ++ [(s, h'.next, len)], _, rfl, ⟨⟨ver', ?_⟩, ?_, fun i hi => ?_, ?_, ?_, ?_, fun t => ?_, fun r hr => ?_, ?_, ?_⟩, rfl⟩
  ·have := seen_len (n := ws.length) (l := j :: seen) (List.nodup_cons.2 ⟨hn, I.sn⟩) (fun i hi => (List.mem_cons.1 hi).elim (fun e => e ▸ hjl) (I.sl i))
   simp only [List.length_cons] at this ⊢
   omega
  ·rw [set_objs, if_pos rfl, setE_new hs]
  ·rw [set_objs, if_neg (by omega), new_objs, if_neg (by rw [set_next]; omega), set_objs, if_pos rfl]
  ·rw [set_objs, if_neg (by omega), new_objs, if_neg (by rw [set_next]; omega), set_objs, if_neg (by omega)]
   exact I.old i hi
  ·rw [set_next, new_next, set_next]; omega
  ·exact List.nodup_cons.2 ⟨hn, I.sn⟩
  ·exact fun i hi => (List.mem_cons.1 hi).elim (fun e => e ▸ hjl) (I.sl i)
  ·rw [List.map_append, List.mem_append, I.keys t]
   constructor
   ·rintro (⟨i, r, a, b⟩ | ht)
    ·exact ⟨i, r, List.mem_cons_of_mem _ a, b⟩
    ·have : t = s := by simpa using ht
     subst this
     exact ⟨j, _, List.mem_cons_self, hjw⟩
   ·rintro ⟨i, r, a, b⟩
    rcases List.mem_cons.1 a with rfl | a
    ·rw [hjw] at b; cases b; exact .inr (by simp)
    ·exact .inl ⟨i, r, a, b⟩
  ·rw [set_next, new_next, set_next]
   rcases List.mem_append.1 hr with hr | hr
   ·obtain ⟨a, b, id0', cs', e1, e2, e3⟩ := I.cells r hr
    refine ⟨a, by omega, id0', cs', e1, e2, ?_⟩
    rw [set_objs, if_neg (by omega), new_objs, if_neg (by rw [set_next]; omega), set_objs, if_neg (by omega)]
    exact e3
   ·rw [List.mem_singleton] at hr
    subst hr
    refine ⟨hnx, by show h'.next < _; omega, id0, cs, findL_of_mem ok.kn hm, c4, ?_⟩
    show ((H.new _ _).set h.next _).objs h'.next = _
    rw [set_objs, if_neg (by omega), new_objs, if_pos (by rw [set_next])]
  ·rw [List.map_append]
   exact List.nodup_append.2 ⟨I.kn, by simp, fun a ha b hb e => by rw [List.map_cons, List.map_nil, List.mem_singleton] at hb; subst hb; subst e; exact hs ha⟩
  ·rw [List.map_append]
   refine List.nodup_append.2 ⟨I.idn, by simp, fun a ha b hb e => ?_⟩
   rw [List.map_cons, List.map_nil, List.mem_singleton] at hb
   subst hb; subst e
   obtain ⟨r, hr, hra⟩ := List.mem_map.1 ha
   have := (I.cells r hr).2.1
   simp only at hra
   omega
end
end YtihmoaibgmhjeaaDoor
end Go.Ab
