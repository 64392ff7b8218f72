import Derived.Test.YtihmoaibgmhjeaaDoorD11
set_option linter.unusedVariables false
set_option linter.unusedSimpArgs false
namespace Go.Ab
theorem storeF {h : H} {id j : Nat} {cs : List V} {v : V} (hg : h.get id = some cs) (hj : j < cs.length) (hv : v.outS = some v) (hc : v.cells = [v]) {ρ : Nat → V} {m : Nat → Option (List V)} {n : Nat} {u : List Nat} :
  storeV ⟨ρ, m, n, u, h⟩ (.ptr id j) v 1 = some ⟨ρ, m, n, u, h.set id (.cells (cs.set j v))⟩ := by
 simp only [storeV, hc, hv, hg, List.length_cons, List.length_nil]
 rw [if_pos ⟨trivial, by decide⟩, if_pos (by omega), over_one hj]
 rfl
theorem At.frame {p : Prg} {L : Lk} {σ : TS} {h h' : H} (A : At p L σ h) (hn : h.next ≤ h'.next) (e : ∀ id ∈ L.own, h'.objs id = h.objs id) : At p L σ h' := by
 have hx : ∀ {id}, id ∈ [L.x, L.i, L.s, L.v, L.w, L.l] → id ∈ L.own := fun h => List.mem_append_left _ h
 refine ⟨?_, ?_, ?_, ?_, ?_, ?_, A.es, A.esn, fun i d hd => ?_, A.wsn, A.wk, A.nd, fun id hi => Nat.lt_of_lt_of_le (A.lt id hi) hn⟩
 ·rw [e _ (hx (by simp))]; exact A.x
 ·rw [e _ (hx (by simp))]; exact A.i
 ·rw [e _ (hx (by simp))]; exact A.s
 ·rw [e _ (hx (by simp))]; exact A.v
 ·rw [e _ (hx (by simp))]; exact A.w
 ·rw [e _ (hx (by simp))]; exact A.l
 ·obtain ⟨id, ws, a, b, c⟩ := A.ws i d hd
  exact ⟨id, ws, a, b, by rw [e _ (A.ws_own b).1]; exact c⟩
theorem At.wsOk {p : Prg} (hp : PV p) {L : Lk} {σ : TS} {h : H} (A : At p L σ h) (ok : EOkT p σ.env) : WsOk h L.ws := by
 refine ⟨A.wsn, fun r hr => ?_⟩
 obtain ⟨d, hd, hn⟩ := A.wk r hr
 obtain ⟨i, hi⟩ := List.mem_iff_getElem?.1 hd
 obtain ⟨id, ws, a, b, c⟩ := A.ws i d hi
 obtain ⟨s, rid, rlen⟩ := r
 simp only at hn
 subst hn
 rw [findL_of_mem A.wsn hr] at b
 simp only [Option.some.injEq, Prod.mk.injEq] at b
 obtain ⟨rfl, rfl⟩ := b
 have h1 := (ok.words i ws d a hi).1
 have h2 := hp.ars d hd
 exact ⟨A.lt _ (A.ws_own (findL_of_mem A.wsn hr)).1, by show 0 < ws.length; omega, by show ws.length ≤ 64; omega, _, c, by simp [natVs]⟩
theorem Lk.x_lt {p : Prg} {L : Lk} {σ : TS} {h : H} (A : At p L σ h) : L.x < h.next ∧ L.i < h.next ∧ L.s < h.next ∧ L.v < h.next ∧ L.w < h.next ∧ L.l < h.next :=
 ⟨A.lt _ (by simp [Lk.own]), A.lt _ (by simp [Lk.own]), A.lt _ (by simp [Lk.own]), A.lt _ (by simp [Lk.own]), A.lt _ (by simp [Lk.own]), A.lt _ (by simp [Lk.own])⟩
theorem branch_mid {p : Prg} {L L1 : Lk} {σ σ1 : TS} {h h2 h3 h4 h6 : H} {acc : List (ByteArray × Nat × Nat)} {va : Nat} (A : At p L σ h) (F3 : Fr L L h h3) (A4 : At p L1 σ1 h4) (F4 : Fr L L1 h3 h4) (hloops : σ1.env.loops = σ.env.loops)
  (C : Copy h2 L.ws h3 acc) (h2n : h2.next = h.next + 1) (h2o : ∀ id ∈ L.own, id ≠ L.x → h2.objs id = h.objs id) (hva : h3.objs (h.next + 1) = some (.map (mapO refV acc) va)) (hn3 : h.next + 1 < h3.next)
  (h6x : h6.objs L.x = some (.cells (Lk.cs ⟨L1.x, L1.i, L1.s, h4.next, h.next + 1, L1.l, L.es, acc⟩ { σ1 with env := σ.env }))) (h6v : h6.objs h4.next = some (.map (mapO vkV L.es) 0)) (h6o : ∀ j, j < h4.next → j ≠ L.x → h6.objs j = h4.objs j) (h6n : h6.next = h4.next + 1) :
  At p ⟨L1.x, L1.i, L1.s, h4.next, h.next + 1, L1.l, L.es, acc⟩ { σ1 with env := σ.env } h6 ∧ Fr L ⟨L1.x, L1.i, L1.s, h4.next, h.next + 1, L1.l, L.es, acc⟩ h h6 ∧
   (L1.v ∉ Lk.own ⟨L1.x, L1.i, L1.s, h4.next, h.next + 1, L1.l, L.es, acc⟩) ∧ (L1.w ∉ Lk.own ⟨L1.x, L1.i, L1.s, h4.next, h.next + 1, L1.l, L.es, acc⟩) ∧ (∀ r ∈ L1.ws, r.2.1 ∉ Lk.own ⟨L1.x, L1.i, L1.s, h4.next, h.next + 1, L1.l, L.es, acc⟩) ∧
   h.next ∉ Lk.own ⟨L1.x, L1.i, L1.s, h4.next, h.next + 1, L1.l, L.es, acc⟩ := by
 have hxx : L1.x = L.x := F4.x
 have hn4 := F4.nx
 have hown : ∀ id ∈ L1.own, id < h.next ∨ (h3.next ≤ id ∧ id < h4.next) := fun id hi => (F4.own id hi).elim (fun hh => .inl (A.lt id hh)) (fun hh => .inr ⟨hh, A4.lt id hi⟩)
 have keep4 : ∀ id, h.next ≤ id → id < h3.next → h4.objs id = h3.objs id := fun id h1' h2' => F4.same id h2' (fun hi => by have := A.lt id hi; omega)
 have Ci : ∀ r ∈ acc, h.next + 1 < r.2.1 ∧ r.2.1 < h3.next := fun r hr => by have := C.ids r hr; rw [h2n] at this; exact this
 obtain ⟨⟨xi, xs, xv, xw, xl, xn⟩, ⟨is, iv, iw, il, in_⟩, ⟨sv, sw, sl, sn⟩, ⟨vw, vl, vn⟩, ⟨wl, wn⟩, ln, wnd⟩ := Lk.dist A4.nd
 have mx := hown L1.x (by simp [Lk.own])
 have mi := hown L1.i (by simp [Lk.own])
 have ms := hown L1.s (by simp [Lk.own])
 have mv := hown L1.v (by simp [Lk.own])
 have mw := hown L1.w (by simp [Lk.own])
 have ml := hown L1.l (by simp [Lk.own])
 have mws : ∀ r ∈ L1.ws, r.2.1 < h.next ∨ (h3.next ≤ r.2.1 ∧ r.2.1 < h4.next) := fun r hr => hown _ (List.mem_append_right _ (List.mem_map.2 ⟨r, hr, rfl⟩))
 have mem2 : ∀ id, id ∈ Lk.own ⟨L1.x, L1.i, L1.s, h4.next, h.next + 1, L1.l, L.es, acc⟩ ↔ (id = L1.x ∨ id = L1.i ∨ id = L1.s ∨ id = h4.next ∨ id = h.next + 1 ∨ id = L1.l ∨ ∃ r ∈ acc, r.2.1 = id) := by
  intro id
  simp only [Lk.own, List.cons_append, List.nil_append, List.mem_cons, List.mem_map]
 have nacc : ∀ id, (id < h.next ∨ h3.next ≤ id ∨ id = h.next ∨ id = h.next + 1) → ¬ ∃ r ∈ acc, r.2.1 = id := fun id hid ⟨r, hr, e⟩ => by have := Ci r hr; omega
 refine ⟨⟨by rw [show (Lk.mk L1.x L1.i L1.s h4.next (h.next + 1) L1.l L.es acc).x = L.x from hxx]; exact h6x, ?_, ?_, ⟨0, h6v⟩, ⟨va, ?_⟩, ?_, A.es, A.esn, fun i d hd => ?_, C.kn, fun r hr => ?_, ?_, fun id hi => ?_⟩, ⟨?_, hxx, fun id hl hn => ?_, fun id hi => ?_⟩, ?_, ?_, ?_, ?_⟩
 ·show ∃ ver, h6.objs L1.i = _
  rw [h6o _ (by omega) (by rw [← hxx]; exact xi.symm)]; exact A4.i
 ·show ∃ ver, h6.objs L1.s = _
  rw [h6o _ (by omega) (by rw [← hxx]; exact xs.symm)]; exact A4.s
 ·show h6.objs (h.next + 1) = _
  rw [h6o _ (by omega) (by have := (Lk.x_lt A).1; omega), keep4 _ (by omega) hn3]; exact hva
 ·show ∃ ver, h6.objs L1.l = some (.map (mapO conV σ.env.loops) ver)
  rw [h6o _ (by omega) (by rw [← hxx]; exact xl.symm), ← hloops]; exact A4.l
 ·obtain ⟨id0, ws0, a1, b1, c1⟩ := A.ws i d hd
  obtain ⟨id, cs, e1, e2, e3⟩ := C.all _ _ _ b1
  have hid := Ci _ (findL_mem e1)
  simp only at hid
  rw [h2o id0 (A.ws_own b1).1 (A.ws_own b1).2.1, c1] at e2
  simp only [Option.some.injEq, O.cells.injEq] at e2
  refine ⟨id, ws0, a1, e1, ?_⟩
  rw [h6o _ (by omega) (by have := (Lk.x_lt A).1; omega), keep4 _ (by omega) hid.2, e3, e2]
 ·obtain ⟨r0, hr0, e⟩ := List.mem_map.1 (C.keys r hr)
  obtain ⟨d, hd, hn⟩ := A.wk r0 hr0
  exact ⟨d, hd, hn.trans e⟩
 ·show (Lk.own ⟨L1.x, L1.i, L1.s, h4.next, h.next + 1, L1.l, L.es, acc⟩).Nodup
  have hx1 := nacc L1.x (by omega)
  have hi1 := nacc L1.i (by omega)
  have hs1 := nacc L1.s (by omega)
  have hl1 := nacc L1.l (by omega)
  have hb1 := nacc h4.next (by omega)
  have hm1 := nacc (h.next + 1) (by omega)
  simp only [Lk.own, List.cons_append, List.nil_append, List.nodup_cons, List.mem_cons, not_or, List.mem_map]
  exact ⟨⟨xi, xs, by omega, by omega, xl, hx1⟩, ⟨is, by omega, by omega, il, hi1⟩, ⟨by omega, by omega, sl, hs1⟩, ⟨by omega, by omega, hb1⟩, ⟨by omega, hm1⟩, hl1, C.idn⟩
 ·rcases (mem2 id).1 hi with rfl | rfl | rfl | rfl | rfl | rfl | ⟨r, hr, rfl⟩
  ·omega
  ·omega
  ·omega
  ·omega
  ·omega
  ·omega
  ·have := Ci r hr; omega
 ·omega
 ·rw [h6o id (by omega) (fun e => hn (by rw [e]; exact L.x_mem)), F4.same id (by omega) hn]
  exact F3.same id hl hn
 ·rcases (mem2 id).1 hi with rfl | rfl | rfl | rfl | rfl | rfl | ⟨r, hr, rfl⟩
  ·exact .inl (by rw [hxx]; exact L.x_mem)
  ·exact (F4.own L1.i (by simp [Lk.own])).imp id (fun hh => by omega)
  ·exact (F4.own L1.s (by simp [Lk.own])).imp id (fun hh => by omega)
  ·exact .inr (by omega)
  ·exact .inr (by omega)
  ·exact (F4.own L1.l (by simp [Lk.own])).imp id (fun hh => by omega)
  ·exact .inr (by have := Ci r hr; omega)
 ·intro hi
  rcases (mem2 _).1 hi with e | e | e | e | e | e | e
  ·exact xv e.symm
  ·exact iv e.symm
  ·exact sv e.symm
  ·omega
  ·omega
  ·exact vl e
  ·exact nacc L1.v (by omega) e
 ·intro hi
  rcases (mem2 _).1 hi with e | e | e | e | e | e | e
  ·exact xw e.symm
  ·exact iw e.symm
  ·exact sw e.symm
  ·omega
  ·omega
  ·exact wl e
  ·exact nacc L1.w (by omega) e
 ·intro r hr hi
  have hm := mws r hr
  have hmem : r.2.1 ∈ L1.ws.map fun r => r.2.1 := List.mem_map.2 ⟨r, hr, rfl⟩
  rcases (mem2 _).1 hi with e | e | e | e | e | e | e
  ·exact xn (e ▸ hmem)
  ·exact in_ (e ▸ hmem)
  ·exact sn (e ▸ hmem)
  ·omega
  ·omega
  ·exact ln (e ▸ hmem)
  ·exact nacc r.2.1 (by omega) e
 ·intro hi
  rcases (mem2 _).1 hi with e | e | e | e | e | e | e
  ·omega
  ·omega
  ·omega
  ·omega
  ·omega
  ·omega
  ·exact nacc h.next (by omega) e
theorem At.newVars {p : Prg} {L : Lk} {σ : TS} {h h' : H} {bo : Nat} (A : At p L σ h) (hb : bo ∉ L.own) (hl : bo < h.next) {es' : List (ByteArray × Int × Nat)} {vars' : ByteArray → Option (Int × Nat)} (ho : ∃ ver, h.objs bo = some (.map (mapO vkV es') ver))
  (hx : h'.objs L.x = some (.cells (Lk.cs { L with v := bo, es := es' } σ))) (c : Chg h h' L.x)
  (hf : ∀ s, findL s es' = vars' s) (hn : (es'.map (·.1)).Nodup) : At p { L with v := bo, es := es' } { σ with env := { σ.env with vars := vars' } } h' := by
 obtain ⟨⟨xi, xs, xv, xw, xl, xn⟩, ⟨is, iv, iw, il, in_⟩, ⟨sv, sw, sl, sn⟩, ⟨vw, vl, vn⟩, ⟨wl, wn⟩, ln, wnd⟩ := Lk.dist A.nd
 have hb' := hb
 simp only [Lk.own, List.cons_append, List.nil_append, List.mem_cons, not_or] at hb'
 obtain ⟨bx, bi, bs, bv, bw, bl, bn⟩ := hb'
 refine ⟨hx, ?_, ?_, ?_, ?_, ?_, hf, hn, fun i d hd => ?_, A.wsn, A.wk, ?_, fun id hi => ?_⟩
 ·show ∃ ver, h'.objs L.i = _; rw [c.same _ xi.symm]; exact A.i
 ·show ∃ ver, h'.objs L.s = _; rw [c.same _ xs.symm]; exact A.s
 ·show ∃ ver, h'.objs bo = _; rw [c.same _ bx]; exact ho
 ·show ∃ ver, h'.objs L.w = _; rw [c.same _ xw.symm]; exact A.w
 ·show ∃ ver, h'.objs L.l = _; rw [c.same _ xl.symm]; exact A.l
 ·obtain ⟨id, ws, a, b, e⟩ := A.ws i d hd
  exact ⟨id, ws, a, b, by rw [c.same _ (A.ws_own b).2.1]; exact e⟩
 ·simp only [Lk.own, List.cons_append, List.nil_append, List.nodup_cons, List.mem_cons, not_or]
  exact ⟨⟨xi, xs, fun e => bx e.symm, xw, xl, xn⟩, ⟨is, fun e => bi e.symm, iw, il, in_⟩, ⟨fun e => bs e.symm, sw, sl, sn⟩, ⟨bw, bl, bn⟩, ⟨wl, wn⟩, ln, wnd⟩
 ·rw [c.next]
  simp only [Lk.own, List.cons_append, List.nil_append, List.mem_cons] at hi
  have hall := A.lt
  simp only [Lk.own, List.cons_append, List.nil_append, List.mem_cons] at hall
  rcases hi with e | e | e | e | e | e | e
  ·exact hall _ (.inl e)
  ·exact hall _ (.inr (.inl e))
  ·exact hall _ (.inr (.inr (.inl e)))
  ·rw [e]; exact hl
  ·exact hall _ (.inr (.inr (.inr (.inr (.inl e)))))
  ·exact hall _ (.inr (.inr (.inr (.inr (.inr (.inl e))))))
  ·exact hall _ (.inr (.inr (.inr (.inr (.inr (.inr e))))))
theorem At.newWords {p : Prg} {L : Lk} {σ : TS} {h h' : H} {words' : List (List Nat)} (A : At p L σ h) (hn : h.next ≤ h'.next) (e : ∀ id ∈ [L.x, L.i, L.s, L.v, L.w, L.l], h'.objs id = h.objs id)
  (hw : ∀ (i : Nat) (d : ArD), p.arrays[i]? = some d → ∃ id ws, words'[i]? = some ws ∧ findL d.name L.ws = some (id, ws.length) ∧ h'.objs id = some (.cells (natVs ws))) : At p L { σ with env := { σ.env with words := words' } } h' := by
 refine ⟨?_, ?_, ?_, ?_, ?_, ?_, A.es, A.esn, hw, A.wsn, A.wk, A.nd, fun id hi => Nat.lt_of_lt_of_le (A.lt id hi) hn⟩
 ·rw [e _ (by simp)]; exact A.x
 ·rw [e _ (by simp)]; exact A.i
 ·rw [e _ (by simp)]; exact A.s
 ·rw [e _ (by simp)]; exact A.v
 ·rw [e _ (by simp)]; exact A.w
 ·rw [e _ (by simp)]; exact A.l
structure BothI (vA bo : Nat) (es : List (ByteArray × Int × Nat)) (f : ByteArray → Option (Int × Nat)) (h9 : H) (seen : List Nat) (acc : List (ByteArray × Int × Nat)) (h' : H) : Prop where
 m : ∃ va, h'.objs bo = some (.map (mapO vkV acc) va)
 i : h'.objs (bo + 1) = some (.iter vA 0 seen)
 old : ∀ j, j < bo → h'.objs j = h9.objs j
 nx : h'.next = bo + 2
 sn : seen.Nodup
 sl : ∀ j ∈ seen, j < es.length
 yes : ∀ s, (∃ j r, j ∈ seen ∧ es[j]? = some (s, r)) → findL s acc = f s
 no : ∀ s, (¬ ∃ j r, j ∈ seen ∧ es[j]? = some (s, r)) → findL s acc = none
 kn : (acc.map (·.1)).Nodup
theorem BothI.step {vA bo : Nat} {es acc acc' : List (ByteArray × Int × Nat)} {f : ByteArray → Option (Int × Nat)} {h9 h' h'' : H} {seen : List Nat} {j : Nat} {s : ByteArray} {r : Int × Nat} (I : BothI vA bo es f h9 seen acc h')
  (hes : (es.map (·.1)).Nodup) (hj : es[j]? = some (s, r)) (hn : j ∉ seen) (hm : ∃ va, h''.objs bo = some (.map (mapO vkV acc') va)) (hi : h''.objs (bo + 1) = some (.iter vA 0 (j :: seen))) (ho : ∀ j, j < bo → h''.objs j = h'.objs j) (hx : h''.next = h'.next)
  (hacc : ∀ t, findL t acc' = if t = s then f s else findL t acc) (hkn : (acc'.map (·.1)).Nodup) : BothI vA bo es f h9 (j :: seen) acc' h'' := by
 have hjl : j < es.length := (List.getElem?_eq_some_iff.1 hj).1
 refine ⟨hm, hi, fun i hil => by rw [ho i hil, I.old i hil], hx.trans I.nx, List.nodup_cons.2 ⟨hn, I.sn⟩, fun i hi => (List.mem_cons.1 hi).elim (fun e => e ▸ hjl) (I.sl i), fun t ht => ?_, fun t ht => ?_, hkn⟩
 ·rw [hacc]
  by_cases c : t = s
  ·rw [if_pos c, c]
  ·rw [if_neg c]
   obtain ⟨i, q, hi, hq⟩ := ht
   rcases List.mem_cons.1 hi with rfl | hi
   ·rw [hj] at hq; cases hq; exact absurd rfl c
   ·exact I.yes t ⟨i, q, hi, hq⟩
 ·rw [hacc]
  by_cases c : t = s
  ·exact absurd ⟨j, r, List.mem_cons_self, by rw [c]; exact hj⟩ ht
  ·rw [if_neg c]
   exact I.no t fun ⟨i, q, hi, hq⟩ => ht ⟨i, q, List.mem_cons_of_mem _ hi, hq⟩
theorem BothI.unseen {vA bo : Nat} {es acc : List (ByteArray × Int × Nat)} {f : ByteArray → Option (Int × Nat)} {h9 h' : H} {seen : List Nat} {j : Nat} {s : ByteArray} {r : Int × Nat} (I : BothI vA bo es f h9 seen acc h')
  (hes : (es.map (·.1)).Nodup) (hj : es[j]? = some (s, r)) (hn : j ∉ seen) : findL s acc = none :=
 I.no s fun ⟨i, q, hi, hq⟩ => hn (map_inj hes hq hj rfl ▸ hi)
def cw (p : Prg) (ws : List (List Nat)) (s : ByteArray) : List Nat := ws.getD ((arOf p s).getD 0) []
theorem At.wordOf {p : Prg} (hp : PV p) {L : Lk} {σ : TS} {h : H} (A : At p L σ h) {i : Nat} {d : ArD} (hd : p.arrays[i]? = some d) :
  ∃ id, σ.env.words[i]? = some (cw p σ.env.words d.name) ∧ findL d.name L.ws = some (id, (cw p σ.env.words d.name).length) ∧ h.objs id = some (.cells (natVs (cw p σ.env.words d.name))) := by
 obtain ⟨id, ws, a, b, c⟩ := A.ws i d hd
 have e : cw p σ.env.words d.name = ws := by
  unfold cw
  rw [arOf_name hp hd, Option.getD_some, List.getD_eq_getElem?_getD, a]; rfl
 rw [e]
 exact ⟨id, a, b, c⟩
theorem At.wordR {p : Prg} (hp : PV p) {L : Lk} {σ : TS} {h : H} (A : At p L σ h) {r : ByteArray × Nat × Nat} (hr : r ∈ L.ws) : ∃ (i : Nat) (d : ArD), p.arrays[i]? = some d ∧ d.name = r.1 ∧ r.2.2 = (cw p σ.env.words r.1).length ∧ h.objs r.2.1 = some (.cells (natVs (cw p σ.env.words r.1))) := by
 obtain ⟨d, hd, hn⟩ := A.wk r hr
 obtain ⟨i, hi⟩ := List.mem_iff_getElem?.1 hd
 obtain ⟨id, a, b, c⟩ := A.wordOf hp hi
 obtain ⟨s, rid, rlen⟩ := r
 simp only at hn
 subst hn
 rw [findL_of_mem A.wsn hr] at b
 simp only [Option.some.injEq, Prod.mk.injEq] at b
 obtain ⟨rfl, rfl⟩ := b
 exact ⟨i, d, hi, rfl, rfl, c⟩
theorem cw_len {p : Prg} (hp : PV p) {σ : TE} (ok : EOkT p σ) {i : Nat} {d : ArD} (hd : p.arrays[i]? = some d) : ((cw p σ.words d.name).length : Int) = d.size := by
 have hl : i < σ.words.length := by rw [ok.wlen]; exact (List.getElem?_eq_some_iff.1 hd).1
 have e : cw p σ.words d.name = σ.words[i] := by
  unfold cw
  rw [arOf_name hp hd, Option.getD_some, List.getD_eq_getElem?_getD, List.getElem?_eq_getElem hl]; rfl
 rw [e]
 exact (ok.words i _ d (List.getElem?_eq_getElem hl) hd).1
structure WordI (p : Prg) (w1 w2 : List (List Nat)) (ws : List (ByteArray × Nat × Nat)) (wm ver : Nat) (h11 : H) (seen : List Nat) (h' : H) : Prop where
 i : h'.objs h11.next = some (.iter wm ver seen)
 old : ∀ j, j < h11.next → (∀ r ∈ ws, r.2.1 ≠ j) → h'.objs j = h11.objs j
 nx : h'.next = h11.next + 1
 sn : seen.Nodup
 sl : ∀ j ∈ seen, j < ws.length
 yes : ∀ j r, ws[j]? = some r → j ∈ seen → h'.objs r.2.1 = some (.cells (natVs (List.zipWith max (cw p w2 r.1) (cw p w1 r.1))))
 no : ∀ j r, ws[j]? = some r → j ∉ seen → h'.objs r.2.1 = some (.cells (natVs (cw p w2 r.1)))
def half (a b : List Nat) (i : Nat) : List Nat := (List.zipWith max a b).take i ++ a.drop i
theorem half_zero {a b : List Nat} : half a b 0 = a := by simp [half]
theorem half_all {a b : List Nat} (h : a.length = b.length) : half a b a.length = List.zipWith max a b := by
 unfold half
 rw [List.take_of_length_le (by rw [List.length_zipWith]; omega), List.drop_length, List.append_nil]
theorem half_len {a b : List Nat} (h : a.length = b.length) {i : Nat} (hi : i ≤ a.length) : (half a b i).length = a.length := by
 unfold half
 rw [List.length_append, List.length_take, List.length_zipWith, List.length_drop]; omega
theorem half_get {a b : List Nat} (h : a.length = b.length) {i : Nat} (hi : i < a.length) : (half a b i).getD i 0 = a.getD i 0 := by
 unfold half
 rw [List.getD_eq_getElem?_getD, List.getElem?_append_right (by rw [List.length_take, List.length_zipWith]; omega), List.length_take, List.length_zipWith, List.getElem?_drop, List.getD_eq_getElem?_getD]
 congr 2
 omega
theorem half_set {a b : List Nat} (h : a.length = b.length) {i : Nat} (hi : i < a.length) : (half a b i).set i (max (a.getD i 0) (b.getD i 0)) = half a b (i + 1) := by
 unfold half
 have hz : (List.zipWith max a b).length = a.length := by rw [List.length_zipWith]; omega
 rw [List.set_append_right _ _ (by rw [List.length_take]; omega), List.length_take, hz, show i - min i a.length = 0 by omega, List.take_add_one, List.getElem?_zipWith, List.getElem?_eq_getElem hi, List.getElem?_eq_getElem (show i < b.length by omega)]
 simp [List.getD_eq_getElem?_getD, List.getElem?_eq_getElem hi, List.getElem?_eq_getElem (show i < b.length by omega)]
 rw [List.drop_eq_getElem_cons hi]
 rfl
theorem set_set' {h : H} {id : Nat} {o o' : O} : (h.set id o).set id o' = h.set id o' := by
 simp only [H.set]
 congr 1
 funext j
 simp only [upd]
 split <;> rfl
theorem nat_vs_set {l : List Nat} {i w : Nat} : (natVs l).set i (I (w : Int)) = natVs (l.set i w) := by simp [natVs, List.map_set]
theorem natVs_len {l : List Nat} : (natVs l).length = l.length := by simp [natVs]
namespace YtihmoaibgmhjeaaDoor
section
variable {K : Out → H → Prop} {p : Prg}
theorem branchG {a b : List Stm} {lv : Nat} (hp : PV p) (ha : SpSs p a (lv + 1)) (hb : SpSs p b (lv + 1)) (ga : GoodT p (stmtsT p a)) (gb : GoodT p (stmtsT p b)) {L : Lk} {σ : TS} {h : H} (A : At p L σ h) (ok : TOk p σ) (hifs : σ.ifs ≤ lv) (hlv : lv ≤ 100)
  (hK : EndS p L h K (andT (stmtsT p a { σ with ifs := σ.ifs + 1 }) fun σ1 => andT (stmtsT p b { σ1 with env := σ.env }) fun σ2 =>
   .ok { σ2 with ifs := σ.ifs, env := { σ.env with vars := bothV σ.env.vars σ1.env.vars σ2.env.vars, words := maxW σ2.env.words σ1.env.words } })) :
  R 57 [.ptr L.x 0, .vec (a.map Stm.v) .any, .vec (b.map Stm.v) .any] h K := by
 refine run57 (Nat.le_of_ble_eq_true rfl) ?_
 have gx := get_of A.x
 have w1 : IntKind.i64.wrap ((σ.ifs : Int) + 1) = ((σ.ifs + 1 : Nat) : Int) := by rw [wrap_i64] <;> omega
 obtain ⟨A1, F1⟩ := A.count { σ with ifs := σ.ifs + 1 } rfl
 have st1 := fun ρ m n u => storeF (ρ := ρ) (m := m) (n := n) (u := u) (j := 7) (v := I ((σ.ifs + 1 : Nat) : Int)) gx (by simp [Lk.cs]) rfl rfl
 have e1 : (L.cs σ).set 7 (I ((σ.ifs + 1 : Nat) : Int)) = L.cs { σ with ifs := σ.ifs + 1 } := rfl
 rw [e1] at st1
 generalize hh1 : h.set L.x (.cells (L.cs { σ with ifs := σ.ifs + 1 })) = h1 at *
 have n1 : h1.next = h.next := by rw [← hh1]; rfl
 have gx1 := get_of A1.x
 obtain ⟨verv, hv1⟩ := A1.v
 obtain ⟨verw, hw1⟩ := A1.w
 simp -dsimp -implicitDefEqProofs only [↓STP, STQ, seval, ir57, gx, Lk.cs, w1, st1, gx1]
 refine cloneG hv1 ?_
 have xl := Lk.x_lt A1
 have gx2 : (h1.new (.map (mapO vkV L.es) 0)).get L.x = some (L.cs { σ with ifs := σ.ifs + 1 }) := get_of (by rw [new_objs, if_neg (by omega)]; exact A1.x)
 simp -dsimp -implicitDefEqProofs only [↓STP, STQ, seval, gx1, gx2, Lk.cs]
 have A2 : At p L { σ with ifs := σ.ifs + 1 } (h1.new (.map (mapO vkV L.es) 0)) := A1.frame (by rw [new_next]; omega) (fun id hi => by rw [new_objs, if_neg (by have := A1.lt id hi; omega)])
 refine copiedG (w := L.w) (ver := verw) (ws := L.ws) (by rw [new_objs, if_neg (by omega)]; exact hw1) (by rw [new_next]; omega) (A2.wsOk hp ok.env) ?_
 rintro h3 acc ⟨va, hva⟩ hn3 hold3 C
 have hvA3 : h3.objs h1.next = some (.map (mapO vkV L.es) 0) := by rw [hold3 _ (by rw [new_next]; omega), new_objs, if_pos rfl]
 have A3 : At p L { σ with ifs := σ.ifs + 1 } h3 := A2.frame (by omega) (fun id hi => hold3 id (A2.lt id hi))
 rw [new_next] at hva hn3 hold3
 have C' := C.ids
 rw [new_next] at C'
 have F3 : Fr L L h1 h3 := ⟨by omega, rfl, fun id hl _ => by rw [hold3 id (by omega), new_objs, if_neg (by omega)], fun id hi => .inl hi⟩
 simp -dsimp -implicitDefEqProofs only [↓STP, STQ, seval, new_next]
 have ok1 : TOk p { σ with ifs := σ.ifs + 1 } := ⟨ok.env, ok.steps, ok.most⟩
 refine ha L { σ with ifs := σ.ifs + 1 } h3 _ A3 ok1 (by show σ.ifs + 1 ≤ lv + 1; omega) ?_
 cases hr1 : stmtsT p a { σ with ifs := σ.ifs + 1 } with
 | error er =>
  rw [hr1] at hK
  intro L4 h4 F4
  simp -dsimp -implicitDefEqProofs only [↓STP, STQ, seval]
  exact hK _ _ ((F1.trans F3).trans F4)
 | ok σ1 =>
 rw [hr1, andT_ok] at hK
 have kp1 := ga _ _ ok1 hr1
 intro L1 h4 A4 F4
 have gx4 := get_of A4.x
 rw [F4.x] at gx4
 have hown : ∀ id ∈ L1.own, id < h.next ∨ (h3.next ≤ id ∧ id < h4.next) := fun id hi => (F4.own id hi).elim (fun hh => .inl (A.lt id hh)) (fun hh => .inr ⟨hh, A4.lt id hi⟩)
 have keep4 : ∀ id, h.next ≤ id → id < h3.next → h4.objs id = h3.objs id := fun id h1' h2' => F4.same id h2' (fun hi => by have := A.lt id hi; omega)
 have hvA4 : h4.objs h1.next = some (.map (mapO vkV L.es) 0) := by rw [keep4 _ (by omega) (by omega)]; exact hvA3
 simp -dsimp -implicitDefEqProofs only [↓STP, STQ, seval, gx4, Lk.cs]
 refine cloneG hvA4 ?_
 have nx4 := F4.nx
 have xl4 := Lk.x_lt A4
 rw [F4.x] at xl4
 have hx4 : L1.x = L.x := F4.x
 have gx5 : (h4.new (.map (mapO vkV L.es) 0)).get L.x = some (L1.cs σ1) := get_of (by rw [new_objs, if_neg (by omega), ← hx4]; exact A4.x)
 have st5 := fun ρ m n u => storeF (ρ := ρ) (m := m) (n := n) (u := u) (j := 2) (v := .map h4.next) gx5 (by simp [Lk.cs]) rfl rfl
 generalize hh5 : (h4.new (.map (mapO vkV L.es) 0)).set L.x (.cells ((L1.cs σ1).set 2 (.map h4.next))) = h5 at *
 have gx5' : h5.get L.x = some ((L1.cs σ1).set 2 (.map h4.next)) := get_of (by rw [← hh5, set_objs, if_pos rfl])
 have st6 := fun ρ m n u => storeF (ρ := ρ) (m := m) (n := n) (u := u) (j := 3) (v := .map (h1.next + 1)) gx5' (by simp [Lk.cs]) rfl rfl
 generalize hh6 : h5.set L.x (.cells (((L1.cs σ1).set 2 (.map h4.next)).set 3 (.map (h1.next + 1)))) = h6 at *
 simp -dsimp -implicitDefEqProofs only [↓STP, STQ, seval, st5, st6]
 have hn6 : h6.next = h4.next + 1 := by rw [← hh6, ← hh5]; rfl
 have F03 : Fr L L h h3 := F1.trans F3
 obtain ⟨A6, F6, o1, o2, o3, o4⟩ := branch_mid (acc := acc) (va := va) (h6 := h6) A F03 A4 F4 kp1.loops C (by rw [new_next, n1]) (fun id hi hne => by
   rw [new_objs, if_neg (by have := A1.lt id hi; omega), ← hh1, set_objs, if_neg hne]) (by rw [← n1]; exact hva) (by omega)
  (by rw [← hh6, set_objs, if_pos rfl, n1]; rfl) (by rw [← hh6, set_objs, if_neg (by omega), ← hh5, set_objs, if_neg (by omega), new_objs, if_pos rfl]) (fun j hj hne => by rw [← hh6, set_objs, if_neg hne, ← hh5, set_objs, if_neg hne, new_objs, if_neg (by omega)]) hn6
 generalize hL2 : (Lk.mk L1.x L1.i L1.s h4.next (h.next + 1) L1.l L.es acc) = L2 at *
 have hx2 : L2.x = L.x := by rw [← hL2]; exact hx4
 have ok6 : TOk p { σ1 with env := σ.env } := ⟨ok.env, kp1.ok.steps, kp1.ok.most⟩
 have hi1 : σ1.ifs = σ.ifs + 1 := kp1.ifs
 rw [← hx2]
 refine hb L2 { σ1 with env := σ.env } h6 _ A6 ok6 (by show σ1.ifs ≤ lv + 1; omega) ?_
 cases hr2 : stmtsT p b { σ1 with env := σ.env } with
 | error er =>
  rw [hr2] at hK
  intro L4 h7 F7
  simp -dsimp -implicitDefEqProofs only [↓STP, STQ, seval]
  exact hK _ _ (F6.trans F7)
 | ok σ2 =>
 rw [hr2, andT_ok] at hK
 have kp2 := gb _ _ ok6 hr2
 intro L3 h7 A7 F7
 have hx3 : L3.x = L2.x := F7.x
 have n7 := F7.nx
 have gx7 := get_of A7.x
 rw [hx3] at gx7
 have hi2 : σ2.ifs = σ.ifs + 1 := kp2.ifs.trans hi1
 have w2 : IntKind.i64.wrap ((σ2.ifs : Int) - 1) = ((σ.ifs : Nat) : Int) := by rw [wrap_i64] <;> omega
 obtain ⟨A8, F8⟩ := A7.count { σ2 with ifs := σ.ifs } rfl
 rw [hx3] at A8 F8
 have st8 := fun ρ m n u => storeF (ρ := ρ) (m := m) (n := n) (u := u) (j := 7) (v := I ((σ.ifs : Nat) : Int)) gx7 (by simp [Lk.cs]) rfl rfl
 have e8 : (L3.cs σ2).set 7 (I ((σ.ifs : Nat) : Int)) = L3.cs { σ2 with ifs := σ.ifs } := rfl
 rw [e8] at st8
 generalize hh8 : h7.set L2.x (.cells (L3.cs { σ2 with ifs := σ.ifs })) = h8 at *
 have n8 : h8.next = h7.next := by rw [← hh8]; rfl
 have old8 : ∀ id, id < h4.next → id ∉ L2.own → id ≠ L2.x → h8.objs id = h4.objs id := fun id hl hn hne => by
  rw [← hh8, set_objs, if_neg hne, F7.same id (by omega) hn, ← hh6, set_objs, if_neg (by rw [← hx2]; exact hne), ← hh5, set_objs, if_neg (by rw [← hx2]; exact hne), new_objs, if_neg (by omega)]
 have hx2m : L2.x ∈ L2.own := L2.x_mem
 have hvA8 : h8.objs h1.next = some (.map (mapO vkV L.es) 0) := by
  rw [old8 _ (by omega) (by rw [n1]; exact o4) (fun e => o4 (by rw [← n1, e]; exact hx2m))]; exact hvA4
 obtain ⟨ver1, hv4⟩ := A4.v
 have hv8 : h8.objs L1.v = some (.map (mapO vkV L1.es) ver1) := by rw [old8 _ (by omega) o1 (fun e => o1 (e ▸ hx2m))]; exact hv4
 simp -dsimp -implicitDefEqProofs only [↓STP, STQ, seval, gx7, Lk.cs, w2, st8]
 have xl8 := Lk.x_lt A8
 have hm9 : (h8.new (.map [] 0)).mapAt h1.next = some (mapO vkV L.es, 0) := mapAt_of (by rw [new_objs, if_neg (by omega)]; exact hvA8)
 rw [opT_rng (id := h1.next) (ver := 0) (es := mapO vkV L.es) rfl hm9]
 simp -dsimp -implicitDefEqProofs only [↓STP, STQ, seval, new_next]
 obtain ⟨verv8, hv3⟩ := A8.v
 refine codeT_loop (fun k s => ∃ seen acc2 h', k = L.es.length - seen.length ∧ BothI h1.next h8.next L.es (fun s => both1 (σ1.env.vars s) (σ2.env.vars s)) h8 seen acc2 h' ∧
  s = ⟨upd (upd (upd (upd (upd ρ0 0 (.ptr L2.x 0)) 9 (.map L1.v)) 10 (.map L1.w)) 11 (.map h8.next)) 70 (.itr (h8.next + 1)), m0, 0, [], h'⟩) (i := L.es.length)
  ⟨[], [], _, rfl, ⟨⟨0, ?_⟩, ?_, fun j hj => ?_, ?_, by simp, by simp, by simp, fun _ _ => rfl, by simp⟩, by simp -dsimp -implicitDefEqProofs only [↓STP, STQ, seval] <;> rfl⟩ ?_ mono
 ·rw [new_objs, if_neg (by rw [new_next]; omega), new_objs, if_pos rfl]; rfl
 ·rw [new_objs, new_next, if_pos rfl]
 ·rw [new_objs, new_next, if_neg (by omega), new_objs, if_neg (by omega)]
 ·rw [new_next, new_next]
 rintro k s' ⟨seen, acc2, h', rfl, BI, rfl⟩
 have hvA' : h'.mapAt h1.next = some (mapO vkV L.es, 0) := mapAt_of (by rw [BI.old _ (by omega)]; exact hvA8)
 have inx := BI.nx
 simp -dsimp -implicitDefEqProofs only [↓STP, STQ, seval]
 rw [opT_nxt (i := h8.next + 1) (id := h1.next) (ver := 0) (seen := seen) (es := mapO vkV L.es) rfl BI.i hvA']
 refine ⟨fun hall => ?_, fun j kv vv hj hn => ?_⟩
 rotate_left
 ·obtain ⟨s, r, hjw, rfl, rfl⟩ := mapO_get hj
  have hjl : j < L.es.length := (List.getElem?_eq_some_iff.1 hjw).1
  generalize hh'' : h'.set (h8.next + 1) (.iter h1.next 0 (j :: seen)) = h'' at *
  have i1 : h''.objs (h8.next + 1) = some (.iter h1.next 0 (j :: seen)) := by rw [← hh'', set_objs, if_pos rfl]
  have old'' : ∀ j, j < h8.next → h''.objs j = h8.objs j := fun j hj => by rw [← hh'', set_objs, if_neg (by omega), BI.old j hj]
  have i2 : h''.mapAt h1.next = some (mapO vkV L.es, 0) := mapAt_of (by rw [old'' _ (by omega)]; exact hvA8)
  have g1 : h''.objs L1.v = some (.map (mapO vkV L1.es) ver1) := by rw [old'' _ (by omega)]; exact hv8
  have g2 : h''.objs L3.v = some (.map (mapO vkV L3.es) verv8) := by rw [old'' _ (by omega)]; exact hv3
  have gx'' : h''.get L2.x = some (L3.cs { σ2 with ifs := σ.ifs }) := get_of (by rw [old'' _ (by omega), ← hx3]; exact A8.x)
  obtain ⟨va2, hbo⟩ := BI.m
  have hbo'' : h''.objs h8.next = some (.map (mapO vkV acc2) va2) := by rw [← hh'', set_objs, if_neg (by omega)]; exact hbo
  have nx'' : h''.next = h'.next := by rw [← hh'']; rfl
  have hf0 := BI.unseen A.esn hjw hn
  have e1 := A4.es s
  have e2 := A8.es s
  have dec : L.es.length - (j :: seen).length < L.es.length - seen.length := by
   have := seen_len (n := L.es.length) (l := j :: seen) (List.nodup_cons.2 ⟨hn, BI.sn⟩) (fun i hi => (List.mem_cons.1 hi).elim (fun e => e ▸ hjl) (BI.sl i))
   simp only [List.length_cons] at this ⊢
   omega
  simp -dsimp -implicitDefEqProofs only [↓STP, STQ, seval]
  rw [opT_ent (i := h8.next + 1) (id := h1.next) (ver := 0) (seen := seen) (es := mapO vkV L.es) (j := j) rfl i1 i2 hj]
  have stay : ∀ {f : ByteArray → Option (Int × Nat)}, f = (fun s => both1 (σ1.env.vars s) (σ2.env.vars s)) → f s = none → BothI h1.next h8.next L.es f h8 (j :: seen) acc2 h'' := fun {f} hf hs => by
   subst hf
   refine BI.step A.esn hjw hn ⟨va2, hbo''⟩ i1 (fun i hi => by rw [old'' i hi, BI.old i hi]) nx'' (fun t => ?_) BI.kn
   by_cases c : t = s
   ·rw [if_pos c, c, hf0]; exact hs.symm
   ·rw [if_neg c]
  cases c1 : findL s L1.es with
  | none =>
   rw [c1] at e1
   cases c2 : findL s L3.es with
   | none =>
    rw [c2] at e2
    simp -dsimp -implicitDefEqProofs only [↓STP, STQ, seval, gx'', Lk.cs, lkp_two g1, lkp_two g2, c1, c2, getD_none, getD_some, map_none', map_some', isSome_none', isSome_some', storeV]
    exact ⟨_, dec, j :: seen, acc2, h'', rfl, stay rfl (by show both1 _ _ = none; rw [← e1]; rfl), rfl⟩
   | some r2 =>
    rw [c2] at e2
    simp -dsimp -implicitDefEqProofs only [↓STP, STQ, seval, gx'', Lk.cs, lkp_two g1, lkp_two g2, c1, c2, getD_none, getD_some, map_none', map_some', isSome_none', isSome_some', storeV, vkV, kn_cells]
    exact ⟨_, dec, j :: seen, acc2, h'', rfl, stay rfl (by show both1 _ _ = none; rw [← e1]; rfl), rfl⟩
  | some r1 =>
   rw [c1] at e1
   cases c2 : findL s L3.es with
   | none =>
    rw [c2] at e2
    simp -dsimp -implicitDefEqProofs only [↓STP, STQ, seval, gx'', Lk.cs, lkp_two g1, lkp_two g2, c1, c2, getD_none, getD_some, map_none', map_some', isSome_none', isSome_some', storeV, vkV, kn_cells]
    exact ⟨_, dec, j :: seen, acc2, h'', rfl, stay rfl (by show both1 _ _ = none; rw [← e1, show σ2.env.vars s = none from e2.symm]; rfl), rfl⟩
   | some r2 =>
    rw [c2] at e2
    obtain ⟨k1, w1'⟩ := r1
    obtain ⟨k2, w2'⟩ := r2
    have hb1 : both1 (σ1.env.vars s) (σ2.env.vars s) = if k1 = k2 then some (k1, max w1' w2') else none := by rw [← e1, show σ2.env.vars s = some (k2, w2') from e2.symm]; rfl
    by_cases ck : k1 = k2
    ·rw [if_pos ck] at hb1
     have hmx : (if (w2' : Int) > (w1' : Int) then (w2' : Int) else (w1' : Int)) = ((max w1' w2' : Nat) : Int) := by split <;> omega
     obtain ⟨ver', hup⟩ := mup_ok (f := vkV) (s := s) (v := (k1, max w1' w2')) hbo''
     rw [show vkV (k1, max w1' w2') = V.agg [I k1, I ((max w1' w2' : Nat) : Int), .bool false, .int .u64 0] from rfl] at hup
     simp -dsimp -implicitDefEqProofs only [↓STP, STQ, seval, gx'', Lk.cs, lkp_two g1, lkp_two g2, c1, c2, getD_none, getD_some, map_none', map_some', isSome_none', isSome_some', storeV, vkV, kn_cells, eq_true ck, maxV_two, hmx, hup]
     refine ⟨_, dec, j :: seen, setE s (k1, max w1' w2') acc2, _, rfl, BI.step A.esn hjw hn ⟨ver', by rw [set_objs, if_pos rfl]⟩ (by rw [set_objs, if_neg (by omega)]; exact i1) (fun i hi => by rw [set_objs, if_neg (by omega), old'' i hi, BI.old i hi]) (by rw [set_next]; exact nx'') (fun t => ?_) (nodup_setE BI.kn), rfl⟩
     rw [findL_setE, hb1]
    ·rw [if_neg ck] at hb1
     simp -dsimp -implicitDefEqProofs only [↓STP, STQ, seval, gx'', Lk.cs, lkp_two g1, lkp_two g2, c1, c2, getD_none, getD_some, map_none', map_some', isSome_none', isSome_some', storeV, vkV, kn_cells, eq_false ck]
     exact ⟨_, dec, j :: seen, acc2, h'', rfl, stay rfl hb1, rfl⟩
 have A10 : At p L3 { σ2 with ifs := σ.ifs } h' := A8.frame (by omega) (fun id hi => BI.old id (A8.lt id hi))
 have gx10 : h'.get L2.x = some (L3.cs { σ2 with ifs := σ.ifs }) := by rw [← hx3]; exact get_of A10.x
 have hvars : ∀ s, findL s acc2 = bothV σ.env.vars σ1.env.vars σ2.env.vars s := by
  intro s
  unfold bothV
  have hs := A.es s
  cases hc : σ.env.vars s with
  | none =>
   rw [hc] at hs
   refine BI.no s fun ⟨j, r, _, hj⟩ => ?_
   rw [findL_of_mem A.esn (List.mem_of_getElem? hj)] at hs
   cases hs
  | some q =>
   rw [hc] at hs
   obtain ⟨j, hj⟩ := List.mem_iff_getElem?.1 (findL_mem hs)
   exact BI.yes s ⟨j, q, hall j (by rw [mapO_len]; exact (List.getElem?_eq_some_iff.1 hj).1), hj⟩
 have st10 := fun ρ m n u => storeF (ρ := ρ) (m := m) (n := n) (u := u) (j := 2) (v := .map h8.next) gx10 (by simp [Lk.cs]) rfl rfl
 generalize hh11 : h'.set L2.x (.cells ((L3.cs { σ2 with ifs := σ.ifs }).set 2 (.map h8.next))) = h11 at *
 have nx11 : h11.next = h'.next := by rw [← hh11]; rfl
 have ch11 : Chg h' h11 L3.x := by rw [← hh11, hx3]; exact chg_set
 have A11 := A10.newVars (bo := h8.next) (h' := h11) (es' := acc2) (fun hi => by have := A8.lt _ hi; omega) (by omega) BI.m (by rw [hx3, ← hh11, set_objs, if_pos rfl]; rfl) ch11 hvars BI.kn
 have F11 : Fr L2 { L3 with v := h8.next, es := acc2 } h6 h11 := by
  refine (F7.trans F8).trans ⟨by omega, rfl, fun id hl hn => ?_, fun id hi => ?_⟩
  ·rw [ch11.same id (fun e => hn (by rw [e]; exact L3.x_mem)), BI.old id hl]
  ·simp only [Lk.own, List.cons_append, List.nil_append, List.mem_cons] at hi ⊢
   rcases hi with e | e | e | e | e | e | e
   ·exact .inl (.inl e)
   ·exact .inl (.inr (.inl e))
   ·exact .inl (.inr (.inr (.inl e)))
   ·exact .inr (by omega)
   ·exact .inl (.inr (.inr (.inr (.inr (.inl e)))))
   ·exact .inl (.inr (.inr (.inr (.inr (.inr (.inl e))))))
   ·exact .inl (.inr (.inr (.inr (.inr (.inr (.inr e))))))
 have gx11 : h11.get L2.x = some ((L3.cs { σ2 with ifs := σ.ifs }).set 2 (.map h8.next)) := get_of (by rw [← hh11, set_objs, if_pos rfl])
 obtain ⟨verw3, hw3⟩ := A11.w
 simp only at hw3
 have hwm : h11.mapAt L3.w = some (mapO refV L3.ws, verw3) := mapAt_of hw3
 have hw3l : L3.w < h11.next := by omega
 simp -dsimp -implicitDefEqProofs only [↓STP, STQ, seval, st10, gx11, Lk.cs, List.set_cons_succ, List.set_cons_zero]
 rw [opT_rng (id := L3.w) (ver := verw3) (es := mapO refV L3.ws) rfl hwm]
 simp -dsimp -implicitDefEqProofs only [↓STP, STQ, seval]
 obtain ⟨verw1, hw4⟩ := A4.w
 have hold11 : ∀ id, id < h4.next → id ∉ L2.own → id ≠ L2.x → h11.objs id = h4.objs id := fun id hl hn hne => by
  rw [ch11.same id (by rw [hx3]; exact hne), BI.old id (by omega), old8 id hl hn hne]
 have hw11 : h11.objs L1.w = some (.map (mapO refV L1.ws) verw1) := by rw [hold11 _ (by omega) o2 (fun e => o2 (e ▸ hx2m))]; exact hw4
 have own3 : ∀ r ∈ L3.ws, r.2.1 ∈ L3.own := fun r hr => List.mem_append_right _ (List.mem_map.2 ⟨r, hr, rfl⟩)
 have lt3 : ∀ r ∈ L3.ws, r.2.1 < h7.next := fun r hr => A7.lt _ (own3 r hr)
 have dist3 := Lk.dist A7.nd
 have far : ∀ id, id < h4.next → id ∉ L2.own → ∀ r ∈ L3.ws, r.2.1 ≠ id := fun id hl hn r hr e => by
  rcases F7.own _ (own3 r hr) with hh | hh
  ·exact hn (e ▸ hh)
  ·omega
 refine codeT_loop (fun k s => ∃ seen h', k = L3.ws.length - seen.length ∧ WordI p σ1.env.words σ2.env.words L3.ws L3.w verw3 h11 seen h' ∧
  s = ⟨upd (upd ρ0 10 (.map L1.w)) 119 (.itr h11.next), m0, 0, [], h'⟩) (i := L3.ws.length)
  ⟨[], _, rfl, ⟨?_, fun j hj _ => ?_, ?_, by simp, by simp, by simp, fun j r hj _ => ?_⟩, by simp -dsimp -implicitDefEqProofs only [↓STP, STQ, seval] <;> rfl⟩ ?_ mono
 ·rw [new_objs, if_pos rfl]
 ·rw [new_objs, if_neg (by omega)]
 ·rw [new_next]
 ·obtain ⟨_, _, _, _, _, hc⟩ := A11.wordR hp (r := r) (List.mem_of_getElem? hj)
  rw [new_objs, if_neg (by have := lt3 r (List.mem_of_getElem? hj); omega)]
  exact hc
 rintro k s' ⟨seen2, h12, rfl, WI, rfl⟩
 have hwm12 : h12.mapAt L3.w = some (mapO refV L3.ws, verw3) := mapAt_of (by rw [WI.old _ hw3l (fun r hr e => dist3.2.2.2.2.1.2 (by rw [← e]; exact List.mem_map.2 ⟨r, hr, rfl⟩))]; exact hw3)
 simp -dsimp -implicitDefEqProofs only [↓STP, STQ, seval]
 rw [opT_nxt (i := h11.next) (id := L3.w) (ver := verw3) (seen := seen2) (es := mapO refV L3.ws) rfl WI.i hwm12]
 refine ⟨fun hall2 => ?_, fun j kv vv hj hn => ?_⟩
 ·-- the end
  simp -dsimp -implicitDefEqProofs only [↓STP, STQ, seval]
  have dist4 := Lk.dist A11.nd
  have own4 : ∀ r ∈ L3.ws, r.2.1 ∈ Lk.own { L3 with v := h8.next, es := acc2 } := fun r hr => List.mem_append_right _ (List.mem_map.2 ⟨r, hr, rfl⟩)
  have xl11 := Lk.x_lt A11
  have nws : ∀ {id}, id ∉ L3.ws.map (fun r => r.2.1) → ∀ r ∈ L3.ws, r.2.1 ≠ id := fun hn r hr e => hn (by rw [← e]; exact List.mem_map.2 ⟨r, hr, rfl⟩)
  have A12 := A11.newWords (h' := h12) (words' := maxW σ2.env.words σ1.env.words) (by rw [WI.nx]; omega) (fun id hid => by
   refine WI.old id ?_ ?_
   ·simp only [List.mem_cons, List.not_mem_nil, or_false] at hid
    rcases hid with rfl | rfl | rfl | rfl | rfl | rfl
    ·exact xl11.1
    ·exact xl11.2.1
    ·exact xl11.2.2.1
    ·exact xl11.2.2.2.1
    ·exact xl11.2.2.2.2.1
    ·exact xl11.2.2.2.2.2
   ·simp only [List.mem_cons, List.not_mem_nil, or_false] at hid
    rcases hid with rfl | rfl | rfl | rfl | rfl | rfl
    ·exact nws dist4.1.2.2.2.2.2
    ·exact nws dist4.2.1.2.2.2.2
    ·exact nws dist4.2.2.1.2.2.2
    ·exact nws dist4.2.2.2.1.2.2
    ·exact nws dist4.2.2.2.2.1.2
    ·exact nws dist4.2.2.2.2.2.1) (fun i d hd => by
   obtain ⟨id, q1, q2, q3⟩ := A11.wordOf hp hd
   obtain ⟨id1, q4, q5, q6⟩ := A4.wordOf hp hd
   simp only at q1 q2 q3
   obtain ⟨j, hj⟩ := List.mem_iff_getElem?.1 (findL_mem q2)
   have hy := WI.yes j _ hj (hall2 j (by rw [mapO_len]; exact (List.getElem?_eq_some_iff.1 hj).1))
   simp only at hy
   have l1 := cw_len hp kp1.ok.env hd
   have l2 := cw_len hp kp2.ok.env hd
   refine ⟨id, List.zipWith max (cw p σ2.env.words d.name) (cw p σ1.env.words d.name), ?_, ?_, hy⟩
   ·unfold maxW
    rw [List.getElem?_zipWith, q1, q4]
   ·rw [List.length_zipWith, show min (cw p σ2.env.words d.name).length (cw p σ1.env.words d.name).length = (cw p σ2.env.words d.name).length by omega]
    exact q2)
  have F12 : Fr { L3 with v := h8.next, es := acc2 } { L3 with v := h8.next, es := acc2 } h11 h12 :=
   ⟨by rw [WI.nx]; omega, rfl, fun id hl hn => WI.old id hl (fun r hr e => hn (e ▸ own4 r hr)), fun id hi => .inl hi⟩
  have hl2 : σ2.env.loops = σ.env.loops := kp2.loops
  refine hK _ _ ?_ (F6.trans (F11.trans F12))
  have A12' : At p { L3 with v := h8.next, es := acc2 } { σ2 with ifs := σ.ifs, env := { vars := bothV σ.env.vars σ1.env.vars σ2.env.vars, loops := σ2.env.loops, words := maxW σ2.env.words σ1.env.words } } h12 := A12
  rw [hl2] at A12'
  exact A12'
 ·obtain ⟨s, ⟨id, len⟩, hjw, rfl, rfl⟩ := mapO_get hj
  have hr : (s, id, len) ∈ L3.ws := List.mem_of_getElem? hjw
  have hjl : j < L3.ws.length := (List.getElem?_eq_some_iff.1 hjw).1
  obtain ⟨i0, d, hd, hnm, hlen, hc11⟩ := A11.wordR hp (r := (s, id, len)) hr
  simp only at hnm hlen hc11
  obtain ⟨id1, q4, q5, q6⟩ := A4.wordOf hp hd
  have l1 := cw_len hp kp1.ok.env hd
  have l2 := cw_len hp kp2.ok.env hd
  have hds := hp.ars d (List.mem_of_getElem? hd)
  rw [hnm] at q4 q5 q6 l1 l2
  have hcur := WI.no j _ hjw hn
  simp only at hcur
  generalize hav : cw p σ2.env.words s = av at *
  generalize hbv : cw p σ1.env.words s = bv at *
  have hab : av.length = bv.length := by omega
  have hid1 : id1 < h4.next ∧ id1 ∉ L2.own := ⟨A4.lt _ (A4.ws_own q5).1, o3 _ (findL_mem q5)⟩
  have ne1 : id ≠ id1 := far id1 hid1.1 hid1.2 _ hr
  have ne2 : id ≠ L1.w := far L1.w (by omega) o2 _ hr
  have id1' : h12.objs id1 = some (.cells (natVs bv)) := by
   rw [WI.old id1 (by omega) (far id1 hid1.1 hid1.2), hold11 id1 hid1.1 hid1.2 (fun e => hid1.2 (e ▸ hx2m))]; exact q6
  have w1' : h12.objs L1.w = some (.map (mapO refV L1.ws) verw1) := by rw [WI.old L1.w (by omega) (far L1.w (by omega) o2)]; exact hw11
  have hidl := lt3 _ hr
  simp only at hidl
  generalize hh13 : h12.set h11.next (.iter L3.w verw3 (j :: seen2)) = h13 at *
  have i13 : h13.objs h11.next = some (.iter L3.w verw3 (j :: seen2)) := by rw [← hh13, set_objs, if_pos rfl]
  have old13 : ∀ j, j ≠ h11.next → h13.objs j = h12.objs j := fun j hj => by rw [← hh13, set_objs, if_neg hj]
  have m13 : h13.mapAt L3.w = some (mapO refV L3.ws, verw3) := by
   have := old13 L3.w (by omega)
   unfold H.mapAt at hwm12 ⊢
   rw [this]; exact hwm12
  have c13 : h13.objs id = some (.cells (natVs av)) := by rw [old13 _ (by omega)]; exact hcur
  simp -dsimp -implicitDefEqProofs only [↓STP, STQ, seval]
  rw [opT_ent (i := h11.next) (id := L3.w) (ver := verw3) (seen := seen2) (es := mapO refV L3.ws) (j := j) rfl i13 m13 hj]
  simp -dsimp -implicitDefEqProofs only [↓STP, STQ, seval, refV]
  refine codeT_for (N := len) (fun i => ⟨upd (upd (upd (upd (upd (upd ρ0 10 (.map L1.w)) 17 (.str s)) 18 (.ref id 0 len 1)) 119 (.itr h11.next)) 126 (I len)) 127 (I i), m0, 0, [], h13.set id (.cells (natVs (half av bv i)))⟩) (fun _ => True)
   (by rw [half_zero, H.set_same c13]; simp -dsimp -implicitDefEqProofs only [↓STP, STQ, seval] <;> rfl) trivial (fun i hi _ => ?_) (fun _ => ?_) mono
  ·have hia : i < av.length := by omega
   have gi : (h13.set id (.cells (natVs (half av bv i)))).get id = some (natVs (half av bv i)) := get_set
   have g1 : (h13.set id (.cells (natVs (half av bv i)))).get id1 = some (natVs bv) := get_of (by rw [set_objs, if_neg ne1.symm, old13 _ (by omega)]; exact id1')
   have gw : (h13.set id (.cells (natVs (half av bv i)))).objs L1.w = some (.map (mapO refV L1.ws) verw1) := by rw [set_objs, if_neg ne2.symm, old13 _ (by omega)]; exact w1'
   have hl0 : ((i : Nat) : Int) < ((len : Nat) : Int) := by omega
   have hl1 : ((i : Nat) : Int) < ((bv.length : Nat) : Int) := by omega
   have t1 := nat_vs_get (ws := half av bv i) (n := i) (by rw [half_len hab (by omega)]; exact hia)
   rw [half_get hab hia] at t1
   have t2 := nat_vs_get (ws := bv) (n := i) (by omega)
   have wI := wiM (show i < 9223372036854775807 by omega)
   have hmx : (if ((bv.getD i 0 : Nat) : Int) > ((av.getD i 0 : Nat) : Int) then ((bv.getD i 0 : Nat) : Int) else ((av.getD i 0 : Nat) : Int)) = ((max (av.getD i 0) (bv.getD i 0) : Nat) : Int) := by split <;> omega
   have stw := fun ρ m n u => storeF (ρ := ρ) (m := m) (n := n) (u := u) (j := i) (v := I ((max (av.getD i 0) (bv.getD i 0) : Nat) : Int)) gi (by rw [natVs_len, half_len hab (by omega)]; exact hia) rfl rfl
   rw [set_set', nat_vs_set, half_set hab hia] at stw
   simp -dsimp -implicitDefEqProofs only [↓STP, STQ, seval, eq_true hl0, gi, t1, lkp_one gw, q5, map_some', getD_some, refV, eq_true hl1, g1, t2, maxV_two, hmx, stw, wI, Nat.mul_one]
  ·simp -dsimp -implicitDefEqProofs only [↓STP, STQ, seval, Int.lt_irrefl]
   have hfin : half av bv len = List.zipWith max av bv := by rw [hlen, half_all hab]
   rw [hfin]
   have dec : L3.ws.length - (j :: seen2).length < L3.ws.length - seen2.length := by
    have := seen_len (n := L3.ws.length) (l := j :: seen2) (List.nodup_cons.2 ⟨hn, WI.sn⟩) (fun i hi => (List.mem_cons.1 hi).elim (fun e => e ▸ hjl) (WI.sl i))
    simp only [List.length_cons] at this ⊢
    omega
   have inj : ∀ (i : Nat) (r : ByteArray × Nat × Nat), L3.ws[i]? = some r → r.2.1 = id → i = j := fun i r hi e => map_inj (f := fun r : ByteArray × Nat × Nat => r.2.1) dist3.2.2.2.2.2.2 hi hjw e
   refine ⟨_, dec, j :: seen2, _, rfl, ⟨?_, fun i hi hne => ?_, ?_, List.nodup_cons.2 ⟨hn, WI.sn⟩, fun i hi => (List.mem_cons.1 hi).elim (fun e => e ▸ hjl) (WI.sl i), fun i r hi hs => ?_, fun i r hi hs => ?_⟩, rfl⟩
   ·rw [set_objs, if_neg (by omega)]; exact i13
   ·rw [set_objs, if_neg (fun e => hne _ hr e.symm), old13 i (by omega)]
    exact WI.old i hi hne
   ·rw [set_next, ← hh13, set_next]; exact WI.nx
   ·by_cases c : i = j
    ·subst c
     rw [hjw] at hi; cases hi
     rw [set_objs, if_pos rfl, hav, hbv]
    ·have hne : r.2.1 ≠ id := fun e => c (inj i r hi e)
     have hlt := lt3 r (List.mem_of_getElem? hi)
     rw [set_objs, if_neg hne, old13 _ (by omega)]
     exact WI.yes i r hi ((List.mem_cons.1 hs).resolve_left c)
   ·have c : i ≠ j := fun e => hs (e ▸ List.mem_cons_self)
    have hne : r.2.1 ≠ id := fun e => c (inj i r hi e)
    have hlt := lt3 r (List.mem_of_getElem? hi)
    rw [set_objs, if_neg hne, old13 _ (by omega)]
    exact WI.no i r hi (fun h => hs (List.mem_cons_of_mem _ h))
end
end YtihmoaibgmhjeaaDoor
end Go.Ab
