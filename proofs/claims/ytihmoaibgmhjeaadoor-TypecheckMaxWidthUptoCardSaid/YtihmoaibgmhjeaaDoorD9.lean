import Derived.Test.YtihmoaibgmhjeaaDoorD8
set_option linter.unusedVariables false
set_option linter.unusedSimpArgs false
namespace Go.Ab
structure Chg (h h' : H) (id : Nat) : Prop where
 next : h'.next = h.next
 same : ∀ j, j ≠ id → h'.objs j = h.objs j
theorem chg_set {h : H} {id : Nat} {o : O} : Chg h (h.set id o) id := ⟨rfl, fun j hj => by rw [set_objs, if_neg hj]⟩
theorem Lk.dist {L : Lk} (h : L.own.Nodup) : (L.x ≠ L.i ∧ L.x ≠ L.s ∧ L.x ≠ L.v ∧ L.x ≠ L.w ∧ L.x ≠ L.l ∧ L.x ∉ L.ws.map fun r => r.2.1) ∧
  (L.i ≠ L.s ∧ L.i ≠ L.v ∧ L.i ≠ L.w ∧ L.i ≠ L.l ∧ L.i ∉ L.ws.map fun r => r.2.1) ∧ (L.s ≠ L.v ∧ L.s ≠ L.w ∧ L.s ≠ L.l ∧ L.s ∉ L.ws.map fun r => r.2.1) ∧
  (L.v ≠ L.w ∧ L.v ≠ L.l ∧ L.v ∉ L.ws.map fun r => r.2.1) ∧ (L.w ≠ L.l ∧ L.w ∉ L.ws.map fun r => r.2.1) ∧ L.l ∉ (L.ws.map fun r => r.2.1) ∧ (L.ws.map fun r => r.2.1).Nodup := by
 simpa only [Lk.own, List.cons_append, List.nil_append, List.nodup_cons, List.mem_cons, not_or, ne_eq, and_assoc] using h
theorem Chg.fr {L L' : Lk} {h h' : H} {id : Nat} (c : Chg h h' id) (hi : id ∈ L.own) (hx : L'.x = L.x) (ho : ∀ j ∈ L'.own, j ∈ L.own) : Fr L L' h h' :=
 ⟨Nat.le_of_eq c.next.symm, hx, fun j _ hj => c.same j (fun e => hj (e ▸ hi)), fun j hj => .inl (ho j hj)⟩
theorem id_mem {L : Lk} {s : ByteArray} {id n : Nat} (h : findL s L.ws = some (id, n)) : id ∈ L.ws.map fun r => r.2.1 := List.mem_map.2 ⟨_, findL_mem h, rfl⟩
theorem At.setVars {p : Prg} {L : Lk} {σ : TS} {h h' : H} (A : At p L σ h) (c : Chg h h' L.v) {es' : List (ByteArray × Int × Nat)} {vars' : ByteArray → Option (Int × Nat)} (ho : ∃ ver, h'.objs L.v = some (.map (mapO vkV es') ver))
  (hf : ∀ s, findL s es' = vars' s) (hn : (es'.map (·.1)).Nodup) : At p { L with es := es' } { σ with env := { σ.env with vars := vars' } } h' ∧ Fr L { L with es := es' } h h' := by
 obtain ⟨⟨xi, xs, xv, xw, xl, xn⟩, ⟨is, iv, iw, il, in_⟩, ⟨sv, sw, sl, sn⟩, ⟨vw, vl, vn⟩, ⟨wl, wn⟩, ln, wnd⟩ := Lk.dist A.nd
 refine ⟨⟨?_, ?_, ?_, ho, ?_, ?_, hf, hn, fun i d hd => ?_, A.wsn, A.wk, A.nd, fun id hi => by rw [c.next]; exact A.lt id hi⟩, c.fr (by simp [Lk.own]) rfl (fun j hj => hj)⟩
 ·show h'.objs L.x = _; rw [c.same _ xv]; exact A.x
 ·show ∃ ver, h'.objs L.i = _; rw [c.same _ iv]; exact A.i
 ·show ∃ ver, h'.objs L.s = _; rw [c.same _ sv]; exact A.s
 ·show ∃ ver, h'.objs L.w = _; rw [c.same _ vw.symm]; exact A.w
 ·show ∃ ver, h'.objs L.l = _; rw [c.same _ vl.symm]; exact A.l
 ·obtain ⟨id, ws, a, b, e⟩ := A.ws i d hd
  exact ⟨id, ws, a, b, by rw [c.same _ (fun q => vn (q ▸ id_mem b))]; exact e⟩
theorem At.setLoops {p : Prg} {L : Lk} {σ : TS} {h h' : H} (A : At p L σ h) (c : Chg h h' L.l) {loops' : List (ByteArray × Nat)} (ho : ∃ ver, h'.objs L.l = some (.map (mapO conV loops') ver)) :
  At p L { σ with env := { σ.env with loops := loops' } } h' ∧ Fr L L h h' := by
 obtain ⟨⟨xi, xs, xv, xw, xl, xn⟩, ⟨is, iv, iw, il, in_⟩, ⟨sv, sw, sl, sn⟩, ⟨vw, vl, vn⟩, ⟨wl, wn⟩, ln, wnd⟩ := Lk.dist A.nd
 refine ⟨⟨?_, ?_, ?_, ?_, ?_, ho, A.es, A.esn, fun i d hd => ?_, A.wsn, A.wk, A.nd, fun id hi => by rw [c.next]; exact A.lt id hi⟩, c.fr (by simp [Lk.own]) rfl (fun j hj => hj)⟩
 ·show h'.objs L.x = _; rw [c.same _ xl]; exact A.x
 ·show ∃ ver, h'.objs L.i = _; rw [c.same _ il]; exact A.i
 ·show ∃ ver, h'.objs L.s = _; rw [c.same _ sl]; exact A.s
 ·show ∃ ver, h'.objs L.v = _; rw [c.same _ vl]; exact A.v
 ·show ∃ ver, h'.objs L.w = _; rw [c.same _ wl]; exact A.w
 ·obtain ⟨id, ws, a, b, e⟩ := A.ws i d hd
  exact ⟨id, ws, a, b, by rw [c.same _ (fun q => ln (q ▸ id_mem b))]; exact e⟩
theorem arOf_name {p : Prg} (hp : PV p) {i : Nat} {d : ArD} (hd : p.arrays[i]? = some d) : arOf p d.name = some i := by
 unfold arOf
 have hn := (List.nodup_append.1 hp.nm).2.1
 obtain ⟨hi, rfl⟩ := List.getElem?_eq_some_iff.1 hd
 refine List.findIdx?_eq_some_iff_getElem.2 ⟨hi, decide_eq_true rfl, fun j hj => ?_⟩
 intro e
 have e := of_decide_eq_true e
 have : j = i := map_inj hn (List.getElem?_eq_getElem (by omega)) (List.getElem?_eq_getElem hi) e
 omega
theorem At.setWord {p : Prg} {L : Lk} {σ : TS} {h : H} (hp : PV p) (A : At p L σ h) {s : ByteArray} {i n w id : Nat} {ws : List Nat} (hi : arOf p s = some i) (hws : σ.env.words[i]? = some ws) (hf : findL s L.ws = some (id, ws.length)) :
  At p L { σ with env := { σ.env with words := setW σ.env.words i n w } } (h.set id (.cells (natVs (ws.set n w)))) ∧ Fr L L h (h.set id (.cells (natVs (ws.set n w)))) := by
 have c : Chg h (h.set id (.cells (natVs (ws.set n w)))) id := chg_set
 have hm := id_mem hf
 obtain ⟨q1, q2, q3, q4, q5, q6, q7⟩ := A.ws_own hf
 refine ⟨⟨?_, ?_, ?_, ?_, ?_, ?_, A.es, A.esn, fun j d hd => ?_, A.wsn, A.wk, A.nd, A.lt⟩, c.fr q1 rfl (fun j hj => hj)⟩
 ·rw [c.same _ q2.symm]; exact A.x
 ·rw [c.same _ q3.symm]; exact A.i
 ·rw [c.same _ q4.symm]; exact A.s
 ·rw [c.same _ q5.symm]; exact A.v
 ·rw [c.same _ q6.symm]; exact A.w
 ·rw [c.same _ q7.symm]; exact A.l
 ·obtain ⟨id', ws', a, b, e⟩ := A.ws j d hd
  have hj := arOf_name hp hd
  show ∃ id ws_1, (setW σ.env.words i n w)[j]? = some ws_1 ∧ _
  rw [setW_get]
  by_cases hji : j = i
  ·subst hji
   obtain ⟨d', hd', hn', _⟩ := arOf_some hi
   rw [hd] at hd'; cases hd'
   rw [hn'] at b
   rw [hws] at a; cases a
   rw [hf] at b
   obtain ⟨rfl, _⟩ : id = id' ∧ ws.length = ws.length := by simpa using b
   refine ⟨id, ws.set n w, by rw [if_pos rfl, hws]; rfl, by rw [hn', hf, List.length_set], by rw [set_objs, if_pos rfl]⟩
  ·rw [if_neg hji]
   refine ⟨id', ws', a, b, ?_⟩
   rw [c.same _ (fun q => ?_)]
   ·exact e
   ·subst q
    have hnd := (Lk.dist A.nd).2.2.2.2.2.2
    have e1 := findL_mem hf
    have e2 := findL_mem b
    have : (s, id', ws.length) = (d.name, id', ws'.length) := by
     have inj : ∀ {l : List (ByteArray × Nat × Nat)}, (l.map fun r => r.2.1).Nodup → ∀ a ∈ l, ∀ b ∈ l, a.2.1 = b.2.1 → a = b := by
      intro l
      induction l with
      | nil => intro _ a ha; cases ha
      | cons x xs ih =>
       intro hn a ha b hb hab
       have hn' := List.nodup_cons.1 (by simpa using hn : (x.2.1 :: xs.map fun r => r.2.1).Nodup)
       rcases List.mem_cons.1 ha with rfl | ha1 <;> rcases List.mem_cons.1 hb with rfl | hb1
       ·rfl
       ·exact absurd (show a.2.1 ∈ xs.map fun r => r.2.1 from List.mem_map.2 ⟨b, hb1, hab.symm⟩) hn'.1
       ·exact absurd (show b.2.1 ∈ xs.map fun r => r.2.1 from List.mem_map.2 ⟨a, ha1, hab⟩) hn'.1
       ·exact ih hn'.2 a ha1 b hb1 hab
     exact inj hnd _ e1 _ e2 rfl
    have hs : s = d.name := congrArg Prod.fst this
    rw [hs] at hi
    rw [hi] at hj
    exact hji (Option.some.inj hj).symm
end Go.Ab
