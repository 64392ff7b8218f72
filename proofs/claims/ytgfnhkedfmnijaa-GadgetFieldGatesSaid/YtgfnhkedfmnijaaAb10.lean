/- How the relation between a running function of the layer Ab and the model's frame is kept by what changes the store: blocks written, objects made, moved and dropped, rights to append, calls. -/
import Derived.Test.YtgfnhkedfmnijaaAb9
set_option linter.unusedVariables false
set_option linter.unusedSimpArgs false
namespace Go.Ab

/-- One block has changed, and nothing else. -/
structure Change (w w' : World) (b : Nat) : Prop where
  size : w'.heap.size = w.heap.size
  other : ∀ (b' : Nat), b' ≠ b → w'.heap[b']? = w.heap[b']?
  misc : w'.tape = w.tape ∧ w'.os = w.os ∧ w'.output = w.output

theorem Change.refl (w : World) (b : Nat) : Change w w b := ⟨rfl, fun _ _ => rfl, rfl, rfl, rfl⟩
theorem Change.trans {w w' w'' : World} {b : Nat} (x : Change w w' b) (y : Change w' w'' b) : Change w w'' b :=
  ⟨y.size.trans x.size, fun b' h => (y.other b' h).trans (x.other b' h), y.misc.1.trans x.misc.1, y.misc.2.1.trans x.misc.2.1, y.misc.2.2.trans x.misc.2.2⟩

theorem cell_other {w w' : World} {b : Nat} (h : Change w w' b) {a : Addr} (ha : a.block ≠ b) : w'.cell? a = w.cell? a := by
  simp only [World.cell?, h.other _ ha]

section run
variable {P : Program}

theorem setCell_change (w : World) (b off : Nat) (v : Value) : Change w (w.setCell ⟨b, off, none⟩ v) b :=
  ⟨by simp, fun b' h => by simp [World.setCell, Array.getElem?_modify, Ne.symm h], rfl, rfl, rfl⟩

theorem setCell_heap {w : World} {b off : Nat} {v : Value} {c : Array Value} {e : TypeId} (h : w.heap[b]? = some (.cells c e (0, 0))) :
    (w.setCell ⟨b, off, none⟩ v).heap[b]? = some (.cells (c.setIfInBounds off v) e (0, 0)) := by
  simp [World.setCell, Array.getElem?_modify, h]

theorem run_storeCells : ∀ (vs : List Value) (w : World) (b off i : Nat) (c : Array Value) (e : TypeId), w.heap[b]? = some (.cells c e (0, 0)) → off + i + vs.length ≤ c.size →
    (∀ v ∈ vs, v.oneCell' = true) → ∃ w', (storeCells ⟨b, off, none⟩ vs i).run P w = .ok () w' ∧ Change w w' b ∧ ∃ c', w'.heap[b]? = some (.cells c' e (0, 0)) ∧ c'.size = c.size ∧
      ∀ (j : Nat), c'[j]? = if off + i ≤ j ∧ j < off + i + vs.length then vs[j - (off + i)]? else c[j]?
  | [], w, b, off, i, c, e, h, _, _ => ⟨w, by simp [storeCells], .refl _ _, c, h, rfl, fun j => by rw [if_neg (by simp only [List.length_nil]; omega)]⟩
  | v :: vs, w, b, off, i, c, e, h, hle, hv => by
    simp only [List.length_cons] at hle
    have h1 := setCell_heap (off := off + i) (v := v) h
    obtain ⟨w', r1, r2, c', r3, r4, r5⟩ := run_storeCells vs (w.setCell ⟨b, off + i, none⟩ v) b off (i + 1) _ e h1 (by simp; omega) (fun x hx => hv x (List.mem_cons_of_mem _ hx))
    refine ⟨w', ?_, (setCell_change w b (off + i) v).trans r2, c', r3, by simpa using r4, fun j => ?_⟩
    · have hc : w.cell? ⟨b, off + i, none⟩ = some c[off + i] := by rw [cell_of_heap h, Array.getElem?_eq_getElem (by omega)]
      have hf : w.frozen? ⟨b, off + i, none⟩ = false := by simp [World.frozen?, h]
      simp only [storeCells, addr_mk, Sem.run_bind, run_store P w _ _ _ (hv v (by simp)), hc, hf, Bool.false_eq_true, if_false, Result.andThen_ok]
      exact r1
    · rw [r5]
      simp only [List.length_cons, Array.getElem?_setIfInBounds]
      by_cases hj : off + i = j
      · subst hj
        rw [if_neg (by omega), if_pos rfl, if_pos (by omega), if_pos (by omega)]
        simp
      · rw [if_neg hj]
        by_cases hin : off + i ≤ j ∧ j < off + i + (vs.length + 1)
        · rw [if_pos hin, if_pos (by omega)]
          have : j - (off + i) = (j - (off + (i + 1))) + 1 := by omega
          rw [this, List.getElem?_cons_succ]
        · rw [if_neg hin, if_neg (by omega)]
end run

section
variable {G : List (Nat × List V)} {N : Nat} {e : Entry} {k : Ctx} {β : Nat → Nat} {A : Nat → Prop} {st : S} {a : Act} {w : World} {P : Program} {u : List Nat} {hs : Hints}

theorem Keeps.change {w' : World} {b : Nat} (hc : Change w w' b) (h0 : k.lim b = 0) (hrow : ∀ (c : Array Value) (e : TypeId), w.heap[b]? = some (.cells c e (0, 0)) → ∃ c', w'.heap[b]? = some (.cells c' e (0, 0)) ∧ c'.size = c.size) :
    Keeps k k w w' where
  nx := Nat.le_refl _
  om _ _ := rfl
  lim _ _ := Nat.le_refl _
  size := by rw [hc.size]; exact Nat.le_refl _
  cell ad v h hl := by
    by_cases hb : ad.block = b
    · rw [hb, h0] at hl; omega
    · rw [cell_other hc hb]; exact h
  rows b' c e h := by
    by_cases hb : b' = b
    · subst hb; exact hrow c e h
    · exact ⟨c, by rw [hc.other b' hb]; exact h, rfl⟩

/-- A block that is nobody's, written. -/
theorem FW.changeFree (h : FW G N e k β A st a w) {w' : World} {b : Nat} (hc : Change w w' b) (h0 : k.lim b = 0) (hrow : ∀ (c : Array Value) (e : TypeId), w.heap[b]? = some (.cells c e (0, 0)) → ∃ c', w'.heap[b]? = some (.cells c' e (0, 0)) ∧ c'.size = c.size)
    (hobj : ∀ id o, st.h.objs id = some o → k.ω id ≠ b) (hβ : ∀ s, A s → β s ≠ b) (hb : b < e.w.heap.size → ∃ id0 o0, e.h.objs id0 = some o0 ∧ e.k.ω id0 = b) :
    FW G N e k β A st a w' := by
  have hk : Keeps k k w w' := Keeps.change hc h0 hrow
  have hst : Stays k k w w' β β A A st.u st.u := Stays.of hk (fun _ _ => rfl)
  refine ⟨fun t => (h.slot t).mono hst, h.size, h.defers, fun s cs hm => ?_, fun s hs => ?_, h.ainj, h.res, ⟨h.wr.nx, fun id o' ho => ?_, h.wr.inj, fun g cells hg => (h.wr.glob g cells hg).mono hk⟩, ?_⟩
  · obtain ⟨h1, h2, c, e', h3, h4, h5⟩ := h.mem s cs hm
    exact ⟨h1, h2, c, e', by rw [hc.other _ (hβ s h1)]; exact h3, h4, fun j v hj => let ⟨x, p, q, r⟩ := h5 j v hj; ⟨x, p, q.mono hst, r⟩⟩
  · obtain ⟨h1, h2, h3, h4⟩ := h.alloc s hs
    exact ⟨h1, h2, by rw [hc.size]; exact h3, h4⟩
  · obtain ⟨h1, h2, h3, h4⟩ := h.wr.obj id o' ho
    refine ⟨h1, by rw [hc.size]; exact h2, h3, ?_⟩
    rw [hc.other _ (hobj id o' ho)]
    exact h4.mono hk (fun m es ver hm ho' => hc.other _ (hobj m _ ho'))
  · refine h.old.trans hk (fun _ _ => rfl) (fun b' hb' hn => hc.other b' (fun heq => ?_)) (fun id o' ho _ => ⟨id, o', ho, rfl⟩) hc.misc
    subst heq
    obtain ⟨id0, o0, h1, h2⟩ := hb hb'
    exact hn id0 o0 h1 h2

/-- An object is dropped: its block is nobody's. -/
theorem FW.dropObj (h : FW G N e k β A st a w) (id : Nat) : FW G N e k β A (st.withH ⟨upd st.h.objs id none, st.h.next⟩) a w := by
  have hlive : ∀ {id' o}, upd st.h.objs id none id' = some o → id' ≠ id ∧ st.h.objs id' = some o := by
    intro id' o ho
    unfold upd at ho
    split at ho
    · simp at ho
    · exact ⟨by assumption, ho⟩
  refine ⟨h.slot, h.size, h.defers, h.mem, fun s hs => ?_, h.ainj, h.res, ⟨h.wr.nx, fun id' o' ho => ?_, fun i j o o' hi hj => ?_, h.wr.glob⟩, ⟨h.old.keeps, h.old.lim, h.old.same, fun id' o' ho hb => ?_, h.old.misc⟩⟩
  · obtain ⟨h1, h2, h3, h4⟩ := h.alloc s hs
    exact ⟨h1, h2, h3, fun id' o ho => h4 id' o (hlive ho).2⟩
  · obtain ⟨h1, h2, h3, h4⟩ := h.wr.obj id' o' (hlive ho).2
    refine ⟨h1, h2, h3, ?_⟩
    cases o' with
    | cells cs => exact h4
    | map es ver => exact h4
    | iter m ver seen =>
      obtain ⟨since, sb, stepped, p, q, r⟩ := h4
      exact ⟨since, sb, stepped, p, q, fun es ver' en clock ho hw => r es ver' en clock (hlive ho).2 hw⟩
  · exact h.wr.inj i j o o' (hlive hi).2 (hlive hj).2
  · exact h.old.src id' o' (hlive ho).2 hb

def Ctx.reg (k : Ctx) (b : Nat) : Ctx := { k with ω := upd k.ω k.nx b, nx := k.nx + 1 }

theorem Keeps.reg (k : Ctx) (b : Nat) (w : World) : Keeps k (k.reg b) w w where
  nx := Nat.le_succ _
  om id h := by simp [Ctx.reg, upd_ne _ _ (Nat.ne_of_lt h)]
  lim _ _ := Nat.le_refl _
  size := Nat.le_refl _
  cell _ _ h _ := h
  rows b c e h := ⟨c, h, rfl⟩

/-- A block that is nobody's becomes an object's. -/
theorem FW.regObj (h : FW G N e k β A st a w) {b : Nat} {o : O} (hlt : b < w.heap.size) (h0 : k.lim b = 0) (hobj : ∀ id o, st.h.objs id = some o → k.ω id ≠ b) (hβ : ∀ s, A s → β s ≠ b)
    (hb : b < e.w.heap.size → ∃ id0 o0, e.h.objs id0 = some o0 ∧ e.k.ω id0 = b) (hr : ORel (k.reg b) w (st.h.new o) o w.heap[b]?) :
    FW G N e (k.reg b) β A (st.withH (st.h.new o)) a w := by
  have hk := Keeps.reg k b w
  have hnx : k.nx = st.h.next := h.wr.nx
  have hst : Stays k (k.reg b) w w β β A A st.u st.u := Stays.of hk (fun _ _ => rfl)
  have hcase : ∀ {id o'}, (st.h.new o).objs id = some o' → (id = k.nx ∧ o' = o ∧ (k.reg b).ω id = b) ∨ (id ≠ k.nx ∧ st.h.objs id = some o' ∧ (k.reg b).ω id = k.ω id ∧ id < k.nx) := by
    intro id o' ho
    simp only [H.new, upd] at ho
    split at ho
    · rename_i heq
      simp only [Option.some.injEq] at ho
      exact .inl ⟨by omega, ho.symm, by simp [Ctx.reg, upd, heq, hnx]⟩
    · rename_i hne
      have := (h.wr.obj id o' ho).1
      exact .inr ⟨by omega, ho, by simp [Ctx.reg, upd]; omega, by omega⟩
  refine ⟨fun t => (h.slot t).mono hst, h.size, h.defers, fun s cs hm => ?_, fun s hs => ?_, h.ainj, h.res, ⟨by simp [Ctx.reg, H.new, S.withH, hnx], fun id o' ho => ?_, fun i j p q hi hj heq => ?_, fun g cells hg => (h.wr.glob g cells hg).mono hk⟩, ?_⟩
  · obtain ⟨h1, h2, c, e', h3, h4, h5⟩ := h.mem s cs hm
    exact ⟨h1, h2, c, e', h3, h4, fun j v hj => let ⟨x, p, q, r⟩ := h5 j v hj; ⟨x, p, q.mono hst, r⟩⟩
  · obtain ⟨h1, h2, h3, h4⟩ := h.alloc s hs
    refine ⟨h1, h2, h3, fun id o' ho => ?_⟩
    rcases hcase ho with ⟨_, _, h7⟩ | ⟨_, h6, h7, _⟩
    · rw [h7]; exact (hβ s hs).symm
    · rw [h7]; exact h4 id o' h6
  · rcases hcase ho with ⟨h5, h6, h7⟩ | ⟨h5, h6, h7, h8⟩
    · rw [h7, h6]
      exact ⟨by show id < st.h.next + 1; omega, hlt, h0, hr⟩
    · obtain ⟨h1, h2, h3, h4⟩ := h.wr.obj id o' h6
      rw [h7]
      refine ⟨by show id < st.h.next + 1; omega, h2, h3, ?_⟩
      have h4' := h4.mono hk (fun m es ver hm ho' => rfl)
      cases o' with
      | cells cs => exact h4'
      | map es ver => exact h4'
      | iter m ver seen =>
        obtain ⟨since, sb, stepped, p, q, r⟩ := h4
        refine ⟨since, sb, stepped, by rw [show (k.reg b).ω m = k.ω m from hk.om m q]; exact p, Nat.lt_succ_of_lt q, fun es ver' en clock ho2 hw => ?_⟩
        rw [show (k.reg b).ω m = k.ω m from hk.om m q] at hw
        rcases hcase ho2 with ⟨h9, _, _⟩ | ⟨_, h9, _, _⟩
        · omega
        · exact r es ver' en clock h9 hw
  · rcases hcase hi with ⟨h1, _, h2⟩ | ⟨h1, h3, h2, _⟩ <;> rcases hcase hj with ⟨h1', _, h2'⟩ | ⟨h1', h3', h2', _⟩
    · omega
    · rw [h2, h2'] at heq; exact absurd heq.symm (hobj j q h3')
    · rw [h2, h2'] at heq; exact absurd heq (hobj i p h3)
    · rw [h2, h2'] at heq; exact h.wr.inj i j p q h3 h3' heq
  · refine ⟨h.old.keeps.trans hk, h.old.lim, h.old.same, fun id o' ho hlb => ?_, h.old.misc⟩
    rcases hcase ho with ⟨_, _, h7⟩ | ⟨_, h6, h7, _⟩
    · rw [h7] at hlb ⊢; exact hb hlb
    · rw [h7] at hlb ⊢; exact h.old.src id o' h6 hlb

/-- A new object in a new block. -/
theorem FW.newObj (h : FW G N e k β A st a w) {o : O} {ob : Obj} (hr : ORel ((k.setLim w.heap.size 0).reg w.heap.size) (w.alloc ob) (st.h.new o) o (some ob)) :
    FW G N e ((k.setLim w.heap.size 0).reg w.heap.size) β A (st.withH (st.h.new o)) a (w.alloc ob) := by
  have h1 := h.alloc' ob 0
  refine h1.regObj (by simp) (by simp [Ctx.setLim, upd_same]) (fun id o' ho => ?_) (fun s hs => ?_) (fun hlt => ?_) (by rw [heap_alloc_new]; exact hr)
  · exact Nat.ne_of_lt (h.wr.obj id o' ho).2.1
  · exact Nat.ne_of_lt (h.alloc s hs).2.2.1
  · exact absurd hlt (Nat.not_lt.2 h.old.keeps.size)

/-- An object's block and its content are changed together. -/
theorem FW.setObj (h : FW G N e k β A st a w) {id : Nat} {o o' : O} {w' : World} (hlive : st.h.objs id = some o) (hc : Change w w' (k.ω id))
    (hrow : ∀ (c : Array Value) (e : TypeId), w.heap[k.ω id]? = some (.cells c e (0, 0)) → ∃ c', w'.heap[k.ω id]? = some (.cells c' e (0, 0)) ∧ c'.size = c.size)
    (hr : Keeps k k w w' → ORel k w' (st.h.set id o') o' w'.heap[k.ω id]?)
    (hit : ∀ id2 ver seen, id2 ≠ id → st.h.objs id2 = some (.iter id ver seen) → ORel k w st.h (.iter id ver seen) w.heap[k.ω id2]? → ORel k w' (st.h.set id o') (.iter id ver seen) w.heap[k.ω id2]?) :
    FW G N e k β A (st.withH (st.h.set id o')) a w' := by
  obtain ⟨g1, g2, g3, g4⟩ := h.wr.obj id o hlive
  have hk : Keeps k k w w' := Keeps.change hc g3 hrow
  have hst : Stays k k w w' β β A A st.u st.u := Stays.of hk (fun _ _ => rfl)
  have hcase : ∀ {id' q}, (st.h.set id o').objs id' = some q → (id' = id ∧ q = o') ∨ (id' ≠ id ∧ st.h.objs id' = some q) := by
    intro id' q ho
    simp only [H.set, upd] at ho
    split at ho
    · simp only [Option.some.injEq] at ho; exact .inl ⟨by assumption, ho.symm⟩
    · exact .inr ⟨by assumption, ho⟩
  have hany : ∀ {id' q}, (st.h.set id o').objs id' = some q → ∃ q', st.h.objs id' = some q' := by
    intro id' q ho
    rcases hcase ho with ⟨h1, _⟩ | ⟨_, h1⟩
    · subst h1; exact ⟨o, hlive⟩
    · exact ⟨q, h1⟩
  have hne : ∀ {id' q}, id' ≠ id → st.h.objs id' = some q → k.ω id' ≠ k.ω id := fun h1 h2 h3 => h1 (h.wr.inj _ _ _ _ h2 hlive h3)
  refine ⟨fun t => (h.slot t).mono hst, h.size, h.defers, fun s cs hm => ?_, fun s hs => ?_, h.ainj, h.res, ⟨h.wr.nx, fun id' q ho => ?_, fun i j p q hi hj heq => ?_, fun g cells hg => (h.wr.glob g cells hg).mono hk⟩, ?_⟩
  · obtain ⟨h1, h2, c, e', h3, h4, h5⟩ := h.mem s cs hm
    exact ⟨h1, h2, c, e', by rw [hc.other _ (fun heq => (h.alloc s h1).2.2.2 id o hlive heq.symm)]; exact h3, h4, fun j v hj => let ⟨x, p, q, r⟩ := h5 j v hj; ⟨x, p, q.mono hst, r⟩⟩
  · obtain ⟨h1, h2, h3, h4⟩ := h.alloc s hs
    exact ⟨h1, h2, by rw [hc.size]; exact h3, fun id' q ho => let ⟨q', hq⟩ := hany ho; h4 id' q' hq⟩
  · rcases hcase ho with ⟨h1, h2⟩ | ⟨h1, h2⟩
    · rw [h1, h2]
      exact ⟨g1, by rw [hc.size]; exact g2, g3, hr hk⟩
    · obtain ⟨p1, p2, p3, p4⟩ := h.wr.obj id' q h2
      refine ⟨p1, by rw [hc.size]; exact p2, p3, ?_⟩
      rw [hc.other _ (hne h1 h2)]
      cases q with
      | cells cs =>
        obtain ⟨c, e', a1, a2, a3⟩ := p4
        exact ⟨c, e', a1, a2, a3.mono hk⟩
      | map es ver =>
        obtain ⟨en, clock, a1, a2, a3, a4, a5⟩ := p4
        exact ⟨en, clock, a1, a2, fun j x v hj => let ⟨e, p, q, r⟩ := a3 j x v hj; ⟨e, p, q.mono hk, r.mono hk⟩, a4, a5⟩
      | iter m ver seen =>
        by_cases hm : m = id
        · subst hm; exact hit id' ver seen h1 h2 p4
        · obtain ⟨since, sb, stepped, a1, a2, a3⟩ := p4
          refine ⟨since, sb, stepped, a1, a2, fun es ver' en clock ho2 hw => ?_⟩
          rcases hcase ho2 with ⟨h9, _⟩ | ⟨_, h9⟩
          · exact absurd h9 hm
          · rw [hc.other _ (hne hm h9)] at hw
            exact a3 es ver' en clock h9 hw
  · obtain ⟨p', hp'⟩ := hany hi
    obtain ⟨q', hq'⟩ := hany hj
    exact h.wr.inj i j p' q' hp' hq' heq
  · refine h.old.trans hk (fun _ _ => rfl) (fun b' hb' hn => hc.other b' (fun heq => ?_)) (fun id' q ho _ => let ⟨q', hq⟩ := hany ho; ⟨id', q', hq, rfl⟩) hc.misc
    subst heq
    obtain ⟨id0, o0, h1, h2⟩ := h.old.src id o hlive hb'
    exact hn id0 o0 h1 h2

/-- A local box is written. -/
theorem FW.setBox (h : FW G N e k β A st a w) {s : Nat} {cs : List V} {w' : World} (hA : A s) (h0 : k.lim (β s) = 0) (hc : Change w w' (β s))
    (hrow : ∀ (c : Array Value) (e : TypeId), w.heap[β s]? = some (.cells c e (0, 0)) → ∃ c', w'.heap[β s]? = some (.cells c' e (0, 0)) ∧ c'.size = c.size)
    (hnew : Keeps k k w w' → ∃ c e', w'.heap[β s]? = some (.cells c e' (0, 0)) ∧ c.size = cs.length ∧ ∀ (j : Nat) (v : V), cs[j]? = some v → ∃ x, c[j]? = some x ∧ SR1 k w' β A st.u v x ∧ x.oneCell' = true) :
    FW G N e k β A { st with m := upd st.m s (some cs) } a w' := by
  obtain ⟨g1, g2, g3, g4⟩ := h.alloc s hA
  have hk : Keeps k k w w' := Keeps.change hc h0 hrow
  have hst : Stays k k w w' β β A A st.u st.u := Stays.of hk (fun _ _ => rfl)
  refine ⟨fun t => (h.slot t).mono hst, h.size, h.defers, fun s' cs' hm => ?_, fun s' hs => ?_, h.ainj, h.res, ⟨h.wr.nx, fun id q ho => ?_, h.wr.inj, fun g cells hg => (h.wr.glob g cells hg).mono hk⟩, ?_⟩
  · simp only [upd] at hm
    split at hm
    · rename_i heq
      simp only [Option.some.injEq] at hm
      rw [heq, ← hm]; exact ⟨hA, h0, hnew hk⟩
    · rename_i hne
      obtain ⟨p1, p2, c, e', p3, p4, p5⟩ := h.mem s' cs' hm
      have hne : β s' ≠ β s := fun heq => hne (h.ainj s' s p1 hA heq)
      exact ⟨p1, p2, c, e', by rw [hc.other _ hne]; exact p3, p4, fun j v hj => let ⟨x, p, q, r⟩ := p5 j v hj; ⟨x, p, q.mono hst, r⟩⟩
  · obtain ⟨h1, h2, h3, h4⟩ := h.alloc s' hs
    exact ⟨h1, h2, by rw [hc.size]; exact h3, h4⟩
  · obtain ⟨h1, h2, h3, h4⟩ := h.wr.obj id q ho
    refine ⟨h1, by rw [hc.size]; exact h2, h3, ?_⟩
    rw [hc.other _ (g4 id q ho)]
    exact h4.mono hk (fun m es ver hm ho' => hc.other _ (g4 m _ ho'))
  · exact h.old.trans hk (fun _ _ => rfl) (fun b' hb' hn => hc.other b' (fun heq => by omega)) (fun id q ho _ => ⟨id, q, ho, rfl⟩) hc.misc

/-- An append in place: what lies behind the visible end is written, and the end moves. -/
theorem FW.growOwn (h : FW G N e k β A st a w) {s : Nat} {L : Nat} {w' : World} (hA : A s) (hL : k.lim (β s) ≤ L) (hpos : 0 < k.lim (β s)) (hc : Change w w' (β s))
    (hrow : ∀ (c : Array Value) (e : TypeId), w.heap[β s]? = some (.cells c e (0, 0)) → ∃ c', w'.heap[β s]? = some (.cells c' e (0, 0)) ∧ c'.size = c.size)
    (hcell : ∀ i v, i < k.lim (β s) → w.cell? ⟨β s, i, none⟩ = some v → w'.cell? ⟨β s, i, none⟩ = some v) :
    Keeps k (k.setLim (β s) L) w w' ∧ FW G N e (k.setLim (β s) L) β (fun x => A x ∧ x ≠ s) { st with u := s :: st.u } a w' := by
  obtain ⟨g1, g2, g3, g4⟩ := h.alloc s hA
  have hk : Keeps k (k.setLim (β s) L) w w' := by
    refine ⟨Nat.le_refl _, fun _ _ => rfl, fun b _ => ?_, by rw [hc.size]; exact Nat.le_refl _, fun ad v hv hl => ?_, fun b c e' hb => ?_⟩
    · by_cases hb : b = β s
      · subst hb; simp [Ctx.setLim, upd_same]; exact hL
      · simp [Ctx.setLim, upd_ne _ _ hb]
    · by_cases hb : ad.block = β s
      · have hs := spot_of_cell hv
        have he : ad = ⟨β s, ad.off, none⟩ := by cases ad; simp only at hb hs; subst hb; subst hs; rfl
        rw [he] at hv ⊢
        exact hcell _ _ (by rw [hb] at hl; exact hl) hv
      · rw [cell_other hc hb]; exact hv
    · by_cases hbb : b = β s
      · subst hbb; exact hrow c e' hb
      · exact ⟨c, by rw [hc.other b hbb]; exact hb, rfl⟩
  have hne : ∀ s', A s' → s' ≠ s → β s' ≠ β s := fun s' h1 h2 h3 => h2 (h.ainj s' s h1 hA h3)
  have hlim : ∀ s', A s' → s' ≠ s → (k.setLim (β s) L).lim (β s') = k.lim (β s') := fun s' h1 h2 => by simp [Ctx.setLim, upd_ne _ _ (hne s' h1 h2)]
  have hst : Stays k (k.setLim (β s) L) w w' β β A (fun x => A x ∧ x ≠ s) st.u (s :: st.u) := by
    refine ⟨hk, fun s' h1 => ?_, fun _ _ => rfl, fun s' h1 => List.mem_cons_of_mem _ h1, fun s' h1 h2 => hlim s' h1 (fun h3 => h2 (by simp [h3])), fun s' h1 h2 => ?_⟩
    · by_cases h2 : s' = s
      · exact .inr (by simp [h2])
      · exact .inl ⟨h1, h2⟩
    · have h3 : s' ≠ s := fun h4 => by subst h4; omega
      exact ⟨⟨h1, h3⟩, by rw [hlim s' h1 h3]; exact h2⟩
  refine ⟨hk, fun t => (h.slot t).mono hst, h.size, h.defers, fun s' cs hm => ?_, fun s' hs => ?_, fun s1 s2 h1 h2 => h.ainj s1 s2 h1.1 h2.1, fun s' hs => ⟨(h.res s' hs).1, fun hq => (h.res s' hs).2 hq.1⟩, ⟨h.wr.nx, fun id q ho => ?_, h.wr.inj, fun g cells hg => (h.wr.glob g cells hg).mono hk⟩, ?_⟩
  · obtain ⟨p1, p2, c, e', p3, p4, p5⟩ := h.mem s' cs hm
    have h3 : s' ≠ s := fun h4 => by subst h4; omega
    exact ⟨⟨p1, h3⟩, by rw [hlim s' p1 h3]; exact p2, c, e', by rw [hc.other _ (hne s' p1 h3)]; exact p3, p4, fun j v hj => let ⟨x, p, q, r⟩ := p5 j v hj; ⟨x, p, q.mono hst, r⟩⟩
  · obtain ⟨h1, h2, h3, h4⟩ := h.alloc s' hs.1
    exact ⟨h1, h2, by rw [hc.size]; exact h3, h4⟩
  · obtain ⟨h1, h2, h3, h4⟩ := h.wr.obj id q ho
    refine ⟨h1, by rw [hc.size]; exact h2, ?_, ?_⟩
    · show (k.setLim (β s) L).lim (k.ω id) = 0
      simp [Ctx.setLim, upd_ne _ _ (g4 id q ho)]; exact h3
    · show ORel _ _ _ _ w'.heap[k.ω id]?
      rw [hc.other _ (g4 id q ho)]
      exact h4.mono hk (fun m es ver hm ho' => hc.other _ (g4 m _ ho'))
  · exact h.old.trans hk (fun b hb => by simp [Ctx.setLim, upd_ne _ _ (show b ≠ β s by omega)]) (fun b' hb' hn => hc.other b' (fun heq => by omega)) (fun id q ho _ => ⟨id, q, ho, rfl⟩) hc.misc

/-- The stamp at hand goes to a block that is nobody's. -/
theorem FW.stampNew (h : FW G N e k β A st a w) {b : Nat} (h1 : e.w.heap.size ≤ b) (h2 : b < w.heap.size) (h3 : ∀ id o, st.h.objs id = some o → k.ω id ≠ b) (h4 : ∀ s, A s → β s ≠ b) :
    Stays k k w w β (upd β st.n b) A (fun s => A s ∨ s = st.n) st.u st.u ∧ FW G N e k (upd β st.n b) (fun s => A s ∨ s = st.n) st.tick a w := by
  have hn : ∀ s, A s → s ≠ st.n := fun s hs => Nat.ne_of_lt (h.alloc s hs).1
  have hβ : ∀ s, A s → upd β st.n b s = β s := fun s hs => upd_ne _ _ (hn s hs)
  have hst : Stays k k w w β (upd β st.n b) A (fun s => A s ∨ s = st.n) st.u st.u :=
    ⟨Keeps.refl _ _, fun s hs => .inl (.inl hs), hβ, fun _ hs => hs, fun _ _ _ => rfl, fun s hs h0 => ⟨.inl hs, h0⟩⟩
  refine ⟨hst, fun t => (h.slot t).mono hst, h.size, h.defers, fun s cs hm => ?_, fun s hs => ?_, fun s s' hs hs' heq => ?_, fun s hs => ⟨Nat.lt_succ_of_lt (h.res s hs).1, fun hq => hq.elim (h.res s hs).2 (fun heq => Nat.lt_irrefl st.n (heq ▸ (h.res s hs).1))⟩, h.wr, h.old⟩
  · obtain ⟨p1, p2, c, e', p3, p4, p5⟩ := h.mem s cs hm
    exact ⟨.inl p1, by rw [hβ s p1]; exact p2, c, e', by rw [hβ s p1]; exact p3, p4, fun j v hj => let ⟨x, p, q, r⟩ := p5 j v hj; ⟨x, p, q.mono hst, r⟩⟩
  · rcases hs with hs | hs
    · obtain ⟨p1, p2, p3, p4⟩ := h.alloc s hs
      rw [hβ s hs]
      exact ⟨Nat.lt_succ_of_lt p1, p2, p3, p4⟩
    · subst hs
      rw [upd_same]
      exact ⟨Nat.lt_succ_self _, h1, h2, h3⟩
  · rcases hs with hs | hs <;> rcases hs' with hs' | hs'
    · rw [hβ s hs, hβ s' hs'] at heq; exact h.ainj s s' hs hs' heq
    · subst hs'; rw [hβ s hs, upd_same] at heq; exact absurd heq (h4 s hs)
    · subst hs; rw [hβ s' hs', upd_same] at heq; exact absurd heq.symm (h4 s' hs')
    · rw [hs, hs']

/-- Behind a call. -/
theorem FW.call (h : FW G N e k β A st a w) {k' : Ctx} {h' : H} {w' : World} (hw : WR k' h' w' G) (ho : Old ⟨k, st.h, w, fun _ => False⟩ k' h' w') : FW G N e k' β A (st.withH h') a w' := by
  have hlim : ∀ b, b < w.heap.size → k'.lim b = k.lim b := ho.lim
  have hsame : ∀ b, b < w.heap.size → (∀ id o, st.h.objs id = some o → k.ω id ≠ b) → w'.heap[b]? = w.heap[b]? := ho.same
  have hk : Keeps k k' w w' := ho.keeps
  have hst : Stays k k' w w' β β A A st.u st.u := Stays.of hk (fun s hs => hlim _ (h.alloc s hs).2.2.1)
  refine ⟨fun t => (h.slot t).mono hst, h.size, h.defers, fun s cs hm => ?_, fun s hs => ?_, h.ainj, h.res, hw, ?_⟩
  · obtain ⟨p1, p2, c, e', p3, p4, p5⟩ := h.mem s cs hm
    obtain ⟨q1, q2, q3, q4⟩ := h.alloc s p1
    exact ⟨p1, by rw [hlim _ q3]; exact p2, c, e', by rw [hsame _ q3 q4]; exact p3, p4, fun j v hj => let ⟨x, p, q, r⟩ := p5 j v hj; ⟨x, p, q.mono hst, r⟩⟩
  · obtain ⟨q1, q2, q3, q4⟩ := h.alloc s hs
    refine ⟨q1, q2, Nat.lt_of_lt_of_le q3 hk.size, fun id o hid heq => ?_⟩
    obtain ⟨id0, o0, r1, r2⟩ := ho.src id o hid (by show k'.ω id < w.heap.size; rw [heq]; exact q3)
    exact q4 id0 o0 r1 (r2.trans heq)
  · refine h.old.trans hk (fun b hb => hlim b (Nat.lt_of_lt_of_le hb h.old.keeps.size)) (fun b hb hn => hsame b (Nat.lt_of_lt_of_le hb h.old.keeps.size) (fun id o hid heq => ?_)) (fun id o hid hlt => ?_) ho.misc
    · subst heq
      obtain ⟨id0, o0, r1, r2⟩ := h.old.src id o hid hb
      exact hn id0 o0 r1 r2
    · exact ho.src id o hid (Nat.lt_of_lt_of_le hlt h.old.keeps.size)

end
end Go.Ab
