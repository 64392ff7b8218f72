/- A loop's head: what is not live is forgotten, and the stamps are counted anew. -/
import Derived.Test.YtgfnhkedfmnijaaAb19
set_option linter.unusedVariables false
set_option linter.unusedSimpArgs false
namespace Go.Ab

section
variable {G : List (Nat × List V)} {N : Nat} {e : Entry} {k : Ctx} {β : Nat → Nat} {A : Nat → Prop} {st : S} {a : Act} {w : World} {P : Program} {u : List Nat} {hs : Hints} {o : Oper} {K : Ex → S → Prop}

def βof (β : Nat → Nat) (mp : List (Nat × Nat)) (i : Nat) : Nat := β ((mp.map (·.1)).getD i 0)
def Aof (mp : List (Nat × Nat)) (i : Nat) : Prop := i < mp.length

/-- A renaming in good order. -/
structure MpOK (A : Nat → Prop) (mp : List (Nat × Nat)) : Prop where
  snd : ∀ (i : Nat) (p : Nat × Nat), mp[i]? = some p → p.2 = i
  nodup : (mp.map (·.1)).Nodup
  inA : ∀ p ∈ mp, A p.1

theorem MpOK.push {mp : List (Nat × Nat)} (h : MpOK A mp) {s : Nat} (hs : seekS mp s = none) (hA : A s) : MpOK A (mp ++ [(s, mp.length)]) := by
  refine ⟨fun i p hp => ?_, ?_, fun p hp => ?_⟩
  · rw [List.getElem?_append] at hp
    split at hp
    · exact h.snd i p hp
    · rename_i hlt
      have : i = mp.length := by
        rcases Nat.lt_or_ge i (mp.length + 1) with h' | h'
        · omega
        · rw [List.getElem?_eq_none (by simp; omega)] at hp; simp at hp
      subst this
      simp at hp
      rw [← hp]
  · rw [List.map_append, List.nodup_append]
    refine ⟨h.nodup, by simp, ?_⟩
    intro x hx y hy hxy
    simp at hy
    subst hy
    subst hxy
    simp only [seekS, Option.map_eq_none_iff, List.find?_eq_none] at hs
    obtain ⟨p, hp, rfl⟩ := List.mem_map.1 hx
    have := hs p hp
    simp at this
  · rcases List.mem_append.1 hp with hp | hp
    · exact h.inA p hp
    · simp at hp; rw [hp]; exact hA

theorem MpOK.seek {mp : List (Nat × Nat)} (h : MpOK A mp) {s t : Nat} (hs : seekS mp s = some t) : t < mp.length ∧ βof β mp t = β s ∧ A s := by
  simp only [seekS, Option.map_eq_some_iff] at hs
  obtain ⟨p, hp, rfl⟩ := hs
  have hm := List.mem_of_find?_eq_some hp
  have he : p.1 = s := by simpa using List.find?_some hp
  obtain ⟨i, hi, hpi⟩ := List.mem_iff_getElem.1 hm
  have hsn := h.snd i p (by rw [List.getElem?_eq_getElem hi, hpi])
  subst hsn
  refine ⟨hi, ?_, by rw [← he]; exact h.inA p hm⟩
  have : ((mp.map (·.1)).getD p.2 0) = s := by
    rw [List.getD_eq_getElem?_getD, List.getElem?_map, List.getElem?_eq_getElem hi, hpi]
    exact he
  simp only [βof, this]

theorem βof_push {mp : List (Nat × Nat)} (s : Nat) : βof β (mp ++ [(s, mp.length)]) mp.length = β s := by
  simp [βof, List.getD_eq_getElem?_getD]

theorem βof_pre {mp mp' : List (Nat × Nat)} (hp : mp <+: mp') {i : Nat} (hi : i < mp.length) : βof β mp' i = βof β mp i := by
  obtain ⟨r, rfl⟩ := hp
  simp only [βof, List.getD_eq_getElem?_getD, List.map_append]
  rw [List.getElem?_append_left (by simpa using hi)]

/-- The relation under a renaming that grows. -/
theorem SR1.pre {mp mp' : List (Nat × Nat)} (hp : mp <+: mp') {v : V} {x : Value} (h : SR1 k w (βof β mp) (Aof mp) [] v x) : SR1 k w (βof β mp') (Aof mp') [] v x := by
  have hst : Stays k k w w (βof β mp) (βof β mp') (Aof mp) (Aof mp') [] [] := by
    have hl : mp.length ≤ mp'.length := hp.length_le
    exact ⟨Keeps.refl _ _, fun s hs => .inl (Nat.lt_of_lt_of_le hs hl), fun s hs => βof_pre hp hs, fun _ h => h, fun _ _ _ => rfl, fun s hs h0 => ⟨Nat.lt_of_lt_of_le hs hl, h0⟩⟩
  exact h.mono hst

theorem renV_sound {mp mp' : List (Nat × Nat)} (hm : MpOK A mp) {v v' : V} {x : Value} (h : SR1 k w β A u v x) (hr : renV u mp v = (v', mp')) :
    mp <+: mp' ∧ MpOK A mp' ∧ SR1 k w (βof β mp') (Aof mp') [] v' x := by
  have hplain : v.plain = true → v' = v → mp' = mp → mp <+: mp' ∧ MpOK A mp' ∧ SR1 k w (βof β mp') (Aof mp') [] v' x := by
    intro h1 h2 h3
    subst h2; subst h3
    rw [SR1.of_plain h1] at h
    exact ⟨List.prefix_refl _, hm, h.sr1⟩
  cases v with
  | vec xs c =>
    cases c with
    | own s =>
      simp only [renV] at hr
      split at hr
      · simp only [Prod.mk.injEq] at hr
        obtain ⟨rfl, rfl⟩ := hr
        exact ⟨List.prefix_refl _, hm, h.1⟩
      · rename_i hu
        obtain ⟨hA, ad, cap, sz, q1, q2, q3, q4, q5, q6, q7, q8⟩ := h.2 hu
        split at hr
        · rename_i t ht
          simp only [Prod.mk.injEq] at hr
          obtain ⟨rfl, rfl⟩ := hr
          obtain ⟨s1, s2, s3⟩ := hm.seek (β := β) ht
          exact ⟨List.prefix_refl _, hm, h.1, fun _ => ⟨s1, ad, cap, sz, q1, by rw [s2]; exact q2, q3, q4, q5, q6, by rw [s2]; exact q7, by rw [s2]; exact q8⟩⟩
        · rename_i hn
          simp only [Prod.mk.injEq] at hr
          obtain ⟨rfl, rfl⟩ := hr
          have s2 := βof_push (β := β) (mp := mp) s
          exact ⟨List.prefix_append _ _, hm.push hn hA, h.1, fun _ => ⟨by simp [Aof], ad, cap, sz, q1, by rw [s2]; exact q2, q3, q4, q5, q6, by rw [s2]; exact q7, by rw [s2]; exact q8⟩⟩
    | any => simp only [renV, Prod.mk.injEq] at hr; exact hplain rfl hr.1.symm hr.2.symm
    | full => simp only [renV, Prod.mk.injEq] at hr; exact hplain rfl hr.1.symm hr.2.symm
  | lptr s z o =>
    simp only [renV, Prod.mk.injEq] at hr
    obtain ⟨rfl, rfl⟩ := hr
    exact ⟨List.prefix_refl _, hm, trivial⟩
  | tuple vs =>
    simp only [renV, Prod.mk.injEq] at hr
    obtain ⟨rfl, rfl⟩ := hr
    exact ⟨List.prefix_refl _, hm, trivial⟩
  | itr id =>
    simp only [renV, Prod.mk.injEq] at hr
    obtain ⟨rfl, rfl⟩ := hr
    exact ⟨List.prefix_refl _, hm, h⟩
  | undef =>
    simp only [renV, Prod.mk.injEq] at hr
    obtain ⟨rfl, rfl⟩ := hr
    exact ⟨List.prefix_refl _, hm, trivial⟩
  | _ => simp only [renV, Prod.mk.injEq] at hr; exact hplain rfl hr.1.symm hr.2.symm

theorem renVs_sound : ∀ {vs vs' : List V} {mp mp' : List (Nat × Nat)}, MpOK A mp → renVs u mp vs = (vs', mp') → (∀ v ∈ vs, ∃ x, SR1 k w β A u v x) →
    mp <+: mp' ∧ MpOK A mp' ∧ vs'.length = vs.length ∧ ∀ (j : Nat) (v' : V), vs'[j]? = some v' → ∃ v, vs[j]? = some v ∧ ∀ x, SR1 k w β A u v x → SR1 k w (βof β mp') (Aof mp') [] v' x
  | [], vs', mp, mp', hm, hr, _ => by
    simp only [renVs, Prod.mk.injEq] at hr
    obtain ⟨rfl, rfl⟩ := hr
    exact ⟨List.prefix_refl _, hm, rfl, by simp⟩
  | v :: vs, vs', mp, mp', hm, hr, hx => by
    simp only [renVs] at hr
    cases hr1 : renV u mp v with
    | mk a1 mp1 =>
      rw [hr1] at hr
      simp only at hr
      cases hr2 : renVs u mp1 vs with
      | mk as mp2 =>
        rw [hr2] at hr
        simp only [Prod.mk.injEq] at hr
        obtain ⟨rfl, rfl⟩ := hr
        obtain ⟨x0, hx0⟩ := hx v (by simp)
        obtain ⟨p1, p2, _⟩ := renV_sound (k := k) (w := w) (β := β) hm hx0 hr1
        obtain ⟨q1, q2, q3, q4⟩ := renVs_sound p2 hr2 (fun v' hv' => hx v' (List.mem_cons_of_mem _ hv'))
        refine ⟨p1.trans q1, q2, by simp [q3], fun j v' hj => ?_⟩
        cases j with
        | zero =>
          simp at hj; subst hj
          refine ⟨v, by simp, fun x hxx => ?_⟩
          obtain ⟨_, _, r3⟩ := renV_sound (k := k) (w := w) (β := β) hm hxx hr1
          exact r3.pre q1
        | succ j =>
          obtain ⟨v0, h1, h2⟩ := q4 j v' (by simpa using hj)
          exact ⟨v0, by simpa using h1, h2⟩

structure KeptOK (k : Ctx) (w : World) (β : Nat → Nat) (A : Nat → Prop) (a : Act) (q : Kept) : Prop where
  mp : MpOK A q.mp
  slot : ∀ (t : Nat), SR1 k w (βof β q.mp) (Aof q.mp) [] (q.ρ t) (a.tmps.getD t undef) ∧ ∀ vs, q.ρ t ≠ .tuple vs
  mem : ∀ (s : Nat) (cs : List V), q.m s = some cs → s < q.mp.length ∧ k.lim (βof β q.mp s) = 0 ∧ ∃ c e, w.heap[βof β q.mp s]? = some (.cells c e (0, 0)) ∧ c.size = cs.length ∧
    ∀ (j : Nat) (v : V), cs[j]? = some v → ∃ x, c[j]? = some x ∧ SR1 k w (βof β q.mp) (Aof q.mp) [] v x ∧ x.oneCell' = true

theorem KeptOK.grow {q : Kept} (h : KeptOK k w β A a q) {mp' : List (Nat × Nat)} (hp : q.mp <+: mp') (hm : MpOK A mp') : KeptOK k w β A a ⟨q.ρ, q.m, mp'⟩ := by
  refine ⟨hm, fun t => ⟨(h.slot t).1.pre hp, (h.slot t).2⟩, fun s cs hs => ?_⟩
  obtain ⟨h1, h2, c, e, h3, h4, h5⟩ := h.mem s cs hs
  have hb := βof_pre (β := β) hp h1
  exact ⟨Nat.lt_of_lt_of_le h1 hp.length_le, by show k.lim (βof β mp' s) = 0; rw [hb]; exact h2, c, e, by show w.heap[βof β mp' s]? = _; rw [hb]; exact h3, h4, fun j v hj => let ⟨x, p, q, r⟩ := h5 j v hj; ⟨x, p, q.pre hp, r⟩⟩

theorem KeptOK.setSlot {q : Kept} (h : KeptOK k w β A a q) {t : Nat} {v : V} (hv : SR1 k w (βof β q.mp) (Aof q.mp) [] v (a.tmps.getD t undef)) (hn : ∀ vs, v ≠ .tuple vs) : KeptOK k w β A a ⟨upd q.ρ t v, q.m, q.mp⟩ := by
  refine ⟨h.mp, fun t' => ?_, h.mem⟩
  simp only [upd]
  split
  · rename_i ht; rw [ht]; exact ⟨hv, hn⟩
  · exact h.slot t'

theorem renV_not_tuple {mp mp' : List (Nat × Nat)} {v v' : V} (hr : renV u mp v = (v', mp')) : ∀ vs, v' ≠ .tuple vs := by
  intro vs hv
  subst hv
  cases v with
  | vec xs c =>
    cases c <;> simp only [renV] at hr
    · simp at hr
    · simp at hr
    · repeat' split at hr
      all_goals simp at hr
  | _ => simp [renV] at hr

theorem clear1_sound (h : FW G N e k β A st a w) {q : Kept} (hq : KeptOK k w β A a q) (t : Nat) : KeptOK k w β A a (clear1 st q t) := by
  have hsl := h.slot t
  unfold clear1
  split
  · rename_i s z o hρ
    rw [hρ] at hsl
    obtain ⟨hx, hA, hl, c, e', hc, hz⟩ := (show SR1 k w β A st.u (.lptr s z o) _ from hsl)
    split
    · rename_i s' hs'
      obtain ⟨s1, s2, _⟩ := hq.mp.seek (β := β) hs'
      exact hq.setSlot ⟨by rw [s2]; exact hx, s1, by rw [s2]; exact hl, c, e', by rw [s2]; exact hc, hz⟩ (by simp)
    · rename_i hn
      split
      · rename_i cs hm
        obtain ⟨_, _, c2, e2, hc2, hsz, hall⟩ := h.mem s cs hm
        have hm1 := hq.mp.push hn hA
        cases hr : renVs st.u (q.mp ++ [(s, q.mp.length)]) cs with
        | mk cs' mp' =>
          have hex : ∀ v ∈ cs, ∃ x, SR1 k w β A st.u v x := by
            intro v hv
            obtain ⟨j, hj, rfl⟩ := List.mem_iff_getElem.1 hv
            obtain ⟨x, _, hx, _⟩ := hall j _ (List.getElem?_eq_getElem hj)
            exact ⟨x, hx⟩
          obtain ⟨p1, p2, p3, p4⟩ := renVs_sound (k := k) (w := w) (β := β) hm1 hr hex
          have hpre : q.mp <+: mp' := (List.prefix_append _ _).trans p1
          have hb : βof β mp' q.mp.length = β s := by rw [βof_pre p1 (by simp), βof_push]
          have hlt : q.mp.length < mp'.length := Nat.lt_of_lt_of_le (by simp) p1.length_le
          have h1 := hq.grow hpre p2
          have h2 := h1.setSlot (t := t) (v := .lptr q.mp.length z o) ⟨by rw [hb]; exact hx, hlt, by rw [hb]; exact hl, c, e', by rw [hb]; exact hc, hz⟩ (by simp)
          refine ⟨h2.mp, h2.slot, fun s2 cs2 hs2 => ?_⟩
          simp only [upd] at hs2
          split at hs2
          · rename_i heq
            simp only [Option.some.injEq] at hs2
            subst heq; subst hs2
            refine ⟨hlt, by show k.lim (βof β mp' _) = 0; rw [hb]; exact hl, c2, e2, by show w.heap[βof β mp' _]? = _; rw [hb]; exact hc2, by rw [p3]; exact hsz, fun j v hj => ?_⟩
            obtain ⟨v0, g1, g2⟩ := p4 j v hj
            obtain ⟨x, g3, g4, g5⟩ := hall j v0 g1
            exact ⟨x, g3, g2 x g4, g5⟩
          · exact h2.mem s2 cs2 hs2
      · exact hq
  · rename_i v hnl
    cases hr : renV st.u q.mp (st.ρ t) with
    | mk v' mp' =>
      by_cases htup : ∃ vs, st.ρ t = .tuple vs
      · obtain ⟨vs, hvs⟩ := htup
        rw [hvs] at hr
        simp only [renV, Prod.mk.injEq] at hr
        obtain ⟨rfl, rfl⟩ := hr
        exact hq.setSlot trivial (by simp)
      · have hsl1 : SR1 k w β A st.u (st.ρ t) (a.tmps.getD t undef) := by
          rw [SR.eq1 (fun vs hv => htup ⟨vs, hv⟩)] at hsl; exact hsl
        obtain ⟨p1, p2, p3⟩ := renV_sound (k := k) (w := w) (β := β) hq.mp hsl1 hr
        exact (hq.grow p1 p2).setSlot p3 (renV_not_tuple hr)

theorem clear_sound {live : List Nat} (hres : ∀ s, ¬ e.res s) (h : Inv G N e st a w) : Inv G N e (clear live st) a w := by
  obtain ⟨k, β, A, h⟩ := h
  have h0 : KeptOK k w β A a ⟨fun _ => .undef, fun _ => none, []⟩ := ⟨⟨by simp, by simp, by simp⟩, fun t => ⟨trivial, by simp⟩, by simp⟩
  have hall : ∀ (l : List Nat) (q : Kept), KeptOK k w β A a q → KeptOK k w β A a (l.foldl (clear1 st) q) := by
    intro l
    induction l with
    | nil => intro q hq; exact hq
    | cons t l ih => intro q hq; exact ih _ (clear1_sound h hq t)
  have hq := hall live _ h0
  unfold clear
  generalize live.foldl (clear1 st) ⟨fun _ => .undef, fun _ => none, []⟩ = q at hq
  obtain ⟨ρ, m, mp⟩ := q
  refine ⟨k, βof β mp, Aof mp, fun t => ?_, h.size, h.defers, hq.mem, fun s hs => ?_, fun s s' hs hs' heq => ?_, fun s hs => absurd hs (hres s), h.wr, h.old⟩
  · rw [SR.eq1 (hq.slot t).2]; exact (hq.slot t).1
  · have hs' : s < mp.length := hs
    have hmem : mp[s] ∈ mp := List.getElem_mem hs'
    have hb : βof β mp s = β (mp[s]).1 := by simp [βof, List.getD_eq_getElem?_getD, hs']
    obtain ⟨_, p2, p3, p4⟩ := h.alloc _ (hq.mp.inA _ hmem)
    rw [hb]
    exact ⟨hs', p2, p3, p4⟩
  · have h1 : s < mp.length := hs
    have h2 : s' < mp.length := hs'
    have hb : βof β mp s = β (mp[s]).1 := by simp [βof, List.getD_eq_getElem?_getD, h1]
    have hb' : βof β mp s' = β (mp[s']).1 := by simp [βof, List.getD_eq_getElem?_getD, h2]
    rw [hb, hb'] at heq
    have := h.ainj _ _ (hq.mp.inA _ (List.getElem_mem h1)) (hq.mp.inA _ (List.getElem_mem h2)) heq
    have hn := hq.mp.nodup
    rw [List.nodup_iff_pairwise_ne, List.pairwise_iff_getElem] at hn
    rcases Nat.lt_trichotomy s s' with hlt | hlt | hlt
    · exact absurd (by rw [List.getElem_map, List.getElem_map]; exact this) (hn s s' (by rw [List.length_map]; exact h1) (by rw [List.length_map]; exact h2) hlt)
    · exact hlt
    · exact absurd (by rw [List.getElem_map, List.getElem_map]; exact this.symm) (hn s' s (by rw [List.length_map]; exact h2) (by rw [List.length_map]; exact h1) hlt)

end
end Go.Ab
