/- Regions that draw their order: every order does what the listed one does. -/
import Derived.Test.YtgfnhkedfmnijaaAb23
set_option linter.unusedVariables false
set_option linter.unusedSimpArgs false
namespace Go.Ab

section
variable {G : List (Nat × List V)} {N : Nat} {e : Entry} {k : Ctx} {β : Nat → Nat} {A : Nat → Prop} {st : S} {a : Act} {w : World} {P : Program} {u : List Nat} {hs : Hints} {o : Oper} {K : Ex → S → Prop}

theorem FW.resCut (h : FW G N e k β A st a w) {R : Nat → Prop} (hR : ∀ s, R s → s < st.n ∧ ¬ A s) : FW G N { e with res := R } k β A st a w :=
  ⟨h.slot, h.size, h.defers, h.mem, h.alloc, h.ainj, hR, h.wr, ⟨h.old.keeps, h.old.lim, h.old.same, h.old.src, h.old.misc⟩⟩

/-- A kept stamp goes to a block that is nobody's. -/
theorem FW.stampAt (h : FW G N e k β A st a w) {b s0 : Nat} (hs0 : s0 < st.n) (hA : ¬ A s0) (h1 : e.w.heap.size ≤ b) (h2 : b < w.heap.size) (h3 : ∀ id o, st.h.objs id = some o → k.ω id ≠ b) (h4 : ∀ s, A s → β s ≠ b) {R : Nat → Prop} (hR : ∀ s, R s → s < st.n ∧ ¬ A s ∧ s ≠ s0) :
    Stays k k w w β (upd β s0 b) A (fun s => A s ∨ s = s0) st.u st.u ∧ FW G N { e with res := R } k (upd β s0 b) (fun s => A s ∨ s = s0) st a w := by
  have hn : ∀ s, A s → s ≠ s0 := fun s hs heq => hA (heq ▸ hs)
  have hβ : ∀ s, A s → upd β s0 b s = β s := fun s hs => upd_ne _ _ (hn s hs)
  have hst : Stays k k w w β (upd β s0 b) A (fun s => A s ∨ s = s0) st.u st.u :=
    ⟨Keeps.refl _ _, fun s hs => .inl (.inl hs), hβ, fun _ hs => hs, fun _ _ _ => rfl, fun s hs h0 => ⟨.inl hs, h0⟩⟩
  refine ⟨hst, fun t => (h.slot t).mono hst, h.size, h.defers, fun s cs hm => ?_, fun s hs => ?_, fun s s' hs hs' heq => ?_, fun s hs => ⟨(hR s hs).1, fun hq => hq.elim (hR s hs).2.1 (hR s hs).2.2⟩, h.wr, ⟨h.old.keeps, h.old.lim, h.old.same, h.old.src, h.old.misc⟩⟩
  · obtain ⟨p1, p2, c, e', p3, p4, p5⟩ := h.mem s cs hm
    exact ⟨.inl p1, by rw [hβ s p1]; exact p2, c, e', by rw [hβ s p1]; exact p3, p4, fun j v hj => let ⟨x, p, q, r⟩ := p5 j v hj; ⟨x, p, q.mono hst, r⟩⟩
  · rcases hs with hs | hs
    · obtain ⟨p1, p2, p3, p4⟩ := h.alloc s hs
      rw [hβ s hs]
      exact ⟨p1, p2, p3, p4⟩
    · subst hs
      rw [upd_same]
      exact ⟨hs0, h1, h2, h3⟩
  · rcases hs with hs | hs <;> rcases hs' with hs' | hs'
    · rw [hβ s hs, hβ s' hs'] at heq; exact h.ainj s s' hs hs' heq
    · subst hs'; rw [hβ s hs, upd_same] at heq; exact absurd heq (h4 s hs)
    · subst hs; rw [hβ s' hs', upd_same] at heq; exact absurd heq.symm (h4 s' hs')
    · rw [hs, hs']

theorem FW.bareAt (h : FW G N e k β A st a w) {xs : Array Value} {t : TypeId} {z s0 : Nat} (hd : ∀ t, o.dst = some t → t < N) (hl : xs.size = z) (hs : s0 < st.n) (hA : ¬ A s0) {R : Nat → Prop} (hR : ∀ s, R s → s < st.n ∧ ¬ A s ∧ s ≠ s0) :
    Inv G N { e with res := R } (st.put o.dst (.lptr s0 z 0)) (a.put o.dst (.pointer (some ⟨w.heap.size, 0, none⟩))) (w.alloc (.cells xs t)) := by
  have h1 := h.alloc' (.cells xs t) 0
  obtain ⟨hst, h2⟩ := h1.stampAt (b := w.heap.size) hs hA h.old.keeps.size (by simp) (fun id q hq => Nat.ne_of_lt (h.wr.obj id q hq).2.1) (fun s hs => Nat.ne_of_lt (h.alloc s hs).2.2.1) hR
  have hb : (w.alloc (.cells xs t)).heap[upd β s0 w.heap.size s0]? = some (.cells xs t (0, 0)) := by rw [upd_same]; exact heap_alloc_new
  exact (h2.put (d := o.dst) (v := .lptr s0 z 0) (x := .pointer (some ⟨w.heap.size, 0, none⟩)) hd ⟨by rw [upd_same], .inr rfl, by rw [upd_same]; simp [Ctx.setLim, upd_same], xs, t, hb, hl⟩).inv

theorem trK_bare {size : Nat} (ht : trK P hs o = some (.bare size)) : ∃ t z, o.op = .alloc t ∧ zeroT P t = some z ∧ z.length = size := by
  unfold trK at ht
  split at ht
  case h_4 t hop =>
    obtain ⟨z, hz, ht⟩ := bindS ht
    repeat' split at ht
    all_goals first
      | (simp at ht; done)
      | (injection ht with ht; injection ht with ht; subst ht; exact ⟨t, z, hop, hz, rfl⟩)
  case h_31 c hop =>
    unfold trCall at ht
    obtain ⟨args, hargs, ht⟩ := bindS ht
    obtain ⟨callee, cargs, ctypes⟩ := c
    simp only at ht hargs
    repeat' split at ht
    all_goals (try (simp at ht; done))
    all_goals (try (obtain ⟨_, _, ht⟩ := bindS ht))
    all_goals (try (repeat' split at ht))
    all_goals (try (simp at ht; done))
    all_goals (repeat (first | (simp at ht; done) | (obtain ⟨_, _, ht⟩ := bindS ht)))
    all_goals (try (repeat' split at ht))
    all_goals (try (simp at ht; done))
    all_goals (repeat (first | (simp at ht; done) | (obtain ⟨_, _, ht⟩ := bindS ht)))
  all_goals (repeat (first | (simp at ht; done) | (obtain ⟨_, _, ht⟩ := bindS ht)))
  all_goals (try (repeat' split at ht))
  all_goals (repeat (first | (simp at ht; done) | (obtain ⟨_, _, ht⟩ := bindS ht)))
  all_goals (try (repeat' split at ht))
  all_goals (repeat (first | (simp at ht; done) | (obtain ⟨_, _, ht⟩ := bindS ht)))

end

section
abbrev Item := IOp × Nat × List Nat

def Before (l : Go.Ab.Ord) (q t : Nat) : Prop := ∃ (r : Nat) (x : Item), r < q ∧ l[r]? = some x ∧ x.1.dst = some t
def Pend (l : Go.Ab.Ord) (listed : Array Bool) (p t : Nat) : Prop := ∃ (r : Nat) (x : Item), r < p ∧ l[r]? = some x ∧ listed.getD x.2.1 false = false ∧ x.1.dst = some t

open Classical in
/-- The listed order's state as it was ahead of place 'q', as far as an operation there can tell. -/
noncomputable def pre (l : Go.Ab.Ord) (st0 stp : S) (q : Nat) : S := ⟨fun t => if Before l q t then stp.ρ t else st0.ρ t, stp.m, stp.n, stp.u, stp.h⟩

open Classical in
/-- The state that has come about. -/
noncomputable def conc (l : Go.Ab.Ord) (st0 : S) (listed : Array Bool) (p : Nat) (stp : S) : S := ⟨fun t => if Pend l listed p t then st0.ρ t else stp.ρ t, stp.m, stp.n, stp.u, stp.h⟩

def Res (l : Go.Ab.Ord) (st0 : S) (listed : Array Bool) (p : Nat) : Nat → Prop := fun s => ∃ (q : Nat) (x : Item), q < p ∧ l[q]? = some x ∧ listed.getD x.2.1 false = false ∧ s = st0.n + q

/-- What is known of an operation that the listed order has passed and that has not been carried out. -/
def PendOK (l : Go.Ab.Ord) (st0 stp : S) (q : Nat) (o : IOp) : Prop :=
  match wantI (pre l st0 stp q) o with
  | some true => (∃ size, o.k = .bare size ∧ ∀ d, o.dst = some d → stp.ρ d = .lptr (st0.n + q) size 0) ∨ (isRd o.k = true ∧ (∀ size, o.k ≠ .bare size) ∧ ∃ v, rd (pre l st0 stp q) o.k = some v ∧ ∀ d, o.dst = some d → stp.ρ d = v)
  | some false => ∀ d, o.dst = some d → stp.ρ d = .undef
  | none => False

structure DI (all : Array Oper) (l : Go.Ab.Ord) (st0 : S) (call : CallT) (K : Ex → S → Prop) (listed : Array Bool) (p : Nat) (past : List (Option Go.Ab.K × V)) (stp : S) : Prop where
  size : listed.size = all.size
  ple : p ≤ l.length
  n : stp.n = st0.n + p
  plen : past.length = p
  run : draws call (l.drop p) past stp K
  frame : ∀ t, ¬ Before l p t → stp.ρ t = st0.ρ t
  closed : Closed all listed
  before : ∀ (q : Nat) (x : Item), l[q]? = some x → listed.getD x.2.1 false = true → q < p
  effs : ∀ (q : Nat) (x : Item), q < p → l[q]? = some x → isRd x.1.k = false → listed.getD x.2.1 false = true
  pend : ∀ (q : Nat) (x : Item), q < p → l[q]? = some x → listed.getD x.2.1 false = false → PendOK l st0 stp q x.1
  past : ∀ (q : Nat) (x : Item), q < p → l[q]? = some x → listed.getD x.2.1 false = false → isRd x.1.k = true → wantI (pre l st0 stp q) x.1 = some true →
    past[q]? = some (some x.1.k, match x.1.dst with | some d => stp.ρ d | none => .undef)

variable {all : Array Oper} {l : Go.Ab.Ord} {st0 : S} {call : CallT} {K : Ex → S → Prop} {listed : Array Bool} {p : Nat} {past : List (Option Go.Ab.K × V)} {stp stp' : S}

theorem wantI_rho {st st' : S} {o : IOp} (h : st.ρ = st'.ρ) : wantI st o = wantI st' o := wantI_congr (fun t _ => by rw [h])

theorem before_mono {q q' t : Nat} (h : q ≤ q') : Before l q t → Before l q' t := fun ⟨r, x, h1, h2⟩ => ⟨r, x, by omega, h2⟩

theorem before_ne (pl : Plan all l) {q : Nat} {x : Item} {t : Nat} (hx : l[p]? = some x) (hq : q ≤ p) (hb : Before l q t) : x.1.dst ≠ some t := by
  intro hd
  obtain ⟨r, y, h1, h2, h3⟩ := hb
  have := pl.dst h2 hx h3 hd
  omega

theorem pre_step (pl : Plan all l) {x : Item} (hx : l[p]? = some x) (hρ : ∀ t, x.1.dst ≠ some t → stp'.ρ t = stp.ρ t) {q : Nat} (hq : q ≤ p) : (pre l st0 stp' q).ρ = (pre l st0 stp q).ρ := by
  funext t
  simp only [pre]
  split
  · rename_i hb
    exact hρ t (before_ne pl hx hq hb)
  · rfl

theorem pre_self (hf : ∀ t, ¬ Before l p t → stp.ρ t = st0.ρ t) : (pre l st0 stp p).ρ = stp.ρ := by
  funext t
  simp only [pre]
  split
  · rfl
  · rename_i hb; exact (hf t hb).symm

theorem PendOK.step {q : Nat} {o : IOp} (h : PendOK l st0 stp q o) (hρ : (pre l st0 stp' q).ρ = (pre l st0 stp q).ρ) (hd : ∀ d, o.dst = some d → stp'.ρ d = stp.ρ d)
    (hrd : ∀ v, isRd o.k = true → wantI (pre l st0 stp q) o = some true → rd (pre l st0 stp q) o.k = some v → (∀ d, o.dst = some d → stp.ρ d = v) → ∃ v', rd (pre l st0 stp' q) o.k = some v' ∧ ∀ d, o.dst = some d → stp'.ρ d = v') : PendOK l st0 stp' q o := by
  unfold PendOK at h ⊢
  rw [wantI_rho hρ]
  split at h
  · rename_i hw
    rcases h with ⟨size, h1, h2⟩ | ⟨h1, h2, v, h3, h4⟩
    · exact .inl ⟨size, h1, fun d hdd => by rw [hd d hdd]; exact h2 d hdd⟩
    · exact .inr ⟨h1, h2, hrd v h1 hw h3 h4⟩
  · exact fun d hdd => by rw [hd d hdd]; exact h d hdd
  · exact h

theorem drop_get {α : Type} {l : List α} {p : Nat} {x : α} (h : l[p]? = some x) : l.drop p = x :: l.drop (p + 1) := by
  obtain ⟨hlt, hx⟩ := List.getElem?_eq_some_iff.1 h
  rw [List.drop_eq_getElem_cons hlt, hx]

theorem put_rho {st : S} {d : Option Nat} {v : V} {t : Nat} (h : d ≠ some t) : (st.put d v).ρ t = st.ρ t := by
  cases d with
  | none => rfl
  | some d =>
    have : t ≠ d := fun heq => h (by rw [heq])
    simp [S.put, upd, this]

theorem put_same {st : S} {d : Option Nat} {v : V} {t : Nat} (h : d = some t) : (st.put d v).ρ t = v := by
  subst h; simp [S.put, upd]

/-- The listed order passes one more operation. -/
theorem DI.push (pl : Plan all l) (d : DI all l st0 call K listed p past stp) {x : Item} (hx : l[p]? = some x) (listed' : Array Bool) (hsz : listed'.size = all.size) (hcl : Closed all listed')
    (hb : ∀ (q : Nat) (y : Item), l[q]? = some y → listed'.getD y.2.1 false = true → q < p + 1) (heff : ∀ (q : Nat) (y : Item), q < p + 1 → l[q]? = some y → isRd y.1.k = false → listed'.getD y.2.1 false = true)
    (hmono : ∀ (q : Nat) (y : Item), l[q]? = some y → listed'.getD y.2.1 false = false → listed.getD y.2.1 false = false)
    (en : Option Go.Ab.K × V) (hn : stp'.n = stp.n + 1) (hρ : ∀ t, x.1.dst ≠ some t → stp'.ρ t = stp.ρ t) (hrun : draws call (l.drop (p + 1)) (past ++ [en]) stp' K)
    (hpend : ∀ (q : Nat) (y : Item), q < p → l[q]? = some y → listed'.getD y.2.1 false = false → PendOK l st0 stp' q y.1)
    (hself : listed'.getD x.2.1 false = false → PendOK l st0 stp' p x.1 ∧ (isRd x.1.k = true → wantI (pre l st0 stp' p) x.1 = some true → en = (some x.1.k, match x.1.dst with | some d => stp'.ρ d | none => .undef))) :
    DI all l st0 call K listed' (p + 1) (past ++ [en]) stp' := by
  have hlt : p < l.length := (List.getElem?_eq_some_iff.1 hx).1
  refine ⟨hsz, hlt, by rw [hn, d.n]; omega, by simp [d.plen], hrun, fun t ht => ?_, hcl, hb, heff, fun q y hq hy hun => ?_, fun q y hq hy hun hk hw => ?_⟩
  · have h1 : x.1.dst ≠ some t := fun h => ht ⟨p, x, by omega, hx, h⟩
    rw [hρ t h1]
    exact d.frame t (fun h => ht (before_mono (by omega) h))
  · rcases Nat.lt_or_ge q p with hqp | hqp
    · exact hpend q y hqp hy hun
    · have : q = p := by omega
      subst this
      rw [hx] at hy; cases hy
      exact (hself hun).1
  · rcases Nat.lt_or_ge q p with hqp | hqp
    · rw [List.getElem?_append_left (by rw [d.plen]; exact hqp)]
      have hw' : wantI (pre l st0 stp q) y.1 = some true := by rw [← hw]; exact wantI_rho (pre_step pl hx hρ (Nat.le_of_lt hqp)).symm
      rw [d.past q y hqp hy (hmono q y hy hun) hk hw']
      cases hd : y.1.dst with
      | none => rfl
      | some dd =>
        have : x.1.dst ≠ some dd := fun h => by have := pl.dst hy hx hd h; omega
        simp only [hρ dd this]
    · have : q = p := by omega
      subst this
      rw [hx] at hy; cases hy
      rw [List.getElem?_append_right (by rw [d.plen]; exact Nat.le_refl _), d.plen]
      simp only [Nat.sub_self, List.getElem?_cons_zero, Option.some.injEq]
      exact (hself hun).2 hk hw

theorem DI.unlisted (d : DI all l st0 call K listed p past stp) {x : Item} (hx : l[p]? = some x) : listed.getD x.2.1 false = false := by
  cases h : listed.getD x.2.1 false with
  | false => rfl
  | true => exact absurd (d.before p x hx h) (Nat.lt_irrefl _)

theorem not_pend_self (pl : Plan all l) {x : Item} (hx : l[p]? = some x) {t : Nat} (hd : x.1.dst = some t) : ¬ Pend l listed p t := by
  rintro ⟨r, y, h1, h2, _, h3⟩
  have := pl.dst h2 hx h3 hd
  omega

/-- A reading that the listed order passes is left for later. -/
theorem DI.absorb1 (pl : Plan all l) (d : DI all l st0 call K listed p past stp) {x : Item} (hx : l[p]? = some x) (hk : isRd x.1.k = true) :
    ∃ past' stp', DI all l st0 call K listed (p + 1) past' stp' ∧ conc l st0 listed (p + 1) stp' = (conc l st0 listed p stp).tick := by
  have hun := d.unlisted hx
  have hself : (pre l st0 stp p).ρ = stp.ρ := pre_self d.frame
  have hpre : pre l st0 stp p = stp := by
    have : pre l st0 stp p = ⟨(pre l st0 stp p).ρ, stp.m, stp.n, stp.u, stp.h⟩ := rfl
    rw [this, hself]
  -- the new state, whatever the value
  have key : ∀ (v : V) (en : Option Go.Ab.K × V), draws call (l.drop (p + 1)) (past ++ [en]) (stp.put x.1.dst v).tick K →
      (match wantI stp x.1 with
        | some true => (∃ size, x.1.k = .bare size ∧ ∀ d, x.1.dst = some d → v = .lptr (st0.n + p) size 0) ∨ ((∀ size, x.1.k ≠ .bare size) ∧ rd stp x.1.k = some v)
        | some false => v = .undef
        | none => False) →
      (wantI stp x.1 = some true → en = (some x.1.k, match x.1.dst with | some d => (stp.put x.1.dst v).ρ d | none => .undef)) →
      ∃ past' stp', DI all l st0 call K listed (p + 1) past' stp' ∧ conc l st0 listed (p + 1) stp' = (conc l st0 listed p stp).tick := by
    intro v en hrun hval hen
    have hρ : ∀ t, x.1.dst ≠ some t → ((stp.put x.1.dst v).tick).ρ t = stp.ρ t := fun t ht => put_rho ht
    have hrest : ∀ q, pre l st0 (stp.put x.1.dst v).tick q = ⟨(pre l st0 (stp.put x.1.dst v).tick q).ρ, stp.m, stp.n + 1, stp.u, stp.h⟩ := fun q => by
      cases hd : x.1.dst <;> rfl
    have hw : wantI (pre l st0 (stp.put x.1.dst v).tick p) x.1 = wantI stp x.1 := wantI_rho ((pre_step pl hx hρ (Nat.le_refl _)).trans hself)
    have hdi : DI all l st0 call K listed (p + 1) (past ++ [en]) (stp.put x.1.dst v).tick := by
      refine d.push pl hx listed d.size d.closed (fun q y hy hl => Nat.lt_succ_of_lt (d.before q y hy hl)) (fun q y hq hy hkk => ?_) (fun _ _ _ h => h) en (by cases x.1.dst <;> rfl) hρ hrun (fun q y hq hy hl => ?_) (fun _ => ⟨?_, fun _ hww => ?_⟩)
      · rcases Nat.lt_or_ge q p with hqp | hqp
        · exact d.effs q y hqp hy hkk
        · have : q = p := by omega
          subst this
          rw [hx] at hy; cases hy
          rw [hk] at hkk; cases hkk
      · refine (d.pend q y hq hy hl).step (pre_step pl hx hρ (Nat.le_of_lt hq)) (fun dd hdd => hρ dd (fun h => by have := pl.dst hy hx hdd h; omega)) (fun v' _ _ hr hv' => ⟨v', ?_, fun dd hdd => ?_⟩)
        · rw [hrest q, pre_step pl hx hρ (Nat.le_of_lt hq)]
          rw [← hr]
          exact rd_congr (fun _ _ => rfl)
        · rw [hρ dd (fun h => by have := pl.dst hy hx hdd h; omega)]; exact hv' dd hdd
      · unfold PendOK
        rw [hw]
        split at hval
        · rename_i hwt
          rcases hval with ⟨size, h1, h2⟩ | ⟨h1, h2⟩
          · exact .inl ⟨size, h1, fun dd hdd => (put_same hdd).trans (h2 dd hdd)⟩
          · refine .inr ⟨hk, h1, v, ?_, fun dd hdd => put_same hdd⟩
            rw [hrest p, pre_step pl hx hρ (Nat.le_refl _), hself, ← h2]
            exact rd_congr (fun _ _ => rfl)
        · exact fun dd hdd => (put_same hdd).trans hval
        · exact hval.elim
      · rw [hw] at hww
        exact hen hww
    refine ⟨_, _, hdi, ?_⟩
    have hm : ((stp.put x.1.dst v).tick).m = stp.m ∧ ((stp.put x.1.dst v).tick).n = stp.n + 1 ∧ ((stp.put x.1.dst v).tick).u = stp.u ∧ ((stp.put x.1.dst v).tick).h = stp.h := by cases x.1.dst <;> exact ⟨rfl, rfl, rfl, rfl⟩
    unfold conc S.tick
    simp only [S.mk.injEq]
    refine ⟨?_, hm.1, hm.2.1, hm.2.2.1, hm.2.2.2⟩
    funext t
    by_cases hd : x.1.dst = some t
    · rw [if_pos ⟨p, x, by omega, hx, hun, hd⟩, if_neg (not_pend_self pl hx hd)]
      exact (d.frame t (fun h => before_ne pl hx (Nat.le_refl _) h hd)).symm
    · have hiff : Pend l listed (p + 1) t ↔ Pend l listed p t := by
        constructor
        · rintro ⟨r, y, h1, h2, h3, h4⟩
          rcases Nat.lt_or_ge r p with hr | hr
          · exact ⟨r, y, hr, h2, h3, h4⟩
          · have : r = p := by omega
            subst this
            rw [hx] at h2; cases h2
            exact absurd h4 hd
        · rintro ⟨r, y, h1, h2, h3⟩
          exact ⟨r, y, by omega, h2, h3⟩
      by_cases hp : Pend l listed p t
      · rw [if_pos (hiff.2 hp), if_pos hp]
      · rw [if_neg (fun h => hp (hiff.1 h)), if_neg hp]
        exact hρ t hd
  have hrun := d.run
  rw [drop_get hx] at hrun
  obtain ⟨o, i, js⟩ := x
  simp only [draws] at hrun
  simp only at hk key
  split at hrun
  · rename_i hw
    unfold op1 at hrun
    split at hrun
    · rename_i size hsz
      obtain ⟨_, hrun⟩ := hrun
      refine key (.lptr stp.n size 0) _ hrun ?_ (fun _ => ?_)
      · rw [hw]; exact .inl ⟨size, hsz, fun _ _ => by rw [d.n]⟩
      · rw [if_pos hk]; cases o.dst <;> rfl
    · rename_i kk hnb
      rw [if_pos hk] at hrun
      split at hrun
      · rename_i v hv
        obtain ⟨_, hrun⟩ := hrun
        refine key v _ hrun ?_ (fun _ => ?_)
        · rw [hw]; exact .inr ⟨hnb, hv⟩
        · rw [if_pos hk]; cases o.dst <;> rfl
      · exact hrun.elim
  · rename_i hw
    refine key .undef _ hrun ?_ (fun h => ?_)
    · rw [hw]
    · rw [hw] at h; cases h
  · exact hrun.elim

end
end Go.Ab
