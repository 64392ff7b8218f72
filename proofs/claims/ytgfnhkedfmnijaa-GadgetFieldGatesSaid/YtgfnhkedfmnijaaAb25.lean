/- Regions that draw their order: the proof. -/
import Derived.Test.YtgfnhkedfmnijaaAb24
set_option linter.unusedVariables false
set_option linter.unusedSimpArgs false
namespace Go.Ab

section
variable {G : List (Nat × List V)} {N : Nat} {e : Entry} {a : Act} {w : World} {P : Program} {hs : Hints}
variable {all : Array Oper} {l : Go.Ab.Ord} {st0 : S} {call : CallT} {K : Ex → S → Prop} {listed : Array Bool} {p : Nat} {past : List (Option Go.Ab.K × V)} {stp stp' : S}

theorem trDraw_get : ∀ {ord : List (Nat × List Nat)} {l : Go.Ab.Ord}, trDraw P hs all ord = some l → ∀ {p : Nat} {x : Item}, l[p]? = some x → ∃ o, all[x.2.1]? = some o ∧ trOp P hs all o = some x.1
  | [], l, h, p, x, hp => by simp [trDraw] at h; subst h; simp at hp
  | (i, js) :: ord, l, h, p, x, hp => by
    simp only [trDraw] at h
    split at h
    · rename_i o l' h1 h2
      split at h
      · rename_i a' h3
        simp only [Option.some.injEq] at h; subst h
        cases p with
        | zero => simp at hp; subst hp; exact ⟨o, h1, h3⟩
        | succ p => exact trDraw_get h2 (p := p) (by simpa using hp)
      · simp at h
    · simp at h

theorem lset {listed : Array Bool} {i j : Nat} (hi : i < listed.size) : (listed.setIfInBounds i true).getD j false = if j = i then true else listed.getD j false := by
  by_cases h : i = j
  · subst h; simp [hi]
  · rw [if_neg (fun h' => h h'.symm)]; exact getD_set_ne false h

theorem count_list {listed : Array Bool} {i : Nat} (hi : i < listed.size) (hu : listed.getD i false = false) {n : Nat} (hn : listed.toList.count false ≤ n + 1) : (listed.setIfInBounds i true).toList.count false ≤ n := by
  have h1 : listed[i] = false := by simpa [hi] using hu
  rw [Array.toList_setIfInBounds, List.count_set (by simpa using hi)]
  have h2 : listed.toList[i]'(by simpa using hi) = false := by simpa using h1
  have h3 := List.count_pos_iff.2 (show false ∈ listed.toList by rw [← h2]; exact List.getElem_mem _)
  rw [h2]
  show listed.toList.count false - 1 + 0 ≤ n
  omega

theorem closed_set (hc : Closed all listed) {i : Nat} {o : Oper} (hi : i < listed.size) (ho : all[i]? = some o) (he : ∀ ed ∈ o.after, Region.binds .any ed = true → listed.getD ed.on false = true) : Closed all (listed.setIfInBounds i true) := by
  intro j oj hj hl ed hed hb
  rw [lset hi] at hl ⊢
  split
  · rfl
  · split at hl
    · rename_i hji
      subst hji
      rw [ho] at hj; cases hj
      exact he ed hed hb
    · exact hc j oj hj hl ed hed hb

/-- What an operation that is at hand reads is what it would read in the listed order. -/
theorem conc_reads (pl : Plan all l) (hall : ∀ i, i < all.size → ∃ o, all[i]? = some o) (d : DI all l st0 call K listed p past stp) {q : Nat} {x : Item} (hx : l[q]? = some x) (hq : q ≤ p) (hun : listed.getD x.2.1 false = false) (hanc : ∀ b, Anc all x.2.1 b → listed.getD b false = true) :
    ∀ t ∈ x.1.reads, (conc l st0 listed p stp).ρ t = (pre l st0 stp q).ρ t := by
  intro t ht
  have later : ∀ {r : Nat} {y : Item}, l[r]? = some y → Anc all y.2.1 x.2.1 → q < r := by
    intro r y hy hm
    obtain ⟨q', x', h1, h2, h3⟩ := pl.anc hy hm
    have := pl.num h2 hx h3
    omega
  simp only [conc, pre]
  by_cases hp : Pend l listed p t
  · rw [if_pos hp]
    obtain ⟨r, y, h1, h2, h3, h4⟩ := hp
    have hnb : ¬ Before l q t := by
      rintro ⟨r', z, g1, g2, g3⟩
      have := pl.dst h2 g2 h4 g3
      subst this
      rcases pl.names h2 hx h4 ht with h | h | h
      · omega
      · rw [hanc _ h] at h3; cases h3
      · have := later h2 h; omega
    rw [if_neg hnb]
  · rw [if_neg hp]
    by_cases hb : Before l q t
    · rw [if_pos hb]
    · rw [if_neg hb]
      refine d.frame t (fun ⟨r, y, g1, g2, g3⟩ => ?_)
      have hly : listed.getD y.2.1 false = true := by
        cases h : listed.getD y.2.1 false with
        | true => rfl
        | false => exact absurd ⟨r, y, g1, g2, h, g3⟩ hp
      have hqr : q ≤ r := by
        rcases Nat.lt_or_ge r q with h | h
        · exact absurd ⟨r, y, h, g2, g3⟩ hb
        · exact h
      rcases pl.names g2 hx g3 ht with h | h | h
      · subst h; rw [hx] at g2; cases g2; rw [hun] at hly; cases hly
      · obtain ⟨r', y', f1, f2, f3⟩ := pl.anc hx h
        have := pl.num f2 g2 f3
        omega
      · obtain ⟨oy, hoy⟩ := hall _ (pl.lt g2)
        have := anc_listed d.closed _ oy hoy (d.closed _ _ hoy hly) _ h
        rw [hun] at this; cases this

theorem DI.absorb (pl : Plan all l) : ∀ (m : Nat) {p : Nat} {past : List (Option Go.Ab.K × V)} {stp : S}, l.length - p ≤ m → DI all l st0 call K listed p past stp →
    Inv G N { e with res := Res l st0 listed p } (conc l st0 listed p stp) a w →
    ∃ p' past' stp', DI all l st0 call K listed p' past' stp' ∧ (∀ x, l[p']? = some x → isRd x.1.k = false) ∧ Inv G N { e with res := Res l st0 listed p' } (conc l st0 listed p' stp') a w := by
  intro m
  induction m with
  | zero =>
    intro p past stp hm d hi
    refine ⟨p, past, stp, d, fun x hx => ?_, hi⟩
    have := (List.getElem?_eq_some_iff.1 hx).1
    omega
  | succ m ih =>
    intro p past stp hm d hi
    cases hx : l[p]? with
    | none => exact ⟨p, past, stp, d, fun x h => (by rw [hx] at h; cases h), hi⟩
    | some x =>
      cases hk : isRd x.1.k with
      | false => exact ⟨p, past, stp, d, fun y h => (by rw [hx] at h; cases h; exact hk), hi⟩
      | true =>
        obtain ⟨past', stp', d', hc⟩ := d.absorb1 pl hx hk
        have hlt := (List.getElem?_eq_some_iff.1 hx).1
        refine ih (by omega) d' ?_
        rw [hc]
        obtain ⟨k, β, A, h⟩ := hi
        have ht := h.tick
        refine ⟨k, β, A, ht.resCut (R := Res l st0 listed (p + 1)) (fun s hs => ?_)⟩
        obtain ⟨q, y, g1, g2, g3, g4⟩ := hs
        rcases Nat.lt_or_ge q p with hqp | hqp
        · exact ht.res s ⟨q, y, hqp, g2, g3, g4⟩
        · have : q = p := by omega
          subst this
          subst g4
          have hn : (conc l st0 listed q stp).n = st0.n + q := d.n
          refine ⟨?_, fun hA => ?_⟩
          · show st0.n + q < (conc l st0 listed q stp).n + 1
            rw [hn]; omega
          · have := (h.alloc _ hA).1
            rw [hn] at this
            omega

theorem again_get {st : S} {past : List (Option Go.Ab.K × V)} : ∀ {js : List Nat}, again st past js → ∀ {j : Nat} {k : Go.Ab.K} {v : V}, j ∈ js → past[j]? = some (some k, v) → rd st k = some v
  | [], _, j, k, v, hj, _ => by simp at hj
  | i :: js, h, j, k, v, hj, hp => by
    simp only [again] at h
    rcases List.mem_cons.1 hj with rfl | hj
    · rw [hp] at h; exact h.1
    · split at h
      · exact again_get h.2 hj hp
      · exact again_get h hj hp

/-- What a waiting operation's slot gets, when it is carried out. -/
theorem conc_set (pl : Plan all l) (hs : listed.size = all.size) {q : Nat} {x : Item} (hx : l[q]? = some x) (hq : q < p) (hun : listed.getD x.2.1 false = false) {v : V} (hv : ∀ d, x.1.dst = some d → stp.ρ d = v) :
    conc l st0 (listed.setIfInBounds x.2.1 true) p stp = (conc l st0 listed p stp).put x.1.dst v := by
  have hsz : x.2.1 < listed.size := by rw [hs]; exact pl.lt hx
  have hiff : ∀ t, x.1.dst ≠ some t → (Pend l (listed.setIfInBounds x.2.1 true) p t ↔ Pend l listed p t) := by
    intro t ht
    constructor
    · rintro ⟨r, y, h1, h2, h3, h4⟩
      rw [lset hsz] at h3
      split at h3
      · cases h3
      · exact ⟨r, y, h1, h2, h3, h4⟩
    · rintro ⟨r, y, h1, h2, h3, h4⟩
      refine ⟨r, y, h1, h2, ?_, h4⟩
      rw [lset hsz, if_neg]
      · exact h3
      · intro heq
        have := pl.num h2 hx heq
        subst this
        rw [hx] at h2; cases h2
        exact ht h4
  have hρ : (conc l st0 (listed.setIfInBounds x.2.1 true) p stp).ρ = ((conc l st0 listed p stp).put x.1.dst v).ρ := by
    funext t
    by_cases hd : x.1.dst = some t
    · rw [put_same hd]
      have : ¬ Pend l (listed.setIfInBounds x.2.1 true) p t := by
        rintro ⟨r, y, h1, h2, h3, h4⟩
        have := pl.dst h2 hx h4 hd
        subst this
        rw [hx] at h2; cases h2
        rw [lset hsz, if_pos rfl] at h3; cases h3
      simp only [conc]
      rw [if_neg this]
      exact hv t hd
    · rw [put_rho hd]
      simp only [conc]
      by_cases hp : Pend l listed p t
      · rw [if_pos hp, if_pos ((hiff t hd).2 hp)]
      · rw [if_neg hp, if_neg (fun h => hp ((hiff t hd).1 h))]
  have h2 : (conc l st0 listed p stp).put x.1.dst v = ⟨((conc l st0 listed p stp).put x.1.dst v).ρ, stp.m, stp.n, stp.u, stp.h⟩ := by cases x.1.dst <;> rfl
  rw [h2, ← hρ]
  rfl

theorem res_set (pl : Plan all l) (hs : listed.size = all.size) {q : Nat} {x : Item} (hx : l[q]? = some x) {s : Nat} (h : Res l st0 (listed.setIfInBounds x.2.1 true) p s) : Res l st0 listed p s ∧ s ≠ st0.n + q := by
  have hsz : x.2.1 < listed.size := by rw [hs]; exact pl.lt hx
  obtain ⟨r, y, h1, h2, h3, h4⟩ := h
  rw [lset hsz] at h3
  split at h3
  · cases h3
  · rename_i hne
    refine ⟨⟨r, y, h1, h2, h3, h4⟩, fun heq => hne ?_⟩
    have : r = q := by omega
    subst this
    rw [hx] at h2; cases h2; rfl

/-- An operation that waited is carried out: nothing else is told anew. -/
theorem DI.set (pl : Plan all l) (d : DI all l st0 call K listed p past stp) {q : Nat} {x : Item} {o : Oper} (hx : l[q]? = some x) (hq : q < p) (ho : all[x.2.1]? = some o) (he : ∀ ed ∈ o.after, Region.binds .any ed = true → listed.getD ed.on false = true) :
    DI all l st0 call K (listed.setIfInBounds x.2.1 true) p past stp := by
  have hsz : x.2.1 < listed.size := by rw [d.size]; exact pl.lt hx
  have hback : ∀ (y : Item), (listed.setIfInBounds x.2.1 true).getD y.2.1 false = false → listed.getD y.2.1 false = false := by
    intro y h
    rw [lset hsz] at h
    split at h
    · cases h
    · exact h
  refine ⟨by simpa using d.size, d.ple, d.n, d.plen, d.run, d.frame, closed_set d.closed hsz ho he, fun r y hy hl => ?_, fun r y hr hy hk => ?_, fun r y hr hy hu => d.pend r y hr hy (hback y hu), fun r y hr hy hu => d.past r y hr hy (hback y hu)⟩
  · rw [lset hsz] at hl
    split at hl
    · rename_i heq
      rw [pl.num hy hx heq]; exact hq
    · exact d.before r y hy hl
  · rw [lset hsz]
    split
    · rfl
    · exact d.effs r y hr hy hk

/-- An operation that changes the store is carried out. -/
theorem DI.eff (pl : Plan all l) (d : DI all l st0 call K listed p past stp) {x : Item} {o : Oper} (hx : l[p]? = some x) (hk : isRd x.1.k = false) (ho : all[x.2.1]? = some o) (he : ∀ ed ∈ o.after, Region.binds .any ed = true → listed.getD ed.on false = true)
    (hanc : ∀ b, Anc all x.2.1 b → listed.getD b false = true) (en : Option Go.Ab.K × V) (hn : stp'.n = stp.n + 1) (hρ : ∀ t, x.1.dst ≠ some t → stp'.ρ t = stp.ρ t) (hrun : draws call (l.drop (p + 1)) (past ++ [en]) stp' K)
    (hmem : (∀ ρ k', readsMem k' = true → rd ⟨ρ, stp'.m, stp'.n, stp'.u, stp'.h⟩ k' = rd ⟨ρ, stp.m, stp.n, stp.u, stp.h⟩ k') ∨ again ⟨stp'.ρ, stp'.m, stp'.n, stp'.u, stp'.h⟩ past x.2.2) :
    DI all l st0 call K (listed.setIfInBounds x.2.1 true) (p + 1) (past ++ [en]) stp' := by
  have hsz : x.2.1 < listed.size := by rw [d.size]; exact pl.lt hx
  have hback : ∀ (y : Item), (listed.setIfInBounds x.2.1 true).getD y.2.1 false = false → listed.getD y.2.1 false = false := by
    intro y h
    rw [lset hsz] at h
    split at h
    · cases h
    · exact h
  have hframe : ∀ t, ¬ Before l (p + 1) t → stp'.ρ t = st0.ρ t := by
    intro t ht
    rw [hρ t (fun h => ht ⟨p, x, by omega, hx, h⟩)]
    exact d.frame t (fun h => ht (before_mono (by omega) h))
  refine d.push pl hx _ (by simpa using d.size) (closed_set d.closed hsz ho he) (fun r y hy hl => ?_) (fun r y hr hy hkk => ?_) (fun r y _ h => hback y h) en hn hρ hrun (fun r y hr hy hu => ?_) (fun hu => ?_)
  · rw [lset hsz] at hl
    split at hl
    · rename_i heq
      rw [pl.num hy hx heq]; omega
    · exact Nat.lt_succ_of_lt (d.before r y hy hl)
  · rw [lset hsz]
    split
    · rfl
    · rename_i hne
      rcases Nat.lt_or_ge r p with h | h
      · exact d.effs r y h hy hkk
      · have : r = p := by omega
        subst this
        rw [hx] at hy; cases hy
        exact absurd rfl hne
  · have hu0 := hback y hu
    have hdd : ∀ dd, y.1.dst = some dd → stp'.ρ dd = stp.ρ dd := fun dd hd => hρ dd (fun h => by have := pl.dst hy hx hd h; omega)
    have hpr := pre_step (st0 := st0) pl hx hρ (Nat.le_of_lt hr)
    have hP := d.pend r y hr hy hu0
    refine hP.step hpr hdd (fun v hrk hw hrd hv => ?_)
    have hshape : ∀ (s : S), pre l st0 s r = ⟨(pre l st0 s r).ρ, s.m, s.n, s.u, s.h⟩ := fun _ => rfl
    cases hm : readsMem y.1.k with
    | false =>
      refine ⟨v, ?_, fun dd hd => (hdd dd hd).trans (hv dd hd)⟩
      rw [← hrd, hshape stp', hshape stp, hpr]
      exact rd_nomem hm
    | true =>
      rcases hmem with hmem | hag
      · refine ⟨v, ?_, fun dd hd => (hdd dd hd).trans (hv dd hd)⟩
        rw [← hrd, hshape stp', hshape stp, hpr]
        exact hmem _ _ hm
      · rcases pl.mem hx hk hy hr hm with h | ⟨h1, h2⟩
        · rw [hanc _ h] at hu0; cases hu0
        · have hpast := d.past r y hr hy hu0 hrk hw
          have hg := again_get hag h1 hpast
          refine ⟨(match y.1.dst with | some d => stp.ρ d | none => .undef), ?_, fun dd hd => ?_⟩
          · rw [hshape stp']
            refine Eq.trans (rd_congr (fun t ht => ?_)) hg
            simp only [pre]
            split
            · rfl
            · rename_i hb
              refine (hframe t (fun ⟨r', z, g1, g2, g3⟩ => ?_)).symm
              rcases Nat.lt_or_ge r' r with h | h
              · exact hb ⟨r', z, h, g2, g3⟩
              · exact h2 t r' z ht h (by omega) g2 g3
          · rw [hd]
            exact hdd dd hd
  · rw [lset hsz, if_pos rfl] at hu; cases hu

theorem conc_eff (pl : Plan all l) (d : DI all l st0 call K listed p past stp) {x : Item} (hx : l[p]? = some x) {m : Nat → Option (List V)} {u : List Nat} {h : H} {v : V} :
    conc l st0 (listed.setIfInBounds x.2.1 true) (p + 1) (S.put ⟨stp.ρ, m, stp.n, u, h⟩ x.1.dst v).tick = (S.put ⟨(conc l st0 listed p stp).ρ, m, stp.n, u, h⟩ x.1.dst v).tick := by
  have hsz : x.2.1 < listed.size := by rw [d.size]; exact pl.lt hx
  have hun := d.unlisted hx
  have hiff : ∀ t, Pend l (listed.setIfInBounds x.2.1 true) (p + 1) t ↔ Pend l listed p t := by
    intro t
    constructor
    · rintro ⟨r, y, h1, h2, h3, h4⟩
      rw [lset hsz] at h3
      split at h3
      · cases h3
      · rename_i hne
        rcases Nat.lt_or_ge r p with h | h
        · exact ⟨r, y, h, h2, h3, h4⟩
        · have : r = p := by omega
          subst this
          rw [hx] at h2; cases h2
          exact absurd rfl hne
    · rintro ⟨r, y, h1, h2, h3, h4⟩
      refine ⟨r, y, by omega, h2, ?_, h4⟩
      rw [lset hsz, if_neg]
      · exact h3
      · intro heq
        have := pl.num h2 hx heq
        omega
  have e1 : ∀ (ρ : Nat → V), (S.put ⟨ρ, m, stp.n, u, h⟩ x.1.dst v).tick = ⟨(S.put ⟨ρ, m, stp.n, u, h⟩ x.1.dst v).ρ, m, stp.n + 1, u, h⟩ := fun ρ => by cases x.1.dst <;> rfl
  have hρ : (conc l st0 (listed.setIfInBounds x.2.1 true) (p + 1) (S.put ⟨stp.ρ, m, stp.n, u, h⟩ x.1.dst v).tick).ρ = (S.put ⟨(conc l st0 listed p stp).ρ, m, stp.n, u, h⟩ x.1.dst v).ρ := by
    funext t
    simp only [conc]
    by_cases hp : Pend l listed p t
    · have hd : x.1.dst ≠ some t := fun h => not_pend_self pl hx h hp
      rw [if_pos ((hiff t).2 hp), put_rho hd]
      simp only
      rw [if_pos hp]
    · rw [if_neg (fun h => hp ((hiff t).1 h)), e1]
      by_cases hd : x.1.dst = some t
      · rw [put_same hd, put_same hd]
      · rw [put_rho hd, put_rho hd]
        simp only
        rw [if_neg hp]
  rw [e1 (conc l st0 listed p stp).ρ, ← hρ]
  rw [e1 stp.ρ]
  rfl

theorem QK.cut {R : Nat → Prop} {K' : Ex → S → Prop} {ch : List PanicEntry} (h : QK G N { e with res := R } K' (.panic ch) a w) (hK : ∀ v h', K' (.pan v) (.blank h') → K (.pan v) (.blank h')) : QK G N e K (.panic ch) a w := by
  obtain ⟨v, h', h1, h2, x, k', h3, h4, h5, h6⟩ := h
  exact ⟨v, h', hK _ _ h1, h2, x, k', h3, h4, ⟨h5.keeps, h5.lim, h5.same, h5.src, h5.misc⟩, h6⟩

theorem draw_any (hG : ∀ g cells, (g, cells) ∈ hs.glob → (g, cells) ∈ G) (hc : CallOK P G call) (hm : MonoT call) (hres : ∀ s, ¬ e.res s) (pl : Plan all l) {ord : List (Nat × List Nat)} (htr : trDraw P hs all ord = some l) (hdst : dstsOk N all = true) :
    ∀ (fuel : Nat) (listed : Array Bool) (p : Nat) (past : List (Option Go.Ab.K × V)) (stp : S) (a : Act) (w : World), DI all l st0 call K listed p past stp → (∀ x, l[p]? = some x → isRd x.1.k = false) →
      Inv G N { e with res := Res l st0 listed p } (conc l st0 listed p stp) a w → listed.toList.count false ≤ fuel → wpAny P .any all (QK G N e K) fuel listed a w := by
  have hallo : ∀ i, i < all.size → ∃ o, all[i]? = some o := fun i hi => ⟨all[i], by simp [hi]⟩
  -- all is done
  have hend : ∀ (listed : Array Bool) (p : Nat) (past : List (Option Go.Ab.K × V)) (stp : S) (a : Act) (w : World), DI all l st0 call K listed p past stp →
      Inv G N { e with res := Res l st0 listed p } (conc l st0 listed p stp) a w → Region.ready .any all listed = [] → QK G N e K .normal a w := by
    intro listed p past stp a w d hi hr
    have hdone : ∀ i, i < all.size → listed.getD i false = true := by
      intro i
      induction i using Nat.strongRecOn with
      | _ i ih =>
        intro hlt
        cases hl : listed.getD i false with
        | true => rfl
        | false =>
          exfalso
          obtain ⟨o, ho⟩ := hallo i hlt
          have : i ∈ Region.ready .any all listed := by
            rw [mem_ready]
            refine ⟨?_, o, ho, fun ed hed hb => ?_⟩
            · have hsz : i < listed.size := by rw [d.size]; exact hlt
              simpa [hsz] using hl
            · have := pl.edge ho ed hed hb
              exact ih ed.on this (by omega)
          rw [hr] at this
          cases this
    have hp : p = l.length := by
      rcases Nat.lt_or_ge p l.length with h | h
      · have hx : l[p]? = some l[p] := List.getElem?_eq_getElem h
        exact absurd (d.before p _ hx (hdone _ (pl.lt hx))) (Nat.lt_irrefl _)
      · have := d.ple; omega
    have hrun := d.run
    rw [hp, List.drop_length] at hrun
    simp only [draws] at hrun
    have hnp : ∀ t, ¬ Pend l listed p t := by
      rintro t ⟨r, y, h1, h2, h3, h4⟩
      rw [hdone _ (pl.lt h2)] at h3; cases h3
    have hcs : conc l st0 listed p stp = stp := by
      have : (conc l st0 listed p stp).ρ = stp.ρ := by
        funext t; simp only [conc]; rw [if_neg (hnp t)]
      show S.mk (conc l st0 listed p stp).ρ _ _ _ _ = _
      rw [this]
    rw [hcs] at hi
    obtain ⟨k, β, A, h⟩ := hi
    exact ⟨stp, hrun, k, β, A, h.resCut (R := e.res) (fun s hs => absurd hs (hres s))⟩
  intro fuel
  induction fuel with
  | zero =>
    intro listed p past stp a w d hab hi hn
    have hr : Region.ready .any all listed = [] := by
      refine List.eq_nil_iff_forall_not_mem.2 (fun i hi => ?_)
      obtain ⟨h0, o, ho, _⟩ := mem_ready.1 hi
      have hlt : i < listed.size := by rw [d.size]; exact (Array.getElem?_eq_some_iff.1 ho).1
      have h1 : listed[i] = false := by simpa [hlt] using h0
      have : false ∈ listed.toList := by rw [← h1]; simp
      have := List.count_pos_iff.2 this
      omega
    exact ⟨hr, hend listed p past stp a w d hi hr⟩
  | succ fuel ih =>
    intro listed p past stp a w d hab hi hn
    refine ⟨hend listed p past stp a w d hi, fun i hi' => ?_⟩
    obtain ⟨h0, o, ho, hed⟩ := mem_ready.1 hi'
    have hlt : i < all.size := (Array.getElem?_eq_some_iff.1 ho).1
    obtain ⟨q, x, hx, rfl⟩ := pl.onto i hlt
    have hsz : x.2.1 < listed.size := by rw [d.size]; exact hlt
    have hun : listed.getD x.2.1 false = false := by simpa [hsz] using h0
    have hanc : ∀ b, Anc all x.2.1 b → listed.getD b false = true := anc_listed d.closed _ o ho hed
    have hqp : q ≤ p := by
      rcases Nat.lt_or_ge p q with h | h
      · have hpl : p < l.length := by have := (List.getElem?_eq_some_iff.1 hx).1; omega
        have hxp : l[p]? = some l[p] := List.getElem?_eq_getElem hpl
        have := hanc _ (pl.hang hxp (hab _ hxp) hx h)
        exact absurd (d.before p _ hxp this) (Nat.lt_irrefl _)
      · exact h
    obtain ⟨o', ho', htrO⟩ := trDraw_get htr hx
    rw [ho] at ho'; cases ho'
    have hdl : ∀ t, o.dst = some t → t < N := by
      intro t ht
      have := (Array.all_eq_true').1 hdst o (Array.mem_of_getElem? ho)
      rw [ht] at this
      simpa using this
    have hb := trOp_both htrO hdl
    have hreads := conc_reads pl hallo d hx hqp hun hanc
    have hwI : wantI (conc l st0 listed p stp) x.1 = wantI (pre l st0 stp q) x.1 := wantI_congr hreads
    obtain ⟨k, β, A, h⟩ := hi
    -- what follows, from any later state
    have next : ∀ (p' : Nat) (past' : List (Option Go.Ab.K × V)) (stp' : S) (a' : Act) (w' : World), DI all l st0 call K (listed.setIfInBounds x.2.1 true) p' past' stp' →
        Inv G N { e with res := Res l st0 (listed.setIfInBounds x.2.1 true) p' } (conc l st0 (listed.setIfInBounds x.2.1 true) p' stp') a' w' → wpAny P .any all (QK G N e K) fuel (listed.setIfInBounds x.2.1 true) a' w' := by
      intro p' past' stp' a' w' d' hi'
      obtain ⟨p2, past2, stp2, d2, hab2, hi2⟩ := DI.absorb (e := e) pl _ (Nat.le_refl _) d' hi'
      exact ih _ p2 past2 stp2 a' w' d2 hab2 hi2 (count_list hsz hun hn)
    unfold wpOp
    rw [ho]
    simp only
    rcases Nat.lt_or_ge q p with hlt' | hge
    · -- it waited
      have d' := d.set pl hx hlt' ho hed
      have hcut : ∀ {k' : Ctx} {v : V} {X : Value} {w' : World}, (∀ dd, x.1.dst = some dd → stp.ρ dd = v) → FW G N { e with res := Res l st0 listed p } k' β A ((conc l st0 listed p stp).put x.1.dst v) (a.put o.dst X) w' →
          wpAny P .any all (QK G N e K) fuel (listed.setIfInBounds x.2.1 true) (a.put o.dst X) w' := by
        intro k' v X w' hv hf
        refine next p past stp _ _ d' ?_
        rw [conc_set pl d.size hx hlt' hun hv]
        exact ⟨k', β, A, hf.resCut (R := Res l st0 (listed.setIfInBounds x.2.1 true) p) (fun s hs => hf.res s (res_set pl d.size hx hs).1)⟩
      have hP := d.pend q x hlt' hx hun
      have hrk : isRd x.1.k = true := by
        cases hk : isRd x.1.k with
        | true => rfl
        | false => rw [d.effs q x hlt' hx hk] at hun; cases hun
      unfold PendOK at hP
      split at hP
      · rename_i hw
        rw [want_sound h hb (hwI.trans hw), if_pos rfl]
        refine .inl ?_
        rcases hP with ⟨size, hsize, hval⟩ | ⟨_, hnb, v, hrd, hval⟩
        · obtain ⟨t, z, hop, hz, hzl⟩ := trK_bare (by rw [hb.k, hsize])
          obtain ⟨zx, hzr, hzc⟩ := zeroT_sound (P := P) (w := w) (k := k) hz
          have hrun : (execOp a.eval o).run P w = .ok (.value (.pointer (some ⟨w.heap.size, 0, none⟩))) (w.alloc (.cells zx.cells t)) := by
            simp only [execOp, hop]
            exact exec_value (by simp [Instr.alloc, hzr, newVar, newRow])
          unfold Oper.wp
          rw [hrun]
          show wpAny P .any all (QK G N e K) fuel (listed.setIfInBounds x.2.1 true) (a.put o.dst _) (w.alloc (.cells zx.cells t))
          refine next p past stp _ _ d' ?_
          rw [conc_set pl d.size hx hlt' hun hval, hb.dst]
          have hr0 := h.res (st0.n + q) ⟨q, x, hlt', hx, hun, rfl⟩
          exact h.bareAt (e := { e with res := Res l st0 listed p }) hdl (by rw [← hzl]; simpa using hzc.1) hr0.1 hr0.2 (R := Res l st0 (listed.setIfInBounds x.2.1 true) p) (fun s hs => by
            obtain ⟨g1, g2⟩ := res_set pl d.size hx hs
            exact ⟨(h.res s g1).1, (h.res s g1).2, g2⟩)
        · have hrd' : rd (conc l st0 listed p stp) x.1.k = some v := by
            rw [← hrd]
            show rd ⟨_, stp.m, stp.n, stp.u, stp.h⟩ x.1.k = rd ⟨_, stp.m, stp.n, stp.u, stp.h⟩ x.1.k
            exact rd_congr (fun t ht => hreads t (List.mem_append_left _ ht))
          obtain ⟨X, w', k', r1, r2, r3⟩ := rd_sound h hG hb.k hrd'
          unfold Oper.wp
          rw [r1]
          show wpAny P .any all (QK G N e K) fuel (listed.setIfInBounds x.2.1 true) (a.put o.dst X) w'
          have hput := r2.put (d := o.dst) hdl r3
          rw [← hb.dst] at hput
          have := hcut (v := v) (X := X) hval (by rw [← hb.dst]; exact hput)
          exact this
      · rename_i hw
        rw [want_sound h hb (hwI.trans hw)]
        simp only [Bool.false_eq_true, if_false]
        have hput := h.putU (o := o) hdl
        rw [← hb.dst] at hput
        exact hcut (v := .undef) (X := undef) hP (by rw [← hb.dst]; exact hput)
      · exact hP.elim
    · -- it changes the store
      have hpq : q = p := by omega
      subst hpq
      have hk : isRd x.1.k = false := hab x hx
      have hself : (pre l st0 stp q).ρ = stp.ρ := pre_self d.frame
      have hwS : wantI (conc l st0 listed q stp) x.1 = wantI stp x.1 := hwI.trans (wantI_rho hself)
      have hrun := d.run
      rw [drop_get hx] at hrun
      have hsub : ∀ {s}, Res l st0 (listed.setIfInBounds x.2.1 true) (q + 1) s → Res l st0 listed q s := by
        rintro s ⟨r, y, h1, h2, h3, h4⟩
        rw [lset hsz] at h3
        split at h3
        · cases h3
        · rename_i hne
          rcases Nat.lt_or_ge r q with hr | hr
          · exact ⟨r, y, hr, h2, h3, h4⟩
          · have : r = q := by omega
            subst this
            rw [hx] at h2; cases h2
            exact absurd rfl hne
      have hcut : ∀ {st' : S} {a' : Act} {w' : World}, Inv G N { e with res := Res l st0 listed q } st' a' w' → Inv G N { e with res := Res l st0 (listed.setIfInBounds x.2.1 true) (q + 1) } st' a' w' := by
        rintro st' a' w' ⟨k', β', A', hf⟩
        exact ⟨k', β', A', hf.resCut (R := Res l st0 (listed.setIfInBounds x.2.1 true) (q + 1)) (fun s hs => hf.res s (hsub hs))⟩
      obtain ⟨io, i, js⟩ := x
      simp only [draws] at hrun
      simp only at hwS hk hb hx hed ho hanc hreads hcut next hsz
      split at hrun
      · rename_i hw
        rw [want_sound h hb (hwS.trans hw), if_pos rfl]
        refine .inl ?_
        have htw := op1_twin hm (ρ2 := (conc l st0 listed q stp).ρ) hk (fun t ht => by
          have := hreads t (List.mem_append_left _ ht)
          rw [hself] at this
          exact this.symm) hrun
        have hE := op1_sound h hG hc hb.k hb.dst hdl (st := conc l st0 listed q stp) htw
        unfold EffOK at hE
        refine Oper.wp_monoQ ?_ ?_ ?_ hE
        · rintro a' w' ⟨st2, ⟨v, m', u', h', rfl, hag, hdr⟩, hinv⟩
          have hρ' : ∀ t, io.dst ≠ some t → ((S.put ⟨stp.ρ, m', stp.n, u', h'⟩ io.dst v).tick).ρ t = stp.ρ t := fun t ht => put_rho ht
          have d2 := d.eff (stp' := (S.put ⟨stp.ρ, m', stp.n, u', h'⟩ io.dst v).tick) pl hx hk ho hed hanc _ (by cases io.dst <;> rfl) hρ' hdr (.inr (by
            have e1 : ∀ (s : S) (past : List (Option Go.Ab.K × V)) (js : List Nat) (n' : Nat), again s past js → again ⟨s.ρ, s.m, n', s.u, s.h⟩ past js := by
              intro s past js n' hh
              induction js with
              | nil => trivial
              | cons j js ihj =>
                simp only [again] at hh ⊢
                split at hh
                · exact ⟨by rw [← hh.1]; exact rd_congr (fun _ _ => rfl), ihj hh.2⟩
                · exact ihj hh
            exact e1 (S.put ⟨stp.ρ, m', stp.n, u', h'⟩ io.dst v) past js _ hag))
          refine next _ _ _ _ _ d2 ?_
          have hce := conc_eff (st0 := st0) pl d hx (m := m') (u := u') (h := h') (v := v)
          simp only at hce
          rw [hce]
          exact hcut hinv
        · rintro c a' w' hq
          exact hq.cut (fun v h' hh => hh)
        · exact fun a w hq => hq.elim
      · rename_i hw
        rw [want_sound h hb (hwS.trans hw)]
        simp only [Bool.false_eq_true, if_false]
        have hρ' : ∀ t, io.dst ≠ some t → ((S.put stp io.dst .undef).tick).ρ t = stp.ρ t := fun t ht => put_rho ht
        have hsh : (S.put stp io.dst .undef).tick = (S.put ⟨stp.ρ, stp.m, stp.n, stp.u, stp.h⟩ io.dst .undef).tick := rfl
        have d2 := d.eff (stp' := (S.put stp io.dst .undef).tick) pl hx hk ho hed hanc _ (by cases io.dst <;> rfl) hρ' hrun (.inl (fun ρ k' _ => by cases io.dst <;> exact rd_congr (fun _ _ => rfl)))
        refine next _ _ _ _ _ d2 ?_
        have hce := conc_eff (st0 := st0) pl d hx (m := stp.m) (u := stp.u) (h := stp.h) (v := .undef)
        simp only at hce
        rw [hsh, hce]
        refine hcut ?_
        have hput := h.tick.putU (o := o) hdl
        rw [← hb.dst] at hput ⊢
        rw [put_tick]
        exact hput.inv
      · exact hrun.elim

theorem draw_ok (hG : ∀ g cells, (g, cells) ∈ hs.glob → (g, cells) ∈ G) (hmix : P.follows .mixedOrders = true) : DrawOK P hs N G := by
  intro e call all an ord l id st a w K hc hm hres htr hdst hok he hi
  have pl := plan_of hok
  refine wp_region_any hmix ?_
  have hlen : l.length = all.size := by
    unfold drawOk at hok
    simp only [Bool.and_eq_true] at hok
    exact of_decide_eq_true hok.1.1.1.1.1.1.1.2
  have hrep : ∀ (i : Nat), (Array.replicate all.size false).getD i false = false := by
    intro i
    rw [Array.getD_eq_getD_getElem?, Array.getElem?_replicate]
    split <;> rfl
  have d : DI all l st call K (Array.replicate all.size false) 0 [] st := by
    refine ⟨by simp, Nat.zero_le _, rfl, rfl, by simpa using he, fun _ _ => rfl, fun i o _ h => ?_, fun q x _ h => ?_, fun q x h => absurd h (Nat.not_lt_zero _), fun q x h => absurd h (Nat.not_lt_zero _), fun q x h => absurd h (Nat.not_lt_zero _)⟩
    · rw [hrep] at h; cases h
    · rw [hrep] at h; cases h
  have hcs : conc l st (Array.replicate all.size false) 0 st = st := by
    have : (conc l st (Array.replicate all.size false) 0 st).ρ = st.ρ := by
      funext t; simp only [conc]; split <;> rfl
    show S.mk (conc l st (Array.replicate all.size false) 0 st).ρ _ _ _ _ = _
    rw [this]
  have hi0 : Inv G N { e with res := Res l st (Array.replicate all.size false) 0 } (conc l st (Array.replicate all.size false) 0 st) a { w with drawn := w.drawn + 1 } := by
    rw [hcs]
    obtain ⟨k, β, A, h⟩ := hi
    exact ⟨k, β, A, h.drew.resCut (fun s hs => by obtain ⟨q, x, h, _⟩ := hs; exact absurd h (Nat.not_lt_zero _))⟩
  obtain ⟨p', past', stp', d', hab, hi'⟩ := DI.absorb (e := e) pl _ (Nat.le_refl _) d hi0
  exact draw_any hG hc hm hres pl htr hdst all.size _ p' past' stp' a _ d' hab hi' (by
    have := List.count_le_length (a := false) (l := (Array.replicate all.size false).toList)
    rw [Array.length_toList, Array.size_replicate] at this
    exact this)

end
end Go.Ab
