/- Of what a reading and a change of the layer Ab depend; runs may be asked for less. -/
import Derived.Test.YtgfnhkedfmnijaaAb21
set_option linter.unusedVariables false
set_option linter.unusedSimpArgs false
namespace Go.Ab

theorem evA_congr {ρ ρ' : Nat → V} : ∀ {x : Arg}, (∀ t ∈ x.tmps, ρ t = ρ' t) → evA ρ x = evA ρ' x
  | .tmp t, h => h t (by simp [Arg.tmps])
  | .cst v, h => rfl
  | .glob g c, h => rfl

theorem evO_congr {ρ ρ' : Nat → V} : ∀ {x : Option Arg}, (∀ t ∈ optTmps x, ρ t = ρ' t) → x.map (evA ρ) = x.map (evA ρ')
  | none, h => rfl
  | some x, h => by simp only [Option.map_some]; rw [evA_congr h]

theorem evL_congr {ρ ρ' : Nat → V} {xs : List Arg} (h : ∀ t ∈ xs.flatMap Arg.tmps, ρ t = ρ' t) : xs.map (evA ρ) = xs.map (evA ρ') := by
  induction xs with
  | nil => rfl
  | cons x xs ih =>
    simp only [List.map_cons]
    rw [evA_congr (fun t ht => h t (by simp [ht])), ih (fun t ht => h t (by rw [List.flatMap_cons]; exact List.mem_append_right _ ht))]

theorem fillV_congr {ρ ρ' : Nat → V} : ∀ {ps : List (Nat × Nat × Arg)} {cs : List V}, (∀ t ∈ ps.flatMap (fun p => p.2.2.tmps), ρ t = ρ' t) → fillV ρ cs ps = fillV ρ' cs ps
  | [], cs, h => rfl
  | (off, size, x) :: ps, cs, h => by
    simp only [fillV]
    rw [evA_congr (fun t ht => h t (by rw [List.flatMap_cons]; exact List.mem_append_left _ ht))]
    split
    · split
      · exact fillV_congr (fun t ht => h t (by rw [List.flatMap_cons]; exact List.mem_append_right _ ht))
      · rfl
    · rfl

theorem rd_congr {ρ ρ' : Nat → V} {m : Nat → Option (List V)} {n n' : Nat} {u u' : List Nat} {h : H} {k : K} (hρ : ∀ t ∈ k.tmps, ρ t = ρ' t) : rd ⟨ρ, m, n, u, h⟩ k = rd ⟨ρ', m, n', u', h⟩ k := by
  cases k <;> simp only [K.tmps, List.mem_append] at hρ <;> simp only [rd]
  case mv x => rw [evA_congr hρ]
  case pick c a b => rw [evA_congr (x := c) (fun t ht => hρ t (.inl (.inl ht))), evA_congr (x := a) (fun t ht => hρ t (.inl (.inr ht))), evA_congr (x := b) (fun t ht => hρ t (.inr ht))]
  case load x n ag => rw [evA_congr hρ]
  case fad x off => rw [evA_congr hρ]
  case idxS x i sz => rw [evA_congr (x := x) (fun t ht => hρ t (.inl ht)), evA_congr (x := i) (fun t ht => hρ t (.inr ht))]
  case idxP x i len sz => rw [evA_congr (x := x) (fun t ht => hρ t (.inl ht)), evA_congr (x := i) (fun t ht => hρ t (.inr ht))]
  case idxStr x i => rw [evA_congr (x := x) (fun t ht => hρ t (.inl ht)), evA_congr (x := i) (fun t ht => hρ t (.inr ht))]
  case idxA x i len sz ag => rw [evA_congr (x := x) (fun t ht => hρ t (.inl ht)), evA_congr (x := i) (fun t ht => hρ t (.inr ht))]
  case fld x off n ag => rw [evA_congr hρ]
  case bin op ek x y => rw [evA_congr (x := x) (fun t ht => hρ t (.inl ht)), evA_congr (x := y) (fun t ht => hρ t (.inr ht))]
  case un op x => rw [evA_congr hρ]
  case cvI q x => rw [evA_congr hρ]
  case cvS x => rw [evA_congr hρ]
  case mkI t x => rw [evA_congr hρ]
  case asrt t x => rw [evA_congr hρ]
  case ext x i => rw [evA_congr hρ]
  case len q x => rw [evA_congr hρ]
  case max xs => rw [evL_congr hρ]
  case min xs => rw [evL_congr hρ]
  case slc x lo hi mx sz => rw [evA_congr (x := x) (fun t ht => hρ t (.inl (.inl (.inl ht)))), evO_congr (x := lo) (fun t ht => hρ t (.inl (.inl (.inr ht)))), evO_congr (x := hi) (fun t ht => hρ t (.inl (.inr ht))), evO_congr (x := mx) (fun t ht => hρ t (.inr ht))]
  case slcS x lo hi mx => rw [evA_congr (x := x) (fun t ht => hρ t (.inl (.inl (.inl ht)))), evO_congr (x := lo) (fun t ht => hρ t (.inl (.inl (.inr ht)))), evO_congr (x := hi) (fun t ht => hρ t (.inl (.inr ht))), evO_congr (x := mx) (fun t ht => hρ t (.inr ht))]
  case bld z ps => rw [fillV_congr hρ]
  case mkF fn a b => rw [evL_congr (xs := a) (fun t ht => hρ t (.inl ht)), evL_congr (xs := b) (fun t ht => hρ t (.inr ht))]
  case nilc x => rw [evA_congr hρ]
  case bsl len sz ag z ps => rw [fillV_congr hρ]
  case add64 x y c => rw [evA_congr (x := x) (fun t ht => hρ t (.inl (.inl ht))), evA_congr (x := y) (fun t ht => hρ t (.inl (.inr ht))), evA_congr (x := c) (fun t ht => hρ t (.inr ht))]
  case lkp q m k z ok => rw [evA_congr (x := m) (fun t ht => hρ t (.inl ht)), evA_congr (x := k) (fun t ht => hρ t (.inr ht))]

theorem rd_nomem {ρ : Nat → V} {m m' : Nat → Option (List V)} {n n' : Nat} {u u' : List Nat} {h h' : H} {k : K} (hk : readsMem k = false) : rd ⟨ρ, m, n, u, h⟩ k = rd ⟨ρ, m', n', u', h'⟩ k := by
  cases k <;> first | rfl | simp [readsMem] at hk

theorem wantI_congr {st st' : S} {o : IOp} (h : ∀ t ∈ o.reads, st.ρ t = st'.ρ t) : wantI st o = wantI st' o := by
  unfold wantI
  split
  · rfl
  · rename_i g want hg
    rw [h g (by simp [IOp.reads, hg])]

/-- What of a run with other slots is told: the same changes. -/
def Twin (ρ ρ2 : Nat → V) (n : Nat) (d : Option Nat) (K : Ex → S → Prop) : Ex → S → Prop
  | .normal, s2 => ∃ v m u h, s2 = S.put ⟨ρ2, m, n, u, h⟩ d v ∧ K .normal (S.put ⟨ρ, m, n, u, h⟩ d v)
  | e, s2 => K e s2

theorem storeV_form {st st' : S} {p v : V} {n : Nat} (h : storeV st p v n = some st') : ∃ m hp, st' = ⟨st.ρ, m, st.n, st.u, hp⟩ ∧ ∀ ρ2, storeV ⟨ρ2, st.m, st.n, st.u, st.h⟩ p v n = some ⟨ρ2, m, st.n, st.u, hp⟩ := by
  unfold storeV at h
  split at h
  · rename_i hc
    split at h
    · rename_i s z o
      split at h
      all_goals (try (simp at h; done))
      rename_i hn1 hn2 hn3 hn4
      split at h
      · rename_i hfull
        simp only [Option.some.injEq] at h; subst h
        refine ⟨_, _, rfl, fun ρ2 => ?_⟩
        unfold storeV
        rw [if_pos hc]
        simp only
        rw [if_pos hfull]
      · rename_i hfull
        split at h
        · rename_i cs hcs
          split at h
          · rename_i hle
            simp only [Option.some.injEq] at h; subst h
            refine ⟨_, _, rfl, fun ρ2 => ?_⟩
            unfold storeV
            rw [if_pos hc]
            simp only
            rw [if_neg hfull, hcs]
            simp only
            rw [if_pos hle]
          · simp at h
        · simp at h
    · rename_i id o
      split at h
      · rename_i v' cs hv hcs
        split at h
        · rename_i hle
          simp only [Option.some.injEq] at h; subst h
          refine ⟨_, _, rfl, fun ρ2 => ?_⟩
          unfold storeV
          rw [if_pos hc]
          simp only
          rw [hv, hcs]
          simp only
          rw [if_pos hle]
          rfl
        · simp at h
      · simp at h
    · simp at h
  · simp at h

theorem appV_form {st st' : S} {s : Nat} {x y v : V} {sz bytes : Nat} {ag obj : Bool} (h : appV st s x y sz bytes ag obj = some (v, st')) :
    ∃ u hp, st' = ⟨st.ρ, st.m, st.n, u, hp⟩ ∧ ∀ ρ2, appV ⟨ρ2, st.m, st.n, st.u, st.h⟩ s x y sz bytes ag obj = some (v, ⟨ρ2, st.m, st.n, u, hp⟩) := by
  unfold appV at h
  split at h
  · rename_i kk cs hl hf
    split at h
    · rename_i hc
      split at h
      · split at h
        · rename_i xs c
          split at h
          · rename_i hc2
            split at h
            · rename_i h0
              simp only [Option.some.injEq, Prod.mk.injEq] at h
              obtain ⟨rfl, rfl⟩ := h
              exact ⟨_, _, rfl, fun ρ2 => by unfold appV; simp only [hl, hf]; rw [if_pos hc]; rw [if_pos hc2, if_pos h0]⟩
            · rename_i h0
              split at h
              · simp only [Option.some.injEq, Prod.mk.injEq] at h
                obtain ⟨rfl, rfl⟩ := h
                exact ⟨_, _, rfl, fun ρ2 => by unfold appV; simp only [hl, hf]; rw [if_pos hc]; rw [if_pos hc2, if_neg h0]⟩
              · rename_i s'
                split at h
                · simp at h
                · rename_i hsu
                  simp only [Option.some.injEq, Prod.mk.injEq] at h
                  obtain ⟨rfl, rfl⟩ := h
                  exact ⟨_, _, rfl, fun ρ2 => by unfold appV; simp only [hl, hf]; rw [if_pos hc]; rw [if_pos hc2, if_neg h0, if_neg hsu]⟩
              · simp at h
          · simp at h
        · simp at h
      · split at h
        · split at h
          · rename_i hc2
            simp only [Option.some.injEq, Prod.mk.injEq] at h
            obtain ⟨rfl, rfl⟩ := h
            exact ⟨_, _, rfl, fun ρ2 => by unfold appV; simp only [hl, hf]; rw [if_pos hc]; rw [if_pos hc2]; rfl⟩
          · simp at h
        · split at h
          · rename_i old hg
            split at h
            · rename_i hc2
              simp only [Option.some.injEq, Prod.mk.injEq] at h
              obtain ⟨rfl, rfl⟩ := h
              exact ⟨_, _, rfl, fun ρ2 => by unfold appV; simp only [hl, hf]; rw [if_pos hc]; rw [hg]; simp only; rw [if_pos hc2]; rfl⟩
            · simp at h
          · simp at h
        · simp at h
    · simp at h
  · simp at h

theorem put_m {st : S} {d : Option Nat} {v : V} {m : Nat → Option (List V)} : ({ (st.put d v) with m := m } : S) = S.put ⟨st.ρ, m, st.n, st.u, st.h⟩ d v := by cases d <;> rfl

theorem eff_twin {call : CallT} (hm : MonoT call) {s : Nat} {ρ ρ2 : Nat → V} {m : Nat → Option (List V)} {n : Nat} {u : List Nat} {h : H} {d : Option Nat} {k : K} {K : Ex → S → Prop} (hρ : ∀ t ∈ k.tmps, ρ t = ρ2 t)
    (he : eff call s ⟨ρ, m, n, u, h⟩ d k K) : eff call s ⟨ρ2, m, n, u, h⟩ d k (Twin ρ ρ2 n d K) := by
  cases k <;> simp only [Go.Ab.K.tmps, List.mem_append] at hρ <;> simp only [eff] at he ⊢
  case store x v sz =>
    rw [evA_congr (x := x) (fun t ht => hρ t (.inl ht)), evA_congr (x := v) (fun t ht => hρ t (.inr ht))] at he
    split at he
    · rename_i st' hs
      obtain ⟨m', h', rfl, h2⟩ := storeV_form hs
      rw [h2 ρ2]
      exact ⟨_, _, _, _, rfl, he⟩
    · exact he.elim
  case box x obj =>
    rw [evA_congr hρ] at he
    cases obj with
    | false =>
      simp only at he ⊢
      split at he <;> first
        | exact he.elim
        | (rw [put_m]; rw [put_m] at he; exact ⟨_, _, _, _, rfl, he⟩)
    | true =>
      simp only at he ⊢
      split at he
      · exact ⟨_, _, _, _, rfl, he⟩
      · exact he.elim
  case allocz z obj =>
    cases obj with
    | false => simp only at he ⊢; rw [put_m]; rw [put_m] at he; exact ⟨_, _, _, _, rfl, he⟩
    | true => exact ⟨_, _, _, _, rfl, he⟩
  case bslO len sz z ps =>
    rw [fillV_congr hρ] at he
    split at he
    · exact ⟨_, _, _, _, rfl, he⟩
    · exact he.elim
  case mks l c sz b ag z obj =>
    rw [evA_congr (x := l) (fun t ht => hρ t (.inl ht)), evA_congr (x := c) (fun t ht => hρ t (.inr ht))] at he
    split at he
    · split at he
      · rename_i hc
        rw [if_pos hc]
        cases obj with
        | false => exact ⟨_, _, _, _, rfl, he⟩
        | true => exact ⟨_, _, _, _, rfl, he⟩
      · exact he.elim
    · exact he.elim
  case app x y sz b ag obj =>
    rw [evA_congr (x := x) (fun t ht => hρ t (.inl ht)), evA_congr (x := y) (fun t ht => hρ t (.inr ht))] at he
    split at he
    · rename_i v st' hs
      obtain ⟨u', h', rfl, h2⟩ := appV_form hs
      rw [h2 ρ2]
      exact ⟨_, _, _, _, rfl, he⟩
    · exact he.elim
  case mkM => exact ⟨_, _, _, _, rfl, he⟩
  case mup q mm k v =>
    rw [evA_congr (x := mm) (fun t ht => hρ t (.inl (.inl ht))), evA_congr (x := k) (fun t ht => hρ t (.inl (.inr ht))), evA_congr (x := v) (fun t ht => hρ t (.inr ht))] at he
    split at he
    · split at he
      · exact ⟨_, _, _, _, rfl, he⟩
      · exact he.elim
    · exact he.elim
  case mdel q mm k =>
    rw [evA_congr (x := mm) (fun t ht => hρ t (.inl ht)), evA_congr (x := k) (fun t ht => hρ t (.inr ht))] at he
    split at he
    · exact ⟨_, _, _, _, rfl, he⟩
    · exact he.elim
  case rng x =>
    rw [evA_congr hρ] at he
    split at he
    · split at he
      · exact ⟨_, _, _, _, rfl, he⟩
      · exact he.elim
    · exact he.elim
  case nxt x =>
    rw [evA_congr hρ] at he
    split at he
    · split at he
      · split at he
        · exact ⟨he.1, fun hh => ⟨_, _, _, _, rfl, he.2.1 hh⟩, fun j k v h1 h2 => ⟨_, _, _, _, rfl, he.2.2 j k v h1 h2⟩⟩
        · exact he.elim
      · exact he.elim
    · exact he.elim
  case ent x =>
    rw [evA_congr hρ] at he
    split at he
    · split at he
      · split at he
        · split at he
          · exact ⟨he.1, ⟨_, _, _, _, rfl, he.2⟩⟩
          · exact he.elim
        · exact he.elim
      · exact he.elim
    · exact he.elim
  case call f xs =>
    rw [evL_congr hρ] at he
    split at he
    · refine hm _ _ _ _ _ (fun o h' ho => ?_) he
      cases o with
      | ret v => exact ⟨_, _, _, _, rfl, ho⟩
      | pan v => exact ho
    · exact he.elim
  case callv f xs =>
    rw [evA_congr (x := f) (fun t ht => hρ t (.inl ht)), evL_congr (xs := xs) (fun t ht => hρ t (.inr ht))] at he
    split at he
    · split at he
      · refine hm _ _ _ _ _ (fun o h' ho => ?_) he
        cases o with
        | ret v => exact ⟨_, _, _, _, rfl, ho⟩
        | pan v => exact ho
      · exact he.elim
    · exact he.elim
  case pan x =>
    rw [evA_congr hρ] at he
    split at he
    · exact he
    · exact he.elim
  case nilS x neg =>
    rw [evA_congr hρ] at he
    split at he
    · exact ⟨fun hh => ⟨_, _, _, _, rfl, he.1 hh⟩, ⟨_, _, _, _, rfl, he.2⟩⟩
    · exact ⟨_, _, _, _, rfl, he⟩
    · exact he.elim

/-- One operation that changes the store, with other slots. -/
theorem op1_twin {call : CallT} (hm : MonoT call) {s : Nat} {st : S} {ρ2 : Nat → V} {o : IOp} {K : Ex → S → Prop} (hk : isRd o.k = false) (hρ : ∀ t ∈ o.k.tmps, st.ρ t = ρ2 t)
    (he : op1 call s o st K) : op1 call s o ⟨ρ2, st.m, st.n, st.u, st.h⟩ (Twin st.ρ ρ2 st.n o.dst K) := by
  unfold op1 at he ⊢
  split
  · rename_i size hsz
    rw [hsz] at hk
    simp [isRd] at hk
  · rename_i kk hnb
    split at he
    · rename_i size hsz
      exact absurd hsz (hnb size)
    · rw [if_neg (by simp [hk])] at he ⊢
      exact eff_twin hm hρ he

end Go.Ab
