/- Runs of the layer Ab: more fuel and less asked for never hurt; what is asked for may be reached bit by bit. -/
import Derived.Test.YtgfnhkedfmnijaaAb25
set_option linter.unusedVariables false
set_option linter.unusedSimpArgs false
namespace Go.Ab

/-- Whatever 'call' tells, 'call2' tells (and less). -/
def Le2 (call call2 : CallT) : Prop := ∀ f vs h (K K' : Out → H → Prop), (∀ o h', K o h' → K' o h') → call f vs h K → call2 f vs h K'

section
variable {call call2 : CallT} {K K' : Ex → S → Prop} {n n' : Nat}

theorem eff_le (hc : Le2 call call2) (hK : ∀ e st, K e st → K' e st) {s : Nat} {st : S} {d : Option Nat} {k : Go.Ab.K} (he : eff call s st d k K) : eff call2 s st d k K' := by
  cases k <;> simp only [eff] at he ⊢
  case store x v sz => split at he <;> first | exact hK _ _ he | exact he.elim
  case box x obj => cases obj <;> simp only at he ⊢ <;> split at he <;> first | exact hK _ _ he | exact he.elim
  case allocz z obj => cases obj <;> exact hK _ _ he
  case bslO len sz z ps => split at he <;> first | exact hK _ _ he | exact he.elim
  case mks l c sz b ag z obj =>
    split at he
    · split at he
      · rename_i hc'
        rw [if_pos hc']
        cases obj <;> exact hK _ _ he
      · exact he.elim
    · exact he.elim
  case app x y sz b ag obj => split at he <;> first | exact hK _ _ he | exact he.elim
  case mkM => exact hK _ _ he
  case mup q mm k v =>
    split at he
    · split at he <;> first | exact hK _ _ he | exact he.elim
    · exact he.elim
  case mdel q mm k => split at he <;> first | exact hK _ _ he | exact he.elim
  case rng x =>
    split at he
    · split at he <;> first | exact hK _ _ he | exact he.elim
    · exact he.elim
  case nxt x =>
    split at he
    · split at he
      · split at he
        · exact ⟨he.1, fun hh => hK _ _ (he.2.1 hh), fun j k v h1 h2 => hK _ _ (he.2.2 j k v h1 h2)⟩
        · exact he.elim
      · exact he.elim
    · exact he.elim
  case ent x =>
    split at he
    · split at he
      · split at he
        · split at he
          · exact ⟨he.1, hK _ _ he.2⟩
          · exact he.elim
        · exact he.elim
      · exact he.elim
    · exact he.elim
  case call f xs =>
    split at he
    · refine hc _ _ _ _ _ (fun o h' ho => ?_) he
      cases o <;> exact hK _ _ ho
    · exact he.elim
  case callv f xs =>
    split at he
    · split at he
      · refine hc _ _ _ _ _ (fun o h' ho => ?_) he
        cases o <;> exact hK _ _ ho
      · exact he.elim
    · exact he.elim
  case pan x =>
    split at he
    · exact hK _ _ he
    · exact he.elim
  case nilS x neg =>
    split at he
    · exact ⟨fun hh => hK _ _ (he.1 hh), hK _ _ he.2⟩
    · exact hK _ _ he
    · exact he.elim

theorem op1_le (hc : Le2 call call2) (hK : ∀ e st, K e st → K' e st) {s : Nat} {o : IOp} {st : S} (he : op1 call s o st K) : op1 call2 s o st K' := by
  unfold op1 at he ⊢
  split at he
  · exact hK _ _ he
  · split at he
    · rename_i hr
      rw [if_pos hr]
      split at he
      · exact hK _ _ he
      · exact he.elim
    · rename_i hr
      rw [if_neg hr]
      exact eff_le hc hK he

theorem then_le {f g : S → Prop} (hf : ∀ st, f st → g st) (hK : ∀ e st, K e st → K' e st) : ∀ e st, Ex.then f K e st → Ex.then g K' e st := by
  intro e st h
  cases e with
  | normal => exact hf st h
  | _ => exact hK _ _ h

theorem ops_le (hc : Le2 call call2) (hK : ∀ e st, K e st → K' e st) : ∀ {os : List IOp} {st : S}, ops call os st K → ops call2 os st K'
  | [], st, h => hK _ _ h
  | o :: os, st, h => by
    simp only [ops] at h ⊢
    split at h
    · exact op1_le hc (then_le (fun st h => ops_le hc hK h) hK) h
    · exact ops_le hc hK h
    · exact h.elim

theorem draws_le (hc : Le2 call call2) (hK : ∀ e st, K e st → K' e st) : ∀ {os : Go.Ab.Ord} {past : List (Option Go.Ab.K × V)} {st : S}, draws call os past st K → draws call2 os past st K'
  | [], past, st, h => hK _ _ h
  | (o, i, js) :: os, past, st, h => by
    simp only [draws] at h ⊢
    split at h
    · exact op1_le hc (then_le (fun st h => ⟨h.1, draws_le hc hK h.2⟩) hK) h
    · exact draws_le hc hK h
    · exact h.elim

theorem loopN_le {b b' : S → (Ex → S → Prop) → Prop} (hb : ∀ st K K', (∀ e st, K e st → K' e st) → b st K → b' st K') (hK : ∀ e st, K e st → K' e st) {live : List Nat} : ∀ {n n' : Nat} {st : S}, n ≤ n' → loopN live b n st K → loopN live b' n' st K'
  | 0, _, _, _, h => h.elim
  | n + 1, 0, _, hn, _ => absurd hn (Nat.not_succ_le_zero _)
  | n + 1, n' + 1, st, hn, h => by
    simp only [loopN] at h ⊢
    exact hb _ _ _ (then_le (fun st h => loopN_le hb hK (Nat.le_of_succ_le_succ hn) h) hK) h

theorem code_le (hc : Le2 call call2) {n n' : Nat} (hn : n ≤ n') : ∀ {c : C} {st : S} {K K' : Ex → S → Prop}, (∀ e st, K e st → K' e st) → code call n c st K → code call2 n' c st K' := by
  intro c
  induction c with
  | skip => intro st K K' hK h; exact hK _ _ h
  | reg os => intro st K K' hK h; exact ops_le hc hK h
  | draw os => intro st K K' hK h; exact draws_le hc hK h
  | seq a b iha ihb => intro st K K' hK h; exact iha (then_le (fun st h => ihb hK h) hK) h
  | cond c a b iha ihb =>
    intro st K K' hK h
    simp only [code] at h ⊢
    split at h
    · split at h
      · rename_i ht
        rw [if_pos ht]; exact iha hK h
      · rename_i ht
        rw [if_neg ht]; exact ihb hK h
    · exact h.elim
  | block id c ih =>
    intro st K K' hK h
    simp only [code] at h ⊢
    refine ih (fun e st' h' => ?_) h
    cases e with
    | brk i =>
      simp only at h' ⊢
      split at h'
      · rename_i hi; rw [if_pos hi]; exact hK _ _ h'
      · rename_i hi; rw [if_neg hi]; exact hK _ _ h'
    | _ => exact hK _ _ h'
  | loop live c ih => intro st K K' hK h; simp only [code] at h ⊢; exact loopN_le (b := code call n c) (b' := code call2 n' c) (fun st K K' hK h => ih hK h) hK hn h
  | brk id => intro st K K' hK h; exact hK _ _ h
  | ret => intro st K K' hK h; exact hK _ _ h

theorem body_le (hc : Le2 call call2) (hn : n ≤ n') {E : Env} {F : IFn} {args : List V} {h : H} {K K' : Out → H → Prop} (hK : ∀ o h, K o h → K' o h) (hb : body E call n F args h K) : body E call2 n' F args h K' := by
  refine ⟨hb.1, code_le hc hn (fun e st h => ?_) hb.2⟩
  cases e with
  | normal => simp only at h ⊢; split at h <;> first | exact hK _ _ h | exact h.elim
  | ret => simp only at h ⊢; split at h <;> first | exact hK _ _ h | exact h.elim
  | pan v => exact hK _ _ h
  | brk id => exact h.elim

/-- What is asked of the functions that are told by hand. -/
structure ExtOK (E : Env) : Prop where
  le : ∀ f x, E.ext f = some x → ∀ (call call2 : CallT), Le2 call call2 → ∀ args h (K K' : Out → H → Prop), (∀ o h', K o h' → K' o h') → x call args h K → x call2 args h K'

theorem call_le {E : Env} (hE : ExtOK E) : ∀ {n n' : Nat}, n ≤ n' → Le2 (Go.Ab.call E n) (Go.Ab.call E n')
  | 0, _, _ => fun _ _ _ _ _ _ h => h.elim
  | n + 1, 0, hn => absurd hn (Nat.not_succ_le_zero _)
  | n + 1, n' + 1, hn => fun f vs h K K' hK hc => by
    have ih := call_le hE (Nat.le_of_succ_le_succ hn)
    simp only [Go.Ab.call] at hc ⊢
    split at hc
    · rename_i x hx
      exact hE.le f x hx _ _ ih _ _ _ _ hK hc
    · split at hc
      · exact body_le ih (Nat.le_of_succ_le_succ hn) hK hc
      · exact hc.elim

theorem call_mono {E : Env} (hE : ExtOK E) (n : Nat) : MonoT (Go.Ab.call E n) := call_le hE (Nat.le_refl n)
end

/-- A run with as much fuel as it takes. -/
def Runs (E : Env) : CallT := fun f args h K => ∃ n, Go.Ab.call E n f args h K

theorem runs_mono {E : Env} (hE : ExtOK E) : MonoT (Runs E) := fun f vs h K K' hK ⟨n, hn⟩ => ⟨n, call_mono hE n f vs h K K' hK hn⟩

/-- What is asked for may be reached bit by bit. -/
def Cont (call : CallT) : Prop := ∀ f vs h (Q : Nat → Out → H → Prop), (∀ m m' o h', m ≤ m' → Q m o h' → Q m' o h') → call f vs h (fun o h' => ∃ m, Q m o h') → ∃ m, call f vs h (Q m)

def Up (Q : Nat → Ex → S → Prop) : Prop := ∀ m m' e st, m ≤ m' → Q m e st → Q m' e st

theorem all_bound {α : Type} {Q : Nat → α → Prop} (hup : ∀ m m' a, m ≤ m' → Q m a → Q m' a) : ∀ (l : List α), (∀ a ∈ l, ∃ m, Q m a) → ∃ m, ∀ a ∈ l, Q m a
  | [], _ => ⟨0, by simp⟩
  | a :: l, h => by
    obtain ⟨m1, h1⟩ := h a (by simp)
    obtain ⟨m2, h2⟩ := all_bound hup l (fun b hb => h b (by simp [hb]))
    refine ⟨max m1 m2, fun b hb => ?_⟩
    rcases List.mem_cons.1 hb with rfl | hb
    · exact hup _ _ _ (Nat.le_max_left _ _) h1
    · exact hup _ _ _ (Nat.le_max_right _ _) (h2 b hb)

section
variable {call : CallT} {Q : Nat → Ex → S → Prop}

theorem eff_cont (hc : Cont call) (hup : Up Q) {s : Nat} {st : S} {d : Option Nat} {k : Go.Ab.K} (he : eff call s st d k (fun e st => ∃ m, Q m e st)) : ∃ m, eff call s st d k (Q m) := by
  cases k <;> simp only [eff] at he ⊢
  case store x v sz => split at he <;> first | exact he | exact he.elim
  case box x obj => cases obj <;> simp only at he ⊢ <;> split at he <;> first | exact he | exact he.elim
  case allocz z obj => cases obj <;> exact he
  case bslO len sz z ps => split at he <;> first | exact he | exact he.elim
  case mks l c sz b ag z obj =>
    split at he
    · split at he
      · rename_i hc'
        simp only [if_pos hc']
        cases obj <;> exact he
      · exact he.elim
    · exact he.elim
  case app x y sz b ag obj => split at he <;> first | exact he | exact he.elim
  case mkM => exact he
  case mup q mm k v =>
    split at he
    · split at he <;> first | exact he | exact he.elim
    · exact he.elim
  case mdel q mm k => split at he <;> first | exact he | exact he.elim
  case rng x =>
    split at he
    · split at he <;> first | exact he | exact he.elim
    · exact he.elim
  case nxt x =>
    split at he
    · rename_i i hi
      split at he
      · rename_i id ver seen ho
        split at he
        · rename_i es ver' hm
          obtain ⟨h1, h2, h3⟩ := he
          obtain ⟨m1, g1⟩ : ∃ m, ((∀ j, j < es.length → j ∈ seen) → Q m .normal (st.put d (.tuple [.bool false]))) := by
            by_cases hh : ∀ j, j < es.length → j ∈ seen
            · obtain ⟨m, hm⟩ := h2 hh
              exact ⟨m, fun _ => hm⟩
            · exact ⟨0, fun h => absurd h hh⟩
          obtain ⟨m2, g2⟩ := all_bound (Q := fun m (j : Nat) => ∀ k v, es[j]? = some (k, v) → j ∉ seen → Q m .normal ((st.withH (st.h.set i (.iter id ver (j :: seen)))).put d (.tuple [.bool true, k, v])))
            (fun m m' j hmm hq k v hj hs => hup _ _ _ _ hmm (hq k v hj hs)) (List.range es.length) (fun j hj => by
              by_cases hs : j ∈ seen
              · exact ⟨0, fun _ _ _ h => absurd hs h⟩
              · have hlt := List.mem_range.1 hj
                obtain ⟨m, hm⟩ := h3 j es[j].1 es[j].2 (List.getElem?_eq_getElem hlt) hs
                refine ⟨m, fun k v hkv _ => ?_⟩
                rw [List.getElem?_eq_getElem hlt] at hkv
                simp only [Option.some.injEq] at hkv
                rw [hkv] at hm
                exact hm)
          refine ⟨max m1 m2, h1, fun hh => hup _ _ _ _ (Nat.le_max_left _ _) (g1 hh), fun j k v hj hs => ?_⟩
          have hlt : j < es.length := (List.getElem?_eq_some_iff.1 hj).1
          exact hup _ _ _ _ (Nat.le_max_right _ _) (g2 j (List.mem_range.2 hlt) k v hj hs)
        · exact he.elim
      · exact he.elim
    · exact he.elim
  case ent x =>
    split at he
    · split at he
      · split at he
        · split at he
          · obtain ⟨h1, m, h2⟩ := he
            exact ⟨m, h1, h2⟩
          · exact he.elim
        · exact he.elim
      · exact he.elim
    · exact he.elim
  case call f xs =>
    split at he
    · rename_i vs hvs
      have := hc f vs st.h (fun m o h' => match o with | .ret v => Q m .normal ((st.withH h').put d (landV s v)) | .pan v => Q m (.pan v) (.blank h')) (fun m m' o h' hmm hq => by
        cases o <;> exact hup _ _ _ _ hmm hq)
      refine this ?_
      refine cast ?_ he
      congr 1
      funext o h'
      cases o <;> rfl
    · exact he.elim
  case callv f xs =>
    split at he
    · rename_i g first captured hg
      split at he
      · rename_i vs hvs
        have := hc g (first ++ vs ++ captured) st.h (fun m o h' => match o with | .ret v => Q m .normal ((st.withH h').put d (landV s v)) | .pan v => Q m (.pan v) (.blank h')) (fun m m' o h' hmm hq => by
          cases o <;> exact hup _ _ _ _ hmm hq)
        refine this ?_
        refine cast ?_ he
        congr 1
        funext o h'
        cases o <;> rfl
      · exact he.elim
    · exact he.elim
  case pan x =>
    split at he
    · exact he
    · exact he.elim
  case nilS x neg =>
    split at he
    · rename_i xs c hxs
      obtain ⟨h1, m2, h2⟩ := he
      by_cases hh : xs = []
      · obtain ⟨m1, g1⟩ := h1 hh
        exact ⟨max m1 m2, fun _ => hup _ _ _ _ (Nat.le_max_left _ _) g1, hup _ _ _ _ (Nat.le_max_right _ _) h2⟩
      · exact ⟨m2, fun h => absurd h hh, h2⟩
    · exact he
    · exact he.elim

theorem op1_cont (hc : Cont call) (hup : Up Q) {s : Nat} {o : IOp} {st : S} (he : op1 call s o st (fun e st => ∃ m, Q m e st)) : ∃ m, op1 call s o st (Q m) := by
  unfold op1 at he ⊢
  split at he
  · exact he
  · split at he
    · rename_i hr
      simp only [if_pos hr]
      split at he
      · exact he
      · exact he.elim
    · rename_i hr
      simp only [if_neg hr]
      exact eff_cont hc hup he

end
end Go.Ab
