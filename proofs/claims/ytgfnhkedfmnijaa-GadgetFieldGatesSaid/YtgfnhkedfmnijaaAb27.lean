/- Runs of the layer Ab with as much fuel as they take: one equation for each function. -/
import Derived.Test.YtgfnhkedfmnijaaAb26
set_option linter.unusedVariables false
set_option linter.unusedSimpArgs false
namespace Go.Ab

section
variable {call : CallT} {Q : Nat → Ex → S → Prop}

theorem then_up {f : Nat → S → Prop} (hf : ∀ m m' st, m ≤ m' → f m st → f m' st) (hup : Up Q) : Up (fun m => Ex.then (f m) (Q m)) := by
  intro m m' e st hm h
  cases e with
  | normal => exact hf m m' st hm h
  | _ => exact hup m m' _ _ hm h

theorem then_ex {f : Nat → S → Prop} {e : Ex} {st : S} (h : Ex.then (fun st => ∃ m, f m st) (fun e st => ∃ m, Q m e st) e st) : ∃ m, Ex.then (f m) (Q m) e st := by
  cases e <;> exact h

theorem ops_cont (hc : Cont call) (hmo : MonoT call) (hup : Up Q) : ∀ {os : List IOp} {st : S}, ops call os st (fun e st => ∃ m, Q m e st) → ∃ m, ops call os st (Q m)
  | [], st, h => h
  | o :: os, st, h => by
    have hups : ∀ m m' st, m ≤ m' → ops call os (S.tick st) (Q m) → ops call os (S.tick st) (Q m') := fun m m' st hm h => ops_le hmo (fun e st h => hup m m' e st hm h) h
    simp only [ops] at h ⊢
    split at h
    · refine op1_cont hc (Q := fun m => Ex.then (fun st' => ops call os st'.tick (Q m)) (Q m)) (then_up hups hup) ?_
      refine op1_le hmo (fun e st h => ?_) h
      exact then_ex (f := fun m st' => ops call os (S.tick st') (Q m)) (by
        cases e with
        | normal => exact ops_cont hc hmo hup h
        | _ => exact h)
    · exact ops_cont hc hmo hup h
    · exact h.elim

theorem draws_cont (hc : Cont call) (hmo : MonoT call) (hup : Up Q) : ∀ {os : Go.Ab.Ord} {past : List (Option Go.Ab.K × V)} {st : S}, draws call os past st (fun e st => ∃ m, Q m e st) → ∃ m, draws call os past st (Q m)
  | [], past, st, h => h
  | (o, i, js) :: os, past, st, h => by
    simp only [draws] at h ⊢
    split at h
    · refine op1_cont hc (Q := fun m => Ex.then (fun st' => again st' past js ∧ draws call os (past ++ [(if isRd o.k then some o.k else none, match o.dst with | some d => st'.ρ d | none => .undef)]) st'.tick (Q m)) (Q m)) (then_up (fun m m' st hm h => ⟨h.1, draws_le hmo (fun e st h => hup m m' e st hm h) h.2⟩) hup) ?_
      refine op1_le hmo (fun e st h => ?_) h
      cases e with
      | normal =>
        obtain ⟨h1, h2⟩ := h
        obtain ⟨m, hm⟩ := draws_cont hc hmo hup h2
        exact ⟨m, h1, hm⟩
      | _ => exact h
    · exact draws_cont hc hmo hup h
    · exact h.elim

theorem loopN_cont {b : S → (Ex → S → Prop) → Prop} (hb : ∀ st K K', (∀ e st, K e st → K' e st) → b st K → b st K') (hbc : ∀ (Q : Nat → Ex → S → Prop), Up Q → ∀ st, b st (fun e st => ∃ m, Q m e st) → ∃ m, b st (Q m)) (hup : Up Q) {live : List Nat} :
    ∀ {n : Nat} {st : S}, loopN live b n st (fun e st => ∃ m, Q m e st) → ∃ m, loopN live b n st (Q m)
  | 0, st, h => h.elim
  | n + 1, st, h => by
    simp only [loopN] at h ⊢
    refine hbc (fun m => Ex.then (fun st' => loopN live b n st' (Q m)) (Q m)) (then_up (fun m m' st hm h => loopN_le hb (fun e st h => hup m m' e st hm h) (Nat.le_refl n) h) hup) _ ?_
    refine hb _ _ _ (fun e st h => ?_) h
    cases e with
    | normal => exact loopN_cont hb hbc hup h
    | _ => exact h

theorem code_cont (hc : Cont call) (hmo : MonoT call) {n : Nat} : ∀ {c : C} {Q : Nat → Ex → S → Prop} {st : S}, Up Q → code call n c st (fun e st => ∃ m, Q m e st) → ∃ m, code call n c st (Q m) := by
  intro c
  induction c with
  | skip => intro Q st hup h; exact h
  | reg os => intro Q st hup h; exact ops_cont hc hmo hup h
  | draw os => intro Q st hup h; exact draws_cont hc hmo hup h
  | seq a b iha ihb =>
    intro Q st hup h
    simp only [code] at h ⊢
    refine iha (Q := fun m => Ex.then (fun st' => code call n b st' (Q m)) (Q m)) (then_up (fun m m' st hm h => code_le hmo (Nat.le_refl n) (fun e st h => hup m m' e st hm h) h) hup) ?_
    refine code_le hmo (Nat.le_refl n) (fun e st h => ?_) h
    cases e with
    | normal => exact ihb hup h
    | _ => exact h
  | cond c a b iha ihb =>
    intro Q st hup h
    simp only [code] at h ⊢
    split at h
    · split at h
      · rename_i ht
        simp only [if_pos ht]; exact iha hup h
      · rename_i ht
        simp only [if_neg ht]; exact ihb hup h
    · exact h.elim
  | block id c ih =>
    intro Q st hup h
    simp only [code] at h ⊢
    refine ih (Q := fun m e st' => match e with | .brk i => if i = id then Q m .normal st' else Q m (.brk i) st' | e => Q m e st') (fun m m' e st hm h => ?_) ?_
    · cases e with
      | brk i =>
        simp only at h ⊢
        split at h
        · rename_i hi; rw [if_pos hi]; exact hup _ _ _ _ hm h
        · rename_i hi; rw [if_neg hi]; exact hup _ _ _ _ hm h
      | _ => exact hup _ _ _ _ hm h
    · refine code_le hmo (Nat.le_refl n) (fun e st h => ?_) h
      cases e with
      | brk i =>
        simp only at h ⊢
        split at h
        · rename_i hi; simp only [if_pos hi]; exact h
        · rename_i hi; simp only [if_neg hi]; exact h
      | _ => exact h
  | loop live c ih =>
    intro Q st hup h
    simp only [code] at h ⊢
    exact loopN_cont (b := code call n c) (fun st K K' hK h => code_le hmo (Nat.le_refl n) hK h) (fun Q hup st h => ih hup h) hup h
  | brk id => intro Q st hup h; exact h
  | ret => intro Q st hup h; exact h

end

/-- What is asked of the functions that are told by hand (2). -/
structure ExtOK2 (E : Env) : Prop extends ExtOK E where
  cont : ∀ f x, E.ext f = some x → ∀ (call : CallT), Cont call → MonoT call → ∀ args h (Q : Nat → Out → H → Prop), (∀ m m' o h', m ≤ m' → Q m o h' → Q m' o h') → x call args h (fun o h' => ∃ m, Q m o h') → ∃ m, x call args h (Q m)

theorem call_cont {E : Env} (hE : ExtOK2 E) : ∀ n, Cont (call E n)
  | 0 => fun f vs h Q hup hc => hc.elim
  | n + 1 => fun f vs h Q hup hc => by
    have ih := call_cont hE n
    have hm := call_mono hE.toExtOK n
    simp only [call] at hc ⊢
    split at hc
    · rename_i x hx
      exact hE.cont f x hx _ ih hm _ _ Q hup hc
    · split at hc
      · rename_i F hF
        obtain ⟨h1, h2⟩ := hc
        have : ∃ m, code (call E n) n F.body ⟨args0 vs, fun _ => none, 0, [], h⟩ (fun e st => match e with
            | .normal | .ret => match finish st F.results with
              | some v => Q m (.ret v) st.h
              | none => False
            | .pan v => Q m (.pan v) st.h
            | .brk _ => False) := by
          refine code_cont ih hm (Q := fun m e st => match e with
            | .normal | .ret => match finish st F.results with
              | some v => Q m (.ret v) st.h
              | none => False
            | .pan v => Q m (.pan v) st.h
            | .brk _ => False) (fun m m' e st hmm h => ?_) ?_
          · cases e with
            | normal => simp only at h ⊢; split at h <;> first | exact hup _ _ _ _ hmm h | exact h.elim
            | ret => simp only at h ⊢; split at h <;> first | exact hup _ _ _ _ hmm h | exact h.elim
            | pan v => exact hup _ _ _ _ hmm h
            | brk i => exact h.elim
          · refine code_le hm (Nat.le_refl n) (fun e st h => ?_) h2
            cases e with
            | normal =>
              simp only at h ⊢
              cases hfi : finish st F.results with
              | none => rw [hfi] at h; exact h.elim
              | some v => rw [hfi] at h; exact h
            | ret =>
              simp only at h ⊢
              cases hfi : finish st F.results with
              | none => rw [hfi] at h; exact h.elim
              | some v => rw [hfi] at h; exact h
            | pan v => exact h
            | brk i => exact h.elim
        obtain ⟨m, hm'⟩ := this
        exact ⟨m, h1, hm'⟩
      · exact hc.elim

def codeW (call : CallT) : C → S → (Ex → S → Prop) → Prop
  | .skip, st, K => K .normal st
  | .reg os, st, K => ops call os st K
  | .draw os, st, K => draws call os [] st K
  | .seq a b, st, K => codeW call a st (Ex.then (fun st' => codeW call b st' K) K)
  | .cond c a b, st, K => match asB (evA st.ρ c) with
    | some t => if t = true then codeW call a st K else codeW call b st K
    | none => False
  | .block id c, st, K => codeW call c st fun e st' => match e with
    | .brk i => if i = id then K .normal st' else K (.brk i) st'
    | e => K e st'
  | .loop live c, st, K => ∃ n, loopN live (codeW call c) n st K
  | .brk i, st, K => K (.brk i) st
  | .ret, st, K => K .ret st

def endW (F : IFn) (K : Out → H → Prop) : Ex → S → Prop := fun e st => match e with
  | .normal | .ret => match finish st F.results with
    | some v => K (.ret v) st.h
    | none => False
  | .pan v => K (.pan v) st.h
  | .brk _ => False

section
variable {E : Env} {K : Ex → S → Prop}

theorem eff_runs {s : Nat} {st : S} {d : Option Nat} {k : Go.Ab.K} (he : eff (Runs E) s st d k K) : ∃ n, eff (call E n) s st d k K := by
  cases k
  case call f xs =>
    simp only [eff] at he ⊢
    split at he
    · exact he
    · exact he.elim
  case callv f xs =>
    simp only [eff] at he ⊢
    split at he
    · split at he
      · exact he
      · exact he.elim
    · exact he.elim
  all_goals exact ⟨0, he⟩

theorem op1_runs {s : Nat} {o : IOp} {st : S} (he : op1 (Runs E) s o st K) : ∃ n, op1 (call E n) s o st K := by
  unfold op1 at he ⊢
  split at he
  · exact ⟨0, he⟩
  · split at he
    · rename_i hr
      simp only [if_pos hr]
      exact ⟨0, he⟩
    · rename_i hr
      simp only [if_neg hr]
      exact eff_runs he

theorem then_exl {f : Nat → S → Prop} {e : Ex} {st : S} (h : Ex.then (fun st => ∃ m, f m st) K e st) : ∃ m, Ex.then (f m) K e st := by
  cases e with
  | normal => exact h
  | _ => exact ⟨0, h⟩

theorem up_const : Up (fun _ => K) := fun _ _ _ _ _ h => h

theorem op1_join (hE : ExtOK2 E) {s : Nat} {o : IOp} {st : S} {f : Nat → S → Prop} (hf : ∀ m m' st, m ≤ m' → f m st → f m' st) (h : op1 (Runs E) s o st (Ex.then (fun st => ∃ m, f m st) K)) : ∃ n, op1 (call E n) s o st (Ex.then (f n) K) := by
  obtain ⟨n, hn⟩ := op1_runs h
  obtain ⟨m, hm⟩ := op1_cont (call_cont hE n) (Q := fun m => Ex.then (f m) K) (then_up hf up_const) (op1_le (call_mono hE.toExtOK n) (fun e st h => then_exl h) hn)
  exact ⟨max n m, op1_le (call_le hE.toExtOK (Nat.le_max_left n m)) (then_le (fun st h => hf _ _ _ (Nat.le_max_right n m) h) (fun _ _ h => h)) hm⟩

theorem ops_runs (hE : ExtOK2 E) : ∀ {os : List IOp} {st : S}, ops (Runs E) os st K → ∃ n, ops (call E n) os st K
  | [], st, h => ⟨0, h⟩
  | o :: os, st, h => by
    simp only [ops] at h ⊢
    split at h
    · refine op1_join hE (f := fun n st' => ops (call E n) os st'.tick K) (fun m m' st hm h => ops_le (call_le hE.toExtOK hm) (fun _ _ h => h) h) ?_
      exact op1_le (runs_mono hE.toExtOK) (then_le (fun st h => ops_runs hE h) (fun _ _ h => h)) h
    · exact ops_runs hE h
    · exact h.elim

theorem draws_runs (hE : ExtOK2 E) : ∀ {os : Go.Ab.Ord} {past : List (Option Go.Ab.K × V)} {st : S}, draws (Runs E) os past st K → ∃ n, draws (call E n) os past st K
  | [], past, st, h => ⟨0, h⟩
  | (o, i, js) :: os, past, st, h => by
    simp only [draws] at h ⊢
    split at h
    · refine op1_join hE (f := fun n st' => again st' past js ∧ draws (call E n) os (past ++ [(if isRd o.k then some o.k else none, match o.dst with | some d => st'.ρ d | none => .undef)]) st'.tick K) (fun m m' st hm h => ⟨h.1, draws_le (call_le hE.toExtOK hm) (fun _ _ h => h) h.2⟩) ?_
      refine op1_le (runs_mono hE.toExtOK) (then_le (fun st h => ?_) (fun _ _ h => h)) h
      obtain ⟨h1, h2⟩ := h
      obtain ⟨n, hn⟩ := draws_runs hE h2
      exact ⟨n, h1, hn⟩
    · exact draws_runs hE h
    · exact h.elim

theorem codeW_le {call : CallT} (hm : MonoT call) : ∀ {c : C} {st : S} {K K' : Ex → S → Prop}, (∀ e st, K e st → K' e st) → codeW call c st K → codeW call c st K' := by
  intro c
  induction c with
  | skip => intro st K K' hK h; exact hK _ _ h
  | reg os => intro st K K' hK h; exact ops_le hm hK h
  | draw os => intro st K K' hK h; exact draws_le hm hK h
  | seq a b iha ihb => intro st K K' hK h; exact iha (then_le (fun st h => ihb hK h) hK) h
  | cond c a b iha ihb =>
    intro st K K' hK h
    simp only [codeW] at h ⊢
    split at h
    · split at h
      · rename_i ht
        rw [if_pos ht]; exact iha hK h
      · rename_i ht
        rw [if_neg ht]; exact ihb hK h
    · exact h.elim
  | block id c ih =>
    intro st K K' hK h
    simp only [codeW] at h ⊢
    refine ih (fun e st' h' => ?_) h
    cases e with
    | brk i =>
      simp only at h' ⊢
      split at h'
      · rename_i hi; rw [if_pos hi]; exact hK _ _ h'
      · rename_i hi; rw [if_neg hi]; exact hK _ _ h'
    | _ => exact hK _ _ h'
  | loop live c ih =>
    intro st K K' hK h
    simp only [codeW] at h ⊢
    obtain ⟨n, hn⟩ := h
    exact ⟨n, loopN_le (b := codeW call c) (b' := codeW call c) (fun st K K' hK h => ih hK h) hK (Nat.le_refl n) hn⟩
  | brk id => intro st K K' hK h; exact hK _ _ h
  | ret => intro st K K' hK h; exact hK _ _ h

theorem codeW_runs (hE : ExtOK2 E) : ∀ {c : C} {st : S} {K : Ex → S → Prop}, codeW (Runs E) c st K → ∃ n, code (call E n) n c st K := by
  have lift : ∀ {c : C} {n n' : Nat} {st : S} {K K' : Ex → S → Prop}, n ≤ n' → (∀ e st, K e st → K' e st) → code (call E n) n c st K → code (call E n') n' c st K' := fun hn hK h => code_le (call_le hE.toExtOK hn) hn hK h
  have join : ∀ {c : C} {st : S} {K : Ex → S → Prop} {f : Nat → S → Prop}, (∀ m m' st, m ≤ m' → f m st → f m' st) → (∃ n, code (call E n) n c st (Ex.then (fun st => ∃ m, f m st) K)) → ∃ n, code (call E n) n c st (Ex.then (f n) K) := by
    rintro c st K f hf ⟨n, hn⟩
    obtain ⟨m, hm⟩ := code_cont (call_cont hE n) (call_mono hE.toExtOK n) (Q := fun m => Ex.then (f m) K) (then_up hf up_const) (code_le (call_mono hE.toExtOK n) (Nat.le_refl n) (fun e st h => then_exl h) hn)
    exact ⟨max n m, lift (Nat.le_max_left n m) (then_le (fun st h => hf _ _ _ (Nat.le_max_right n m) h) (fun _ _ h => h)) hm⟩
  intro c
  induction c with
  | skip => intro st K h; exact ⟨0, h⟩
  | reg os => intro st K h; exact ops_runs hE h
  | draw os => intro st K h; exact draws_runs hE h
  | seq a b iha ihb =>
    intro st K h
    simp only [codeW] at h
    simp only [code]
    refine join (f := fun n st' => code (call E n) n b st' K) (fun m m' st hm h => lift hm (fun _ _ h => h) h) ?_
    exact iha (codeW_le (runs_mono hE.toExtOK) (then_le (fun st h => ihb h) (fun _ _ h => h)) h)
  | cond c a b iha ihb =>
    intro st K h
    simp only [codeW, code] at h ⊢
    split at h
    · rename_i tb htb
      split at h
      · rename_i ht
        exact (iha h).imp fun n hn => by rw [htb]; simp only; rw [if_pos ht]; exact hn
      · rename_i ht
        exact (ihb h).imp fun n hn => by rw [htb]; simp only; rw [if_neg ht]; exact hn
    · exact h.elim
  | block id c ih => intro st K h; simp only [codeW] at h; simp only [code]; exact ih h
  | loop live c ih =>
    intro st K h
    simp only [codeW] at h
    simp only [code]
    obtain ⟨n, hn⟩ := h
    have go : ∀ (n : Nat) (st : S), loopN live (codeW (Runs E) c) n st K → ∃ m, loopN live (code (call E m) m c) m st K := by
      intro n
      induction n with
      | zero => intro st h; exact h.elim
      | succ n ihn =>
        intro st h
        simp only [loopN] at h
        have hup : ∀ m m' (st : S), m ≤ m' → loopN live (code (call E m) m c) m st K → loopN live (code (call E m') m' c) m' st K := fun m m' st hm h =>
          loopN_le (b := code (call E m) m c) (b' := code (call E m') m' c) (fun st K K' hK h => lift hm hK h) (fun _ _ h => h) hm h
        obtain ⟨m, hm⟩ := join (f := fun m st' => loopN live (code (call E m) m c) m st' K) hup (ih (codeW_le (runs_mono hE.toExtOK) (then_le (fun st h => ihn st h) (fun _ _ h => h)) h))
        refine ⟨m + 1, ?_⟩
        simp only [loopN]
        exact lift (Nat.le_succ m) (then_le (fun st h => loopN_le (b := code (call E m) m c) (b' := code (call E (m + 1)) (m + 1) c) (fun st K K' hK h => lift (Nat.le_succ m) hK h) (fun _ _ h => h) (Nat.le_refl m) h) (fun _ _ h => h)) hm
    exact go n st hn
  | brk id => intro st K h; exact ⟨0, h⟩
  | ret => intro st K h; exact ⟨0, h⟩

/-- A function's run is its body's. -/
theorem runs_of (hE : ExtOK2 E) {f : FuncId} {F : IFn} {args : List V} {h : H} {K : Out → H → Prop} (hx : E.ext f = none) (hF : E.ir f = some F) (hl : args.length ≤ F.ntmps)
    (hb : codeW (Runs E) F.body ⟨args0 args, fun _ => none, 0, [], h⟩ (endW F K)) : Runs E f args h K := by
  obtain ⟨n, hn⟩ := codeW_runs hE hb
  refine ⟨n + 1, ?_⟩
  simp only [call, hx, hF]
  refine ⟨hl, code_le (call_mono hE.toExtOK n) (Nat.le_refl n) (fun e st h => ?_) hn⟩
  cases e <;> exact h

/-- A function that is told by hand. -/
theorem runs_ext (hE : ExtOK2 E) {f : FuncId} {x : CallT → List V → H → (Out → H → Prop) → Prop} {args : List V} {h : H} {K : Out → H → Prop} (hx : E.ext f = some x) {n : Nat} (hb : x (call E n) args h K) : Runs E f args h K :=
  ⟨n + 1, by simp only [call, hx]; exact hb⟩

end
end Go.Ab
