/- Code of the layer Ab, a function's body, and calls: what a run of it says holds of the model. -/
import Derived.Test.YtgfnhkedfmnijaaAb20
set_option linter.unusedVariables false
set_option linter.unusedSimpArgs false
namespace Go.Ab

section
variable {P : Program}

/-- The loop's head behind the first entering. -/
def LoopAt (P : Program) (c : Code) (Q : Exit → Act → World → Prop) (a : Act) (w : World) : Prop :=
  ∀ (b : Frame) (k : List Item) (cs : List Frame), ∃ e a' w', Q e a' w' ∧ Arrives P (lone (b.at a (.code c :: .inLoop c :: k)) cs w) b k cs e a' w'

theorem loopAt_step {c : Code} {Q : Exit → Act → World → Prop} {a : Act} {w : World} (h : c.wp P (Exit.then (LoopAt P c Q) Q) a w) : LoopAt P c Q a w := by
  intro b k cs
  obtain ⟨e, a₁, w₁, hq, harr⟩ := h b (.inLoop c :: k) cs
  cases e with
  | normal =>
    obtain ⟨e₂, a₂, w₂, hq₂, harr₂⟩ := hq b k cs
    exact ⟨e₂, a₂, w₂, hq₂, .of_steps (Steps.trans harr (.one step_inLoop)) harr₂⟩
  | exit id => exact ⟨_, a₁, w₁, hq, .pass (x := .inLoop c) rfl (fun _ _ => .inl (by simp)) harr⟩
  | goto l => exact ⟨_, a₁, w₁, hq, .pass (x := .inLoop c) rfl (fun _ _ => .inl (by simp)) harr⟩
  | ret => exact ⟨_, a₁, w₁, hq, .pass (x := .inLoop c) rfl (fun _ _ => .inl (by simp)) harr⟩
  | panic ch => exact ⟨_, a₁, w₁, hq, .pass (x := .inLoop c) rfl (fun _ _ => .inl (by simp)) harr⟩
  | outgrown => exact ⟨_, a₁, w₁, hq, .pass (x := .inLoop c) rfl (fun _ _ => .inl (by simp)) harr⟩

theorem wp_loop_at {c : Code} {Q : Exit → Act → World → Prop} {a : Act} {w : World} (h : LoopAt P c Q a w) : (Code.loop c).wp P Q a w := by
  intro b k cs
  obtain ⟨e, a', w', hq, harr⟩ := h b k cs
  exact ⟨e, a', w', hq, .of_steps (.one step_loop) harr⟩
end

section
variable {G : List (Nat × List V)} {N : Nat} {e : Entry} {k : Ctx} {β : Nat → Nat} {A : Nat → Prop} {st : S} {a : Act} {w : World} {P : Program} {u : List Nat} {hs : Hints} {o : Oper} {K : Ex → S → Prop}

/-- What is asked of a call's end may be weakened. -/
def MonoT (call : CallT) : Prop := ∀ f vs h (K K' : Out → H → Prop), (∀ o h', K o h' → K' o h') → call f vs h K → call f vs h K'

/-- What a region that draws its order is to be shown to do. -/
def DrawOK (P : Program) (hs : Hints) (N : Nat) (G : List (Nat × List V)) : Prop :=
  ∀ (e : Entry) (call : CallT) (all : Array Oper) (an : List Nat) (ord : List (Nat × List Nat)) (l : List (IOp × Nat × List Nat)) (id : Nat) (st : S) (a : Act) (w : World) (K : Ex → S → Prop), CallOK P G call → MonoT call → (∀ s, ¬ e.res s) → trDraw P hs all ord = some l → dstsOk N all = true → drawOk all an l = true →
    draws call l [] st K → Inv G N e st a w → (Code.region id all true).wp P (QK G N e K) a w

theorem code_sound (hG : ∀ g cells, (g, cells) ∈ hs.glob → (g, cells) ∈ G) {call : CallT} (hc : CallOK P G call) (hm : MonoT call) (hdraw : DrawOK P hs N G) (hres : ∀ s, ¬ e.res s) (fuel : Nat) :
    ∀ (c : Code) (ls : List (List Nat)) (C : Go.Ab.C) (ls' : List (List Nat)) (st : S) (a : Act) (w : World) (K : Ex → S → Prop), trC P hs N c ls = some (C, ls') → code call fuel C st K → Inv G N e st a w → c.wp P (QK G N e K) a w := by
  intro c
  induction c with
  | skip =>
    intro ls C ls' st a w K ht he hi
    simp only [trC, Option.some.injEq, Prod.mk.injEq] at ht
    obtain ⟨rfl, rfl⟩ := ht
    exact wp_skip ⟨st, he, hi⟩
  | region id all draw =>
    intro ls C ls' st a w K ht he hi
    cases draw with
    | false =>
      simp only [trC] at ht
      obtain ⟨l, hl, ht⟩ := bindS ht
      split at ht
      · rename_i hd
        simp only [Option.some.injEq, Prod.mk.injEq] at ht
        obtain ⟨rfl, rfl⟩ := ht
        refine wp_region ?_
        rw [List.range_eq_range', ← Array.length_toList]
        exact ops_sound hG hc hd all.toList l 0 st a w (by simp) hl he hi
      · simp at ht
    | true =>
      simp only [trC] at ht
      obtain ⟨p, hp, ht⟩ := bindS ht
      obtain ⟨i, an, ord⟩ := p
      simp only at ht
      obtain ⟨l, hl, ht⟩ := bindS ht
      split at ht
      · rename_i hd
        simp only [Option.some.injEq, Prod.mk.injEq] at ht
        obtain ⟨rfl, rfl⟩ := ht
        simp only [Bool.and_eq_true] at hd
        exact hdraw e call all an ord l id st a w K hc hm hres hl hd.1 hd.2 he hi
      · simp at ht
  | seq x y ihx ihy =>
    intro ls C ls' st a w K ht he hi
    simp only [trC] at ht
    obtain ⟨p, hp, ht⟩ := bindS ht
    obtain ⟨x', ls1⟩ := p
    obtain ⟨q, hq, ht⟩ := bindS ht
    obtain ⟨y', ls2⟩ := q
    simp only [Option.some.injEq, Prod.mk.injEq] at ht
    obtain ⟨rfl, rfl⟩ := ht
    refine wp_seq (wp_mono (ihx ls x' ls1 st a w _ hp he hi) (fun ex a' w' hh => ?_))
    cases ex with
    | normal =>
      obtain ⟨st', h1, h2⟩ := hh
      exact ihy ls1 y' ls2 st' a' w' K hq h1 h2
    | exit id => exact hh
    | goto l => exact hh
    | ret => exact hh
    | panic ch => exact hh
    | outgrown => exact hh
  | cond x p q ihp ihq =>
    intro ls C ls' st a w K ht he hi
    simp only [trC] at ht
    obtain ⟨x', hx, ht⟩ := bindS ht
    obtain ⟨p', hp, ht⟩ := bindS ht
    obtain ⟨p', ls1⟩ := p'
    obtain ⟨q', hq, ht⟩ := bindS ht
    obtain ⟨q', ls2⟩ := q'
    simp only [Option.some.injEq, Prod.mk.injEq] at ht
    obtain ⟨rfl, rfl⟩ := ht
    simp only [code] at he
    split at he
    · rename_i t hb
      obtain ⟨k, β, A, hf⟩ := hi
      have hev := sr_asB (hf.arg hx hG) hb
      refine wp_cond_split hev (fun ht => ?_) (fun ht => ?_)
      · rw [if_pos ht] at he
        exact ihp ls p' ls1 st a w K hp he hf.inv
      · rw [if_neg (by simp [ht])] at he
        exact ihq ls1 q' ls2 st a w K hq he hf.inv
    · exact he.elim
  | block id c ih =>
    intro ls C ls' st a w K ht he hi
    simp only [trC] at ht
    obtain ⟨p, hp, ht⟩ := bindS ht
    obtain ⟨c', ls1⟩ := p
    simp only [Option.some.injEq, Prod.mk.injEq] at ht
    obtain ⟨rfl, rfl⟩ := ht
    refine wp_block (wp_mono (ih ls c' ls1 st a w _ hp he hi) (fun ex a' w' hh => ?_))
    cases ex with
    | exit i =>
      obtain ⟨st', h1, h2⟩ := hh
      simp only [Exit.inBlock]
      split
      · rename_i hid
        simp only [hid, if_true] at h1
        exact ⟨st', h1, h2⟩
      · rename_i hid
        simp only [hid, if_false] at h1
        exact ⟨st', h1, h2⟩
    | normal => exact hh
    | goto l => exact hh
    | ret => exact hh
    | panic ch => exact hh
    | outgrown => exact hh
  | loop c ih =>
    intro ls C ls' st a w K ht he hi
    simp only [trC] at ht
    cases ls with
    | nil => simp at ht
    | cons live ls =>
      simp only at ht
      obtain ⟨p, hp, ht⟩ := bindS ht
      obtain ⟨c', ls1⟩ := p
      simp only at ht
      split at ht
      · simp only [Option.some.injEq, Prod.mk.injEq] at ht
        obtain ⟨rfl, rfl⟩ := ht
        refine wp_loop_at ?_
        simp only [code] at he
        have go : ∀ (n : Nat) (st : S) (a : Act) (w : World), loopN live (code call fuel c') n st K → Inv G N e st a w → LoopAt P c (QK G N e K) a w := by
          intro n
          induction n with
          | zero => intro st a w hl _; exact hl.elim
          | succ n ihn =>
            intro st a w hl hi
            simp only [loopN] at hl
            refine loopAt_step (wp_mono (ih ls c' ls1 _ a w _ hp hl (clear_sound hres hi)) (fun ex a' w' hh => ?_))
            cases ex with
            | normal =>
              obtain ⟨st', h1, h2⟩ := hh
              exact ihn st' a' w' h1 h2
            | exit id => exact hh
            | goto l => exact hh
            | ret => exact hh
            | panic ch => exact hh
            | outgrown => exact hh
        exact go fuel st a w he hi
      · simp at ht
  | exit id =>
    intro ls C ls' st a w K ht he hi
    simp only [trC, Option.some.injEq, Prod.mk.injEq] at ht
    obtain ⟨rfl, rfl⟩ := ht
    exact wp_exit ⟨st, he, hi⟩
  | ret =>
    intro ls C ls' st a w K ht he hi
    simp only [trC, Option.some.injEq, Prod.mk.injEq] at ht
    obtain ⟨rfl, rfl⟩ := ht
    exact wp_ret ⟨st, he, hi⟩
  | _ => intro ls C ls' st a w K ht; simp [trC] at ht

/-- The results, as they leave. -/
theorem outs_mem {vs l : List V} (h : outs vs = some l) : l.length = vs.length ∧ ∀ (j : Nat) (v : V), l[j]? = some v → ∃ v0, vs[j]? = some v0 ∧ v0.out = some v := by
  induction vs generalizing l with
  | nil => simp [outs] at h; subst h; simp
  | cons v vs ih =>
    simp only [outs] at h
    split at h
    · rename_i p q hp hq
      simp only [Option.some.injEq] at h; subst h
      obtain ⟨h1, h2⟩ := ih hq
      refine ⟨by simp [h1], fun j y hj => ?_⟩
      cases j with
      | zero => simp at hj; subst hj; exact ⟨v, by simp, hp⟩
      | succ j => simpa using h2 j y (by simpa using hj)
    · simp at h

theorem outR_sound (h : FW G N e k β A st a w) {v v' : V} {x : Value} (hv : SR k w β A st.u v x) (ho : outR st.u v = some v') :
    (isOwn v' = false ∧ VR k w v' x) ∨ (∃ s, A s ∧ RR1 k w (β s) v' x) := by
  cases v with
  | vec xs c =>
    cases c with
    | own s =>
      simp only [outR, Option.some.injEq] at ho
      subst ho
      by_cases hu : s ∈ st.u
      · rw [if_pos hu]; exact .inl ⟨rfl, hv.1⟩
      · rw [if_neg hu]
        have := hv.2 hu
        obtain ⟨hA, ad, cap, sz, q⟩ := this
        exact .inr ⟨s, hA, hv.1, trivial, ad, cap, sz, q⟩
    | any => simp only [outR, V.out, Option.some.injEq] at ho; subst ho; exact .inl ⟨rfl, hv⟩
    | full => simp only [outR, V.out, Option.some.injEq] at ho; subst ho; exact .inl ⟨rfl, hv⟩
  | lptr => simp [outR, V.out] at ho
  | itr => simp [outR, V.out] at ho
  | tuple => simp [outR, V.out] at ho
  | undef => simp [outR, V.out] at ho
  | _ => simp only [outR, V.out, Option.some.injEq] at ho; subst ho; exact .inl ⟨rfl, hv⟩

theorem out_not_own {v v' : V} (h : v.out = some v') : isOwn v' = false := by
  cases v with
  | vec xs c => cases c <;> simp [V.out] at h <;> subst h <;> rfl
  | _ => simp [V.out] at h <;> subst h <;> rfl

theorem RR1.of_vr {b : Nat} {v : V} {x : Value} (h : VR k w v x) : RR1 k w b v x := by
  cases v with
  | vec xs c =>
    cases c with
    | own s => have := h.plain; simp [V.plain] at this
    | any => exact h
    | full => exact h
  | _ => exact h

theorem outRs_sound (h : FW G N e k β A st a w) : ∀ {vs l : List V} {xs : List Value}, xs.length = vs.length → (∀ (j : Nat) (v : V), vs[j]? = some v → ∃ x, xs[j]? = some x ∧ SR k w β A st.u v x) → outRs st.u vs = some l →
    l.length = vs.length ∧ ∃ b, (l.any isOwn = true → ∃ s, A s ∧ b = β s) ∧ ∀ (j : Nat) (v : V), l[j]? = some v → ∃ x, xs[j]? = some x ∧ RR1 k w b v x
  | [], l, xs, _, _, ho => by
    simp [outRs] at ho; subst ho
    exact ⟨rfl, 0, by simp, by simp⟩
  | v :: vs, l, xs, hl, hx, ho => by
    simp only [outRs] at ho
    obtain ⟨x0, hx0, hr0⟩ := hx 0 v (by simp)
    split at ho
    · rename_i ys s hv
      simp only [Option.map_eq_some_iff] at ho
      obtain ⟨l', hl', rfl⟩ := ho
      obtain ⟨m1, m2⟩ := outs_mem hl'
      rcases outR_sound h hr0 hv with ⟨h1, _⟩ | ⟨s', hA, hrr⟩
      · simp [isOwn] at h1
      · refine ⟨by simp [m1], β s', fun _ => ⟨s', hA, rfl⟩, fun j y hj => ?_⟩
        cases j with
        | zero => simp at hj; subst hj; exact ⟨x0, hx0, hrr⟩
        | succ j =>
          obtain ⟨v0, p1, p2⟩ := m2 j y (by simpa using hj)
          obtain ⟨x, q1, q2⟩ := hx (j + 1) v0 (by simpa using p1)
          exact ⟨x, q1, RR1.of_vr (q2.out p2)⟩
    · rename_i v' hne hv'
      simp only [Option.map_eq_some_iff] at ho
      obtain ⟨l', hl', rfl⟩ := ho
      cases xs with
      | nil => simp at hl
      | cons x xs =>
        obtain ⟨i1, b, i2, i3⟩ := outRs_sound h (xs := xs) (by simpa using hl) (fun j v hj => by simpa using hx (j + 1) v (by simpa using hj)) hl'
        have hno : isOwn v' = false ∧ VR k w v' x0 := by
          rcases outR_sound h hr0 hv' with h1 | ⟨s', hA, hrr⟩
          · exact h1
          · cases v with
            | vec ys c =>
              cases c with
              | own s =>
                simp only [outR, Option.some.injEq] at hv'
                subst hv'
                by_cases hu : s ∈ st.u
                · rw [if_pos hu]; exact ⟨rfl, hr0.1⟩
                · exfalso
                  exact hne ys 0 (by simp [hu])
              | any => simp only [outR, V.out, Option.some.injEq] at hv'; subst hv'; exact ⟨rfl, hr0⟩
              | full => simp only [outR, V.out, Option.some.injEq] at hv'; subst hv'; exact ⟨rfl, hr0⟩
            | lptr => simp [outR, V.out] at hv'
            | itr => simp [outR, V.out] at hv'
            | tuple => simp [outR, V.out] at hv'
            | undef => simp [outR, V.out] at hv'
            | _ => simp only [outR, V.out, Option.some.injEq] at hv'; subst hv'; exact ⟨rfl, hr0⟩
        refine ⟨by simp [i1], b, fun hany => ?_, fun j y hj => ?_⟩
        · simp only [List.any_cons, hno.1, Bool.false_or] at hany
          exact i2 hany
        · cases j with
          | zero => simp at hj; subst hj; simp at hx0; subst hx0; exact ⟨x, by simp, RR1.of_vr hno.2⟩
          | succ j => simpa using i3 j y (by simpa using hj)
    · simp at ho

def resStep (tmps : Array Value) : ResultVar → Sem Value
  | .tmp t => pure (tmps.getD t undef)
  | .cell a t => do loadVar t (← asAddr (tmps.getD a undef))

theorem results_eq (fn : Func) (tmps : Array Value) : results fn tmps = (do let vs ← fn.results.mapM (resStep tmps); pure (if h : vs.size = 1 then vs[0] else .tuple vs)) := by
  have : (fun r : ResultVar => (match r with
    | .tmp t => pure (tmps.getD t undef)
    | .cell a t => do loadVar t (← asAddr (tmps.getD a undef)) : Sem Value)) = resStep tmps := by
    funext r; cases r <;> rfl
  unfold results
  rw [← this]
  rfl

/-- A function's results read. -/
theorem results_sound (h : FW G N e k β A st a w) {fn : Func} {rs : List IRes} (hr : trRes P fn.results.toList = some rs) {v : V} (hv : finish st rs = some v) :
    ∃ x b, (results fn a.tmps).run P w = .ok x w ∧ (hasOwn v = true → Fresh e.w.heap.size k st.h w b) ∧ RR k w b v x := by
  have hread : ∀ (l : List ResultVar) (rs : List IRes) (vs : List V), trRes P l = some rs → resVs st rs = some vs →
      ∃ xs : List Value, (l.mapM (resStep a.tmps) : Sem (List Value)).run P w = .ok xs w ∧ xs.length = vs.length ∧
        ∀ (j : Nat) (v : V), vs[j]? = some v → ∃ x, xs[j]? = some x ∧ SR k w β A st.u v x := by
    intro l
    induction l with
    | nil =>
      intro rs vs hr hv
      simp [trRes] at hr; subst hr
      simp [resVs] at hv; subst hv
      exact ⟨[], rfl, rfl, by simp⟩
    | cons r l ih =>
      intro rs vs hr hv
      cases r with
      | tmp t =>
        simp only [trRes, Option.map_eq_some_iff] at hr
        obtain ⟨rs', hr', rfl⟩ := hr
        simp only [resVs, resV] at hv
        split at hv
        · rename_i v0 vs' h0 hvs
          simp only [Option.some.injEq] at h0 hv
          subst h0; subst hv
          obtain ⟨xs, i1, i2, i3⟩ := ih rs' vs' hr' hvs
          refine ⟨a.tmps.getD t undef :: xs, by simp only [List.mapM_cons, resStep, Sem.run_bind, Sem.run_pure, Result.andThen_ok, i1], by simp [i2], fun j v hj => ?_⟩
          cases j with
          | zero => simp at hj; subst hj; exact ⟨_, by simp, h.slot t⟩
          | succ j => simpa using i3 j v (by simpa using hj)
        · simp at hv
      | cell ad t =>
        simp only [trRes] at hr
        split at hr
        · rename_i n ag rs' hn hag hr'
          simp only [Option.some.injEq] at hr; subst hr
          simp only [resVs, resV] at hv
          split at hv
          · rename_i v0 vs' h0 hvs
            simp only [Option.some.injEq] at hv; subst hv
            obtain ⟨xs, i1, i2, i3⟩ := ih rs' vs' hr' hvs
            obtain ⟨y, hy, hry⟩ := load_sound (P := P) h (h.slot ad) hn hag h0
            have hy' : (do loadVar t (← asAddr (a.tmps.getD ad undef)) : Sem Value).run P w = .ok y w := by
              have : ∀ X : Value, (Instr.loadAt t X).run P w = .ok y w → (do loadVar t (← asAddr X) : Sem Value).run P w = .ok y w := by
                intro X hX
                cases X <;> simp only [Instr.loadAt, Instr.sureAddr, Sem.run_bind, run_stuck, Result.andThen_halt, reduceCtorEq] at hX
                rename_i ad'
                cases ad' with
                | none => simp at hX
                | some ad' => simpa [asAddr] using hX
              exact this _ hy
            refine ⟨y :: xs, ?_, by simp [i2], fun j v hj => ?_⟩
            · simp only [List.mapM_cons, resStep, Sem.run_bind, Sem.run_pure, Result.andThen_ok, i1]
              simp only [Sem.run_bind] at hy'
              rw [hy']
              simp only [Result.andThen_ok, Sem.run_bind, i1, Sem.run_pure]
            · cases j with
              | zero => simp at hj; subst hj; exact ⟨_, by simp, hry⟩
              | succ j => simpa using i3 j v (by simpa using hj)
          · simp at hv
        · simp at hr
  unfold finish at hv
  have hfresh : ∀ {s}, A s → Fresh e.w.heap.size k st.h w (β s) := fun hs => let ⟨_, p2, p3, p4⟩ := h.alloc _ hs; ⟨p2, p3, p4⟩
  split at hv
  · rename_i v0 hvs
    obtain ⟨xs, r1, r2, r3⟩ := hread _ _ _ hr hvs
    obtain ⟨x, hx⟩ : ∃ x, xs = [x] := by
      match xs, r2 with
      | [x], _ => exact ⟨x, rfl⟩
    subst hx
    obtain ⟨x', hx', hsr⟩ := r3 0 v0 (by simp)
    simp at hx'; subst hx'
    have hrun : (results fn a.tmps).run P w = .ok x w := by
      rw [results_eq]
      simp only [Array.mapM_eq_mapM_toList, Sem.run_bind, Sem.run_map]
      rw [r1]
      simp
    have hnt : ∀ vs, v ≠ .tuple vs := by
      intro vs hh
      subst hh
      cases v0 <;> simp [outR, V.out] at hv
      rename_i c; cases c <;> simp [outR, V.out] at hv
    rcases outR_sound h hsr hv with ⟨h1, h2⟩ | ⟨s, hA, hrr⟩
    · refine ⟨x, 0, hrun, fun ho => ?_, ?_⟩
      · cases v <;> first | (exact absurd rfl (hnt _)) | (simp only [hasOwn] at ho; rw [h1] at ho; simp at ho)
      · have hr1 : RR1 k w 0 v x := RR1.of_vr h2
        cases v <;> first | (exact absurd rfl (hnt _)) | exact hr1
    · refine ⟨x, β s, hrun, fun _ => hfresh hA, ?_⟩
      cases v <;> first | (exact absurd rfl (hnt _)) | exact hrr
  · rename_i vs hn1 hvs
    simp only [Option.map_eq_some_iff] at hv
    obtain ⟨l, hl, rfl⟩ := hv
    obtain ⟨xs, r1, r2, r3⟩ := hread _ _ _ hr hvs
    obtain ⟨i1, b, i2, i3⟩ := outRs_sound h r2 r3 hl
    have hrun : (results fn a.tmps).run P w = .ok (.tuple xs.toArray) w := by
      rw [results_eq]
      simp only [Array.mapM_eq_mapM_toList, Sem.run_bind, Sem.run_map]
      rw [r1]
      have hne : ¬ xs.length = 1 := by
        rw [r2]
        intro h1
        match vs, h1 with
        | [v], _ => exact hn1 v rfl
      simp [hne]
    refine ⟨_, b, hrun, fun ho => ?_, xs.toArray, rfl, by simp [r2, i1], fun j v hj => ?_⟩
    · obtain ⟨s, hA, rfl⟩ := i2 ho
      exact hfresh hA
    · obtain ⟨x, p, q⟩ := i3 j v hj
      exact ⟨x, by simpa using p, q⟩
  · simp at hv

/-- The functions that an environment speaks of are the program's. -/
structure EnvOK (P : Program) (G : List (Nat × List V)) (E : Env) : Prop where
  ir : ∀ f F, E.ir f = some F → ∃ fn hs, P.funcs[f]? = some fn ∧ fn.name ≠ "runtime.NumGoroutine" ∧ trF P hs fn = some F ∧ (∀ g cells, (g, cells) ∈ hs.glob → (g, cells) ∈ G)
  ext : ∀ f x, E.ext f = some x → ∀ call, CallOK P G call → ∀ args h K, x call args h K → GoodFn P f ∧ ∀ k w xs, WR k h w G → ArgsOK k w args xs → Calls P f xs w fun en w' => ∃ o h', K o h' ∧ CallPost G k h w o h' en w'

theorem call_sound {E : Env} (hE : EnvOK P G E) (hdraw : ∀ hs N, (∀ g cells, (g, cells) ∈ hs.glob → (g, cells) ∈ G) → DrawOK P hs N G) (hm : ∀ n, MonoT (call E n)) : ∀ n, CallOK P G (call E n)
  | 0 => fun f args h K hc => by simp [call] at hc
  | n + 1 => fun f args h K hc => by
    have ih := call_sound hE hdraw hm n
    simp only [call] at hc
    split at hc
    · rename_i x hx
      exact hE.ext f x hx _ ih args h K hc
    · split at hc
      · rename_i F hF
        obtain ⟨fn, hs, hfn, hname, htr, hG⟩ := hE.ir f F hF
        unfold trF at htr
        obtain ⟨c, hbody, htr⟩ := bindS htr
        obtain ⟨p, hp, htr⟩ := bindS htr
        obtain ⟨C, ls'⟩ := p
        simp only at htr
        obtain ⟨rs, hrs, htr⟩ := bindS htr
        simp only [Option.some.injEq] at htr
        subst htr
        refine ⟨⟨fn, hfn, by rw [hbody]; rfl, hname⟩, fun k w xs hw hargs => ?_⟩
        unfold body at hc
        simp only at hc
        obtain ⟨hlen, hc⟩ := hc
        refine calls_of_wp hfn hbody ?_
        have hxs : xs.size ≤ fn.ntmps := by rw [hargs.1]; exact hlen
        have hinv : Inv G fn.ntmps ⟨k, h, w, fun _ => False⟩ ⟨args0 args, fun _ => none, 0, [], h⟩ { tmps := xs ++ Array.replicate (fn.ntmps - xs.size) undef, defers := [] } w := by
          refine ⟨k, fun _ => 0, fun _ => False, fun t => ?_, by simp; omega, rfl, by simp, by simp, by simp, by simp, hw, ⟨Keeps.refl _ _, fun _ _ => rfl, fun _ _ _ => rfl, fun id o ho _ => ⟨id, o, ho, rfl⟩, rfl, rfl, rfl⟩⟩
          simp only [args0]
          cases ha : args[t]? with
          | none =>
            have : args.getD t .undef = .undef := by simp [List.getD, ha]
            rw [this]; trivial
          | some v =>
            have : args.getD t .undef = v := by simp [List.getD, ha]
            rw [this]
            obtain ⟨x, hx, hr⟩ := hargs.2 t v ha
            have hlt : t < xs.size := (Array.getElem?_eq_some_iff.1 hx).1
            have : (xs ++ Array.replicate (fn.ntmps - xs.size) undef).getD t undef = x := by
              rw [Array.getD_eq_getD_getElem?, Array.getElem?_append_left hlt, hx]; rfl
            rw [this]
            exact hr.sr
        refine wp_mono (code_sound hG ih (hm n) (hdraw hs fn.ntmps hG) (fun _ h => h) n c hs.loops C ls' _ _ w _ hp hc hinv) (fun ex a' w' hh => ?_)
        have hfin : ∀ st', (match finish st' rs with | some v => K (.ret v) st'.h | none => False) → Inv G fn.ntmps ⟨k, h, w, fun _ => False⟩ st' a' w' →
            a'.defers = [] ∧ ∃ v, (results fn a'.tmps).run P w' = .ok v w' ∧ ∃ o h', K o h' ∧ CallPost G k h w o h' (.returned v) w' := by
          rintro st' h1 ⟨k', β', A', hf⟩
          split at h1
          · rename_i v hv
            obtain ⟨x, b, r1, r2, r3⟩ := results_sound (P := P) hf hrs hv
            exact ⟨hf.defers, x, r1, .ret v, st'.h, h1, k', hf.wr, hf.old, x, b, rfl, r2, r3⟩
          · exact h1.elim
        cases ex with
        | normal =>
          obtain ⟨st', h1, h2⟩ := hh
          exact hfin st' h1 h2
        | ret =>
          obtain ⟨st', h1, h2⟩ := hh
          exact hfin st' h1 h2
        | exit id =>
          obtain ⟨st', h1, h2⟩ := hh
          exact h1.elim
        | goto l => exact hh.elim
        | outgrown => exact hh.elim
        | panic ch =>
          obtain ⟨v, h', h1, h2, x, k', rfl, hw', ho', hvr⟩ := hh
          exact ⟨h2, .pan v, h', h1, k', hw', ho', x, rfl, hvr⟩
      · exact hc.elim

end
end Go.Ab
