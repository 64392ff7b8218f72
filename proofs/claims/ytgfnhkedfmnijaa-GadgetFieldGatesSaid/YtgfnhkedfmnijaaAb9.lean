/- Every reading of the layer Ab yields what the model's operation yields: all of them together. -/
import Derived.Test.YtgfnhkedfmnijaaAb8
import Derived.Laws.Externs
import Derived.KernelRfl
set_option linter.unusedVariables false
set_option linter.unusedSimpArgs false
namespace Go.Ab

section
variable {G : List (Nat × List V)} {N : Nat} {e : Entry} {k : Ctx} {β : Nat → Nat} {A : Nat → Prop} {st : S} {a : Act} {w : World} {P : Program} {u : List Nat} {hs : Hints}

theorem exec_value {s : Sem Value} {x : Value} {w' : World} (h : s.run P w = .ok x w') : (do pure (Next.value (← s)) : Sem Next).run P w = .ok (.value x) w' := by
  simp only [Sem.run_bind, h, Result.andThen_ok, Sem.run_pure]

theorem FW.opt (h : FW G N e k β A st a w) (hG : ∀ g cells, (g, cells) ∈ hs.glob → (g, cells) ∈ G) {x : Option Operand} {y : Option Arg} (ht : trOpt hs x = some y) :
    OptSR k w β A st.u (y.map (evA st.ρ)) (x.map a.eval) := by
  cases x with
  | none => simp [trOpt] at ht; subst ht; trivial
  | some x =>
    simp only [trOpt, Option.map_eq_some_iff] at ht
    obtain ⟨y', hy, rfl⟩ := ht
    exact h.arg hy hG

theorem outs_args (h : FW G N e k β A st a w) (hG : ∀ g cells, (g, cells) ∈ hs.glob → (g, cells) ∈ G) : ∀ {os : List Operand} {xs : List Arg} {vs : List V}, trArgs hs os = some xs → outs (xs.map (evA st.ρ)) = some vs →
    (os.map a.eval).length = vs.length ∧ ∀ (j : Nat) (v : V), vs[j]? = some v → ∃ x, (os.map a.eval)[j]? = some x ∧ VR k w v x
  | [], xs, vs, ht, ho => by
    simp [trArgs] at ht; subst ht
    simp [outs] at ho; subst ho
    simp
  | o :: os, xs, vs, ht, ho => by
    simp only [trArgs] at ht
    split at ht
    · rename_i p q hp hq
      simp only [Option.some.injEq] at ht; subst ht
      simp only [List.map_cons, outs] at ho
      split at ho
      · rename_i v vs' hv hvs
        simp only [Option.some.injEq] at ho; subst ho
        obtain ⟨h1, h2⟩ := outs_args h hG hq hvs
        refine ⟨by simpa using h1, fun j v hj => ?_⟩
        cases j with
        | zero => simp at hj; subst hj; exact ⟨a.eval o, by simp, (h.arg hp hG).out hv⟩
        | succ j => simpa using h2 j v (by simpa using hj)
      · simp at ho
    · simp at ht

/-- The arguments of 'max' and 'min'. -/
theorem args_rest (h : FW G N e k β A st a w) (hG : ∀ g cells, (g, cells) ∈ hs.glob → (g, cells) ∈ G) {os : List Operand} {xs : List Arg} (ht : trArgs hs os = some xs) :
    (os.map a.eval).length = (xs.map (evA st.ρ)).length ∧ ∀ (j : Nat) (v : V), (xs.map (evA st.ρ))[j]? = some v → ∃ y, (os.map a.eval)[j]? = some y ∧ SR k w β A st.u v y := by
  obtain ⟨h1, h2⟩ := h.args hG ht
  refine ⟨by simp [h1], fun j v hj => ?_⟩
  simp only [List.getElem?_map, Option.map_eq_some_iff] at hj
  obtain ⟨x, hx, rfl⟩ := hj
  obtain ⟨o, ho, hr⟩ := h2 j x hx
  exact ⟨a.eval o, by simp [ho], hr⟩

theorem maxV_plain {x r : V} {vs : List V} (h : maxV x vs = some r) (hne : vs ≠ []) : ∃ i n, x = .int i n := by
  cases vs with
  | nil => exact absurd rfl hne
  | cons v vs =>
    unfold maxV at h
    split at h <;> simp_all

theorem minV_plain {x r : V} {vs : List V} (h : minV x vs = some r) (hne : vs ≠ []) : ∃ i n, x = .int i n := by
  cases vs with
  | nil => exact absurd rfl hne
  | cons v vs =>
    unfold minV at h
    split at h <;> simp_all

/-- What a reading is shown to do. -/
def Reads (P : Program) (G : List (Nat × List V)) (N : Nat) (e : Entry) (β : Nat → Nat) (A : Nat → Prop) (st : S) (a : Act) (w : World) (o : Oper) (v : V) : Prop :=
  ∃ x w' k', (execOp a.eval o).run P w = .ok (.value x) w' ∧ FW G N e k' β A st a w' ∧ SR k' w' β A st.u v x

theorem FW.reads (h : FW G N e k β A st a w) {o : Oper} {v : V} {s : Sem Value} (hs : execOp a.eval o = (do pure (Next.value (← s)))) (hr : ∃ x, s.run P w = .ok x w ∧ SR k w β A st.u v x) :
    Reads P G N e β A st a w o v := by
  obtain ⟨x, h1, h2⟩ := hr
  exact ⟨x, w, k, by rw [hs]; exact exec_value h1, h, h2⟩

theorem trArgs_one {os : List Operand} {x : Arg} (h : trArgs hs os = some [x]) : ∃ o, os = [o] ∧ trArg hs o = some x := by
  match os, h with
  | [], h => simp [trArgs] at h
  | [o], h =>
    simp only [trArgs] at h
    split at h
    · rename_i p q hp hq
      simp at hq; subst hq
      simp at h; subst h
      exact ⟨o, rfl, hp⟩
    · simp at h
  | o1 :: o2 :: r, h =>
    simp only [trArgs] at h
    split at h
    · rename_i p q hp hq
      split at hq
      · simp at hq; subst hq; simp at h
      · simp at hq
    · simp at h

theorem trArgs_two {os : List Operand} {x y : Arg} (h : trArgs hs os = some [x, y]) : ∃ o p, os = [o, p] ∧ trArg hs o = some x ∧ trArg hs p = some y := by
  match os, h with
  | [], h => simp [trArgs] at h
  | o :: os, h =>
    simp only [trArgs] at h
    split at h
    · rename_i p q hp hq
      simp at h
      obtain ⟨h1, h2⟩ := h
      subst h1; subst h2
      obtain ⟨o', rfl, ho'⟩ := trArgs_one hq
      exact ⟨o, o', rfl, hp, ho'⟩
    · simp at h

theorem trArgs_three {os : List Operand} {x y z : Arg} (h : trArgs hs os = some [x, y, z]) : ∃ o p q, os = [o, p, q] ∧ trArg hs o = some x ∧ trArg hs p = some y ∧ trArg hs q = some z := by
  match os, h with
  | [], h => simp [trArgs] at h
  | o :: os, h =>
    simp only [trArgs] at h
    split at h
    · rename_i p q hp hq
      simp at h
      obtain ⟨h1, h2⟩ := h
      subst h1; subst h2
      obtain ⟨o', p', rfl, ho', hp'⟩ := trArgs_two hq
      exact ⟨o, o', p', rfl, hp, ho', hp'⟩
    · simp at h

theorem vr_int {i : IntKind} {n : Int} {X : Value} (h : VR k w (.int i n) X) : X = .int i n := by cases h; rfl

theorem find_add64 {fn : Func} (h : fn.name = "math/bits.Add64") : Extern.find fn = some add64Entry := by
  unfold Extern.find
  simp only [h]
  rw [show Extern.allGenericRows.lookup "math/bits.Add64" = none from by kernel_rfl, show Extern.allTypedRows.lookup "math/bits.Add64" = none from by kernel_rfl, show Extern.allRows.lookup "math/bits.Add64" = some add64Entry from by kernel_rfl]
  rfl

theorem findNext_add64 {fn : Func} (h : fn.name = "math/bits.Add64") (h2 : fn.origin = "") : Extern.findNext fn = none := by
  unfold Extern.findNext
  simp only [h, h2]
  rw [show Extern.allNextRows.lookup "math/bits.Add64" = none from by kernel_rfl, show Extern.allNextRows.lookup "" = none from by kernel_rfl]
  rfl

theorem rd_call (h : FW G N e k β A st a w) (hG : ∀ g cells, (g, cells) ∈ hs.glob → (g, cells) ∈ G) {o : Oper} {c : Call} (hop : o.op = .call c) {kk : K} (ht : trCall P hs o.dst c = some kk) {v : V} (hv : rd st kk = some v) :
    Reads P G N e β A st a w o v := by
  unfold trCall at ht
  obtain ⟨args, hargs, ht⟩ := bindS ht
  obtain ⟨callee, cargs, ctypes⟩ := c
  simp only at ht hargs
  split at ht
  · rename_i fid _
    obtain ⟨fn, hfn, ht⟩ := bindS ht
    split at ht
    · simp only [Option.some.injEq] at ht; subst ht; simp [rd] at hv
    · split at ht
      · rename_i hcc
        split at ht
        · simp only [Option.some.injEq] at ht; subst ht
          rename_i x y z
          obtain ⟨p, q, r, hl, hp, hq, hr⟩ := trArgs_three hargs
          have hcargs : cargs = #[p, q, r] := by
            have : cargs = cargs.toList.toArray := by simp
            rw [this, hl]
          subst hcargs
          have hs1 := h.arg hp hG
          have hs2 := h.arg hq hG
          have hs3 := h.arg hr hG
          simp only [rd] at hv
          unfold add64V at hv
          split at hv
          · rename_i i j l e1 e2 e3
            split at hv
            · rename_i hb
              obtain ⟨b1, b2, b3, b4⟩ := hb
              simp only [Option.some.injEq] at hv; subst hv
              rw [e1] at hs1; rw [e2] at hs2; rw [e3] at hs3
              have f1 : a.eval p = .int .u64 i := vr_int hs1
              have f2 : a.eval q = .int .u64 j := vr_int hs2
              have f3 : a.eval r = .int .u64 l := vr_int hs3
              refine ⟨.tuple #[.int .u64 ((i + j + l) % 18446744073709551616), .int .u64 ((i + j + l) / 18446744073709551616)], w, k, ?_, h, ⟨_, rfl, rfl, fun n v hn => ?_⟩⟩
              · have hex : execOp a.eval o = callFunc fid #[a.eval p, a.eval q, a.eval r] := by
                  simp only [execOp, hop, resolve, invoke, List.map_toArray, List.map_cons, List.map_nil, pure_bind]
                  rfl
                rw [hex, run_callFunc_extern hfn (by rw [hcc.2.1]; decide) (by simpa using hcc.1) (findNext_add64 hcc.2.1 hcc.2.2) (find_add64 hcc.2.1), f1, f2, f3, run_add64 _ _ _ b1 b2 b3 b4]
                rfl
              · match n, hn with
                | 0, hn => simp at hn; subst hn; exact ⟨_, rfl, VR.sr1 (.int _ _)⟩
                | 1, hn => simp at hn; subst hn; exact ⟨_, rfl, VR.sr1 (.int _ _)⟩
                | n + 2, hn => simp at hn
            · simp at hv
          · simp at hv
        · simp at ht
      · simp at ht
  · obtain ⟨x, hx, ht⟩ := bindS ht
    simp only [Option.some.injEq] at ht; subst ht; simp [rd] at hv
  · simp at ht
  · rename_i b
    have hcargs : cargs = cargs.toList.toArray := by simp
    split at ht
    · -- len
      rename_i x
      obtain ⟨os, hl, hox⟩ := trArgs_one hargs
      have hca : cargs = #[os] := by rw [hcargs, hl]
      subst hca
      have hsr := h.arg hox hG
      obtain ⟨t0, ht0, ht⟩ := bindS ht
      have hex : execOp a.eval o = (do pure (Next.value (← Builtin.len_ ctypes o.type #[a.eval os]))) := by
        simp only [execOp, hop, resolve, invoke, builtin, List.map_toArray, List.map_cons, List.map_nil, pure_bind]
      refine h.reads hex ?_
      split at ht <;> simp only [Option.some.injEq, reduceCtorEq] at ht <;> subst ht
      · rename_i n _ hu
        simp only [rd, Option.some.injEq] at hv; subst hv
        exact ⟨_, by simp [Builtin.len_, ht0, run_underlying hu]; rfl, VR.sr (.int _ _)⟩
      · rename_i el hu
        cases hx : evA st.ρ x with
        | vec xs c =>
          rw [hx] at hsr
          simp only [rd, hx, Option.some.injEq] at hv; subst hv
          have := hsr.vec
          generalize a.eval os = X at *
          cases this with
          | vecNil _ _ => exact ⟨.int .i64 0, by simp [Builtin.len_, ht0, run_underlying hu, goInt], VR.sr (.int _ _)⟩
          | vec _ _ ad len cap sz val hc hlen hcap hf hsz hcell hval =>
            subst hlen
            exact ⟨.int .i64 (xs.length : Nat), by simp [Builtin.len_, ht0, run_underlying hu, goInt], VR.sr (.int _ _)⟩
        | ref id off n sz =>
          rw [hx] at hsr
          simp only [rd, hx, Option.some.injEq] at hv; subst hv
          have hsr' : VR k w (.ref id off n sz) (a.eval os) := hsr
          generalize a.eval os = X at *
          cases hsr' with
          | ref => exact ⟨.int .i64 (n : Nat), by simp [Builtin.len_, ht0, run_underlying hu, goInt], VR.sr (.int _ _)⟩
        | _ => simp [rd, hx] at hv
      · rename_i hu
        cases hx : evA st.ρ x with
        | str s =>
          rw [hx] at hsr
          simp only [rd, hx, Option.some.injEq] at hv; subst hv
          have := sr_str hsr
          exact ⟨.int .i64 (s.size : Nat), by simp [Builtin.len_, ht0, run_underlying hu, goInt, this], VR.sr (.int _ _)⟩
        | _ => simp [rd, hx] at hv
      · rename_i kt el hu
        cases hx : evA st.ρ x with
        | nilmap =>
          rw [hx] at hsr
          simp only [rd, hx, Option.some.injEq] at hv; subst hv
          have hsr' : VR k w .nilmap (a.eval os) := hsr
          generalize a.eval os = X at *
          cases hsr'
          exact ⟨.int .i64 0, by simp [Builtin.len_, ht0, run_underlying hu, goInt], VR.sr (.int _ _)⟩
        | map id =>
          rw [hx] at hsr
          simp only [rd, hx] at hv
          split at hv
          · rename_i es ver hg
            simp only [Option.some.injEq] at hv; subst hv
            obtain ⟨en, clock, h1, h2, _⟩ := h.map hg
            have hsr' : VR k w (.map id) (a.eval os) := hsr
            generalize a.eval os = X at *
            cases hsr' with
            | map _ b hb _ =>
              subst hb
              exact ⟨.int .i64 (es.length : Nat), by simp [Builtin.len_, ht0, run_underlying hu, goInt, run_getObj_map h1, h2], VR.sr (.int _ _)⟩
          · simp at hv
        | _ => simp [rd, hx] at hv
    · -- max
      simp only [Option.some.injEq] at ht; subst ht
      have hex : execOp a.eval o = (do pure (Next.value (← Builtin.max_ ctypes o.type (cargs.map a.eval)))) := by
        simp only [execOp, hop, resolve, invoke, builtin, pure_bind]
      refine h.reads hex ?_
      obtain ⟨h1, h2⟩ := args_rest h hG hargs
      simp only [rd] at hv
      cases hl : cargs.toList with
      | nil => rw [hl] at hargs; simp [trArgs] at hargs; subst hargs; simp at hv
      | cons o0 os =>
        have hm : (cargs.map a.eval).toList = a.eval o0 :: os.map a.eval := by simp [hl]
        rw [hl] at hargs h1 h2
        cases args with
        | nil => simp at hv
        | cons x xs =>
          simp only [List.map_cons] at hv h1 h2
          obtain ⟨y, hy, hr0⟩ := h2 0 (evA st.ρ x) (by simp)
          simp at hy; subst hy
          simp only [Builtin.max_, hm]
          cases xs with
          | nil =>
            simp [maxV] at hv; subst hv
            have : os = [] := by simpa using h1
            subst this
            exact ⟨_, rfl, hr0⟩
          | cons x1 xs1 =>
            obtain ⟨i, n, hi⟩ := maxV_plain hv (by simp)
            rw [hi] at hr0 hv
            have hvr : VR k w (.int i n) (a.eval o0) := hr0
            obtain ⟨z, hz, hzr⟩ := maxV_sound (P := P) (xs := os.map a.eval) hvr (by simpa using h1) (fun j v hj => by simpa using h2 (j + 1) v (by simpa using hj)) hv
            exact ⟨z, hz, hzr.sr⟩
    · -- min
      simp only [Option.some.injEq] at ht; subst ht
      have hex : execOp a.eval o = (do pure (Next.value (← Builtin.min_ ctypes o.type (cargs.map a.eval)))) := by
        simp only [execOp, hop, resolve, invoke, builtin, pure_bind]
      refine h.reads hex ?_
      obtain ⟨h1, h2⟩ := args_rest h hG hargs
      simp only [rd] at hv
      cases hl : cargs.toList with
      | nil => rw [hl] at hargs; simp [trArgs] at hargs; subst hargs; simp at hv
      | cons o0 os =>
        have hm : (cargs.map a.eval).toList = a.eval o0 :: os.map a.eval := by simp [hl]
        rw [hl] at hargs h1 h2
        cases args with
        | nil => simp at hv
        | cons x xs =>
          simp only [List.map_cons] at hv h1 h2
          obtain ⟨y, hy, hr0⟩ := h2 0 (evA st.ρ x) (by simp)
          simp at hy; subst hy
          simp only [Builtin.min_, hm]
          cases xs with
          | nil =>
            simp [minV] at hv; subst hv
            have : os = [] := by simpa using h1
            subst this
            exact ⟨_, rfl, hr0⟩
          | cons x1 xs1 =>
            obtain ⟨i, n, hi⟩ := minV_plain hv (by simp)
            rw [hi] at hr0 hv
            have hvr : VR k w (.int i n) (a.eval o0) := hr0
            obtain ⟨z, hz, hzr⟩ := minV_sound (P := P) (xs := os.map a.eval) hvr (by simpa using h1) (fun j v hj => by simpa using h2 (j + 1) v (by simpa using hj)) hv
            exact ⟨z, hz, hzr.sr⟩
    · -- append
      obtain ⟨t0, ht0, ht⟩ := bindS ht
      obtain ⟨t1, ht1, ht⟩ := bindS ht
      obtain ⟨el, hel, ht⟩ := bindS ht
      obtain ⟨n, hn, ht⟩ := bindS ht
      obtain ⟨ag, hag, ht⟩ := bindS ht
      obtain ⟨z, hz, ht⟩ := bindS ht
      obtain ⟨e', he', ht⟩ := bindS ht
      split at ht
      · obtain ⟨bt, hbt, ht⟩ := bindS ht
        simp only [Option.some.injEq] at ht; subst ht; simp [rd] at hv
      · simp at ht
    · -- delete
      obtain ⟨t0, ht0, ht⟩ := bindS ht
      split at ht
      · obtain ⟨q, hq, ht⟩ := bindS ht
        simp only [Option.some.injEq] at ht; subst ht; simp [rd] at hv
      · simp at ht
    · simp at ht

theorem rd_sound (h : FW G N e k β A st a w) (hG : ∀ g cells, (g, cells) ∈ hs.glob → (g, cells) ∈ G) {o : Oper} {kk : K} (ht : trK P hs o = some kk) {v : V} (hv : rd st kk = some v) :
    Reads P G N e β A st a w o v := by
  have one : ∀ {s : Sem Value}, execOp a.eval o = (do pure (Next.value (← s))) → (∃ x, s.run P w = .ok x w ∧ SR k w β A st.u v x) → Reads P G N e β A st a w o v := fun h1 h2 => h.reads h1 h2
  unfold trK at ht
  split at ht
  case h_1 x hop | h_2 x hop =>
    obtain ⟨x', hx, ht⟩ := bindS ht
    simp only [Option.some.injEq] at ht; subst ht
    simp only [rd, Option.some.injEq] at hv; subst hv
    exact ⟨_, w, k, by simp only [execOp, hop, Sem.run_pure], h, h.arg hx hG⟩
  case h_3 c x y hop =>
    obtain ⟨c', hc, ht⟩ := bindS ht
    obtain ⟨x', hx, ht⟩ := bindS ht
    obtain ⟨y', hy, ht⟩ := bindS ht
    simp only [Option.some.injEq] at ht; subst ht
    simp only [rd] at hv
    split at hv
    · rename_i t hb
      simp only [Option.some.injEq] at hv; subst hv
      have hc' := sr_asB (h.arg hc hG) hb
      refine ⟨if t then a.eval x else a.eval y, w, k, by simp only [execOp, hop, Sem.run_bind, hc', asBool, Sem.run_pure, Result.andThen_ok], h, ?_⟩
      cases t
      · exact h.arg hy hG
      · exact h.arg hx hG
    · simp at hv
  case h_4 t hop =>
    obtain ⟨z, hz, ht⟩ := bindS ht
    repeat' split at ht
    all_goals (simp only [Option.some.injEq] at ht; subst ht; simp [rd] at hv)
  case h_5 t x hop =>
    obtain ⟨x', hx, ht⟩ := bindS ht
    simp only [Option.some.injEq] at ht; subst ht; simp [rd] at hv
  case h_6 t parts hop =>
    obtain ⟨z, hz, ht⟩ := bindS ht
    obtain ⟨zx, hzr, hzc⟩ := zeroT_sound (P := P) (w := w) (k := k) hz
    have hmap : ∀ l : Array (Nat × Operand), (l.map fun (i, x) => (i, a.eval x)).toList = l.toList.map fun (i, x) => (i, a.eval x) := by intro l; simp
    split at ht
    · rename_i fs hu
      obtain ⟨pl, hpl, ht⟩ := bindS ht
      obtain ⟨ps, hps, ht⟩ := bindS ht
      simp only [Option.some.injEq] at ht; subst ht
      simp only [rd] at hv
      split at hv
      · rename_i cs hf
        simp only [Option.some.injEq] at hv; subst hv
        obtain ⟨ys, g1, g2⟩ := fill_sound h hG hps hzc hf
        have hplaces : ∀ (fs : List Field) (pl : List (Nat × Nat)), placesOf P fs = some pl → (fs.mapM fun f => do pure (f.offset, ← sizeOf f.type) : Sem (List (Nat × Nat))).run P w = .ok pl w := by
          intro fs
          induction fs with
          | nil => intro pl hp; simp [placesOf] at hp; subst hp; rfl
          | cons f fs ih =>
            intro pl hp
            simp only [placesOf] at hp
            split at hp
            · rename_i n l hn hl
              simp only [Option.some.injEq] at hp; subst hp
              simp only [List.mapM_cons, Sem.run_bind, run_sizeOf hn, Result.andThen_ok, Sem.run_pure, ih l hl]
            · simp at hp
        have hpl' : (fs.mapM fun f => do pure (f.offset, ← sizeOf f.type) : Sem (Array (Nat × Nat))).run P w = .ok pl.toArray w := by
          rw [Array.mapM_eq_mapM_toList]
          simp only [Sem.run_map, hplaces _ _ hpl, Result.andThen_ok]
        have g1' : Instr.fill (fun x => pl.toArray[x]?) zx.cells (parts.toList.map fun (i, x) => (i, a.eval x)) = some ys := by
          simpa using g1
        refine one (s := Instr.build t (parts.map fun (i, x) => (i, a.eval x))) (by simp only [execOp, hop]) ⟨.agg ys, ?_, VR.sr (VR.of_cells g2)⟩
        simp only [Instr.build, Sem.run_bind, hzr, Result.andThen_ok, Sem.run_pure, run_underlying hu, hpl', hmap, g1']
      · simp at hv
    · rename_i n0 el hu
      obtain ⟨n, hn, ht⟩ := bindS ht
      obtain ⟨ps, hps, ht⟩ := bindS ht
      simp only [Option.some.injEq] at ht; subst ht
      simp only [rd] at hv
      split at hv
      · rename_i cs hf
        simp only [Option.some.injEq] at hv; subst hv
        obtain ⟨ys, g1, g2⟩ := fill_sound h hG hps hzc hf
        refine one (s := Instr.build t (parts.map fun (i, x) => (i, a.eval x))) (by simp only [execOp, hop]) ⟨.agg ys, ?_, VR.sr (VR.of_cells g2)⟩
        simp only [Instr.build, Sem.run_bind, hzr, Result.andThen_ok, Sem.run_pure, run_underlying hu, run_sizeOf hn, hmap, g1]
      · simp at hv
    · simp at ht
  case h_7 t len parts hop =>
    obtain ⟨el, hel, ht⟩ := bindS ht
    obtain ⟨n, hn, ht⟩ := bindS ht
    obtain ⟨z, hz, ht⟩ := bindS ht
    obtain ⟨ps, hps, ht⟩ := bindS ht
    obtain ⟨ag, hag, ht⟩ := bindS ht
    split at ht
    · rename_i hc
      obtain ⟨h1, h2, h3, h4⟩ := hc
      split at ht
      · simp only [Option.some.injEq] at ht; subst ht; simp [rd] at hv
      · simp only [Option.some.injEq] at ht; subst ht
        simp only [rd] at hv
        split at hv
        · rename_i cs hf
          simp only [Option.some.injEq] at hv; subst hv
          have hu : P.underlying t = some (.slice el) := by
            unfold elemT at hel
            split at hel
            · rename_i e' hu; simp only [Option.some.injEq] at hel; subst hel; exact hu
            · simp at hel
          obtain ⟨ys, g1, g2, g3⟩ := run_buildSlice h hG hu hn hz hps h1 h2 h3 hf
          have hmap : (parts.map fun (i, x) => (i, a.eval x)) = ((parts.toList.map fun (i, x) => (i, a.eval x)).toArray) := Array.ext' (by rw [Array.toList_map])
          refine ⟨.slice (some ⟨w.heap.size, 0, none⟩) len len, w.alloc (.cells ys el), k.setLim w.heap.size (len * n), ?_, h.alloc' _ _, VR.sr (vec_of_cells (off := 0) (g2.mono (Keeps.alloc _ _)) g3 h4 rfl (fun j x hj => ?_) ?_ (Nat.le_refl _) (fun _ => rfl))⟩
          · simp only [execOp, hop, hmap]
            exact exec_value g1
          · rw [cell_of_heap heap_alloc_new]; simpa using hj
          · simp [Ctx.setLim, upd_same]
        · simp at hv
    · simp at ht
  case h_8 t x hop =>
    obtain ⟨x', hx, ht⟩ := bindS ht
    obtain ⟨n, hn, ht⟩ := bindS ht
    obtain ⟨ag, hag, ht⟩ := bindS ht
    simp only [Option.some.injEq] at ht; subst ht
    exact one (s := Instr.loadAt t (a.eval x)) (by simp only [execOp, hop]) (load_sound h (h.arg hx hG) hn hag hv)
  case h_9 t x y hop =>
    obtain ⟨_, _, ht⟩ := bindS ht
    obtain ⟨x', hx, ht⟩ := bindS ht
    obtain ⟨y', hy, ht⟩ := bindS ht
    obtain ⟨n, hn, ht⟩ := bindS ht
    simp only [Option.some.injEq] at ht; subst ht; simp [rd] at hv
  case h_10 x hop =>
    obtain ⟨x', hx, ht⟩ := bindS ht
    simp only [Option.some.injEq] at ht; subst ht
    have hsr := h.arg hx hG
    simp only [rd] at hv
    split at hv
    · rename_i cs hcs
      rw [hcs] at hsr
      simp only [Option.some.injEq] at hv; subst hv
      cases hX : a.eval x <;> rw [hX] at hsr <;> cases (show VR k w (.iptr cs) _ from hsr)
      exact ⟨_, w, k, by simp only [execOp, hop, hX, Sem.run_pure], h, hsr⟩
    · rename_i id off hcs
      rw [hcs] at hsr
      simp only [Option.some.injEq] at hv; subst hv
      cases hX : a.eval x <;> rw [hX] at hsr <;> cases (show VR k w (.ptr id off) _ from hsr)
      exact ⟨_, w, k, by simp only [execOp, hop, hX, Sem.run_pure], h, hsr⟩
    · rename_i s z off hcs
      rw [hcs] at hsr
      simp only [Option.some.injEq] at hv; subst hv
      have hX := hsr.1
      rw [hX] at hsr
      exact ⟨_, w, k, by simp only [execOp, hop, hX, Sem.run_pure], h, hsr⟩
    · simp at hv
  case h_11 op t x y yt hop =>
    split at ht
    · split at ht
      · split at ht <;> first
          | (simp only [Option.map_eq_some_iff] at ht; obtain ⟨_, _, rfl⟩ := ht; simp [rd] at hv; done)
          | (simp at ht; done)
      · simp at ht
    obtain ⟨ek, hek, ht⟩ := bindS ht
    split at ht
    · simp at ht
    · rename_i hn
      obtain ⟨x', hx, ht⟩ := bindS ht
      obtain ⟨y', hy, ht⟩ := bindS ht
      simp only [Option.some.injEq] at ht; subst ht
      simp only [rd] at hv
      refine one (s := do eqGuard op t x y (a.eval x) (a.eval y); binOp op t (a.eval x) (a.eval y)) (by simp only [execOp, hop]) (bin_sound hek (h.arg hx hG) (h.arg hy hG) (fun hi => ?_) hv)
      by_cases hc : (isCst x || isCst y) = true
      · exact hc
      · exact absurd ⟨hi, hc⟩ hn
  case h_12 op t x hop =>
    obtain ⟨x', hx, ht⟩ := bindS ht
    simp only [Option.some.injEq] at ht; subst ht
    simp only [rd] at hv
    exact one (s := Op.unary op (a.eval x)) (by simp only [execOp, hop]) (un_sound (h.arg hx hG) hv)
  case h_13 s d x hop =>
    split at ht
    · rename_i i j hs' hd'
      obtain ⟨x', hx, ht⟩ := bindS ht
      simp only [Option.some.injEq] at ht; subst ht
      simp only [rd] at hv
      have hsr := h.arg hx hG
      split at hv
      · rename_i i' n hi
        rw [hi] at hsr
        simp only [Option.some.injEq] at hv; subst hv
        have hX := sr_int hsr
        refine one (s := convert s d (a.eval x)) (by simp only [execOp, hop]) ⟨_, ?_, VR.sr (.int _ _)⟩
        simp [convert, run_underlying hs', run_underlying hd', hX, Conv.intToInt]
      · simp at hv
    · rename_i hs' hd'
      obtain ⟨x', hx, ht⟩ := bindS ht
      simp only [Option.some.injEq] at ht; subst ht
      simp only [rd] at hv
      have hsr := h.arg hx hG
      split at hv
      · rename_i s' hi
        rw [hi] at hsr
        simp only [Option.some.injEq] at hv; subst hv
        have hX := sr_str hsr
        refine one (s := convert s d (a.eval x)) (by simp only [execOp, hop]) ⟨_, ?_, VR.sr (.str _)⟩
        simp [convert, run_underlying hs', run_underlying hd', hX]
      · simp at hv
    · simp at ht
  case h_14 t x hop =>
    split at ht
    · simp at ht
    · rename_i dd hni hu
      obtain ⟨x', hx, ht⟩ := bindS ht
      simp only [Option.some.injEq] at ht; subst ht
      simp only [rd] at hv
      split at hv
      · rename_i v' ho
        simp only [Option.some.injEq] at hv; subst hv
        have hsr := (h.arg hx hG).out ho
        refine one (s := Instr.makeInterface t (a.eval x)) (by simp only [execOp, hop]) ⟨.iface t (a.eval x), ?_, VR.sr (.iface t _ _ hsr)⟩
        have hr := run_underlying (w := w) hu
        cases dd <;> first | exact absurd rfl (hni _) | (simp only [Instr.makeInterface, Sem.run_bind, hr, Result.andThen_ok]; rfl)
      · simp at hv
    · simp at ht
  case h_15 fn p q hop =>
    obtain ⟨p', hp, ht⟩ := bindS ht
    obtain ⟨q', hq, ht⟩ := bindS ht
    simp only [Option.some.injEq] at ht; subst ht
    simp only [rd] at hv
    split at hv
    · rename_i pv qv hpv hqv
      simp only [Option.some.injEq] at hv; subst hv
      obtain ⟨p1, p2⟩ := outs_args h hG hp hpv
      obtain ⟨q1, q2⟩ := outs_args h hG hq hqv
      refine one (s := Instr.makeFunc fn (p.map a.eval) (q.map a.eval)) (by simp only [execOp, hop]) ⟨.func fn (p.map a.eval) (q.map a.eval), rfl, VR.sr (.func fn pv qv _ _ (fun j => (p.map a.eval).getD j undef) (fun j => (q.map a.eval).getD j undef) (by simpa using p1) (by simpa using q1) (fun j v hj => ?_) (fun j v hj => ?_) (fun j v hj => ?_) (fun j v hj => ?_))⟩
      all_goals first
        | (obtain ⟨x, hx, hr⟩ := p2 j v hj
           have hx' : (p.map a.eval)[j]? = some x := by simpa using hx
           have hg : (p.map a.eval).getD j undef = x := by rw [Array.getD_eq_getD_getElem?, hx']; rfl
           rw [hg]; first | exact hx' | exact hr)
        | (obtain ⟨x, hx, hr⟩ := q2 j v hj
           have hx' : (q.map a.eval)[j]? = some x := by simpa using hx
           have hg : (q.map a.eval).getD j undef = x := by rw [Array.getD_eq_getD_getElem?, hx']; rfl
           rw [hg]; first | exact hx' | exact hr)
    · simp at hv
  case h_16 t hop => simp only [Option.some.injEq] at ht; subst ht; simp [rd] at hv
  case h_17 t l c hop =>
    obtain ⟨el, hel, ht⟩ := bindS ht
    obtain ⟨n, hn, ht⟩ := bindS ht
    obtain ⟨z, hz, ht⟩ := bindS ht
    obtain ⟨ag, hag, ht⟩ := bindS ht
    split at ht
    · obtain ⟨_, _, ht⟩ := bindS ht
      obtain ⟨_, _, ht⟩ := bindS ht
      obtain ⟨_, _, ht⟩ := bindS ht
      simp only [Option.some.injEq] at ht; subst ht; simp [rd] at hv
    · simp at ht
  case h_18 t x lo hi mx hop =>
    split at ht
    · rename_i el hu
      obtain ⟨x', hx, ht⟩ := bindS ht
      obtain ⟨l', hl, ht⟩ := bindS ht
      obtain ⟨h', hh, ht⟩ := bindS ht
      obtain ⟨m', hm, ht⟩ := bindS ht
      obtain ⟨n, hn, ht⟩ := bindS ht
      simp only [Option.some.injEq] at ht; subst ht
      simp only [rd] at hv
      refine one (s := Instr.sliceAt t (a.eval x) (lo.map a.eval) (hi.map a.eval) (mx.map a.eval)) (by simp only [execOp, hop]) ?_
      have hsr := h.arg hx hG
      have h1 := h.opt hG hl
      have h2 := h.opt hG hh
      have h3 := h.opt hG hm
      cases hX : evA st.ρ x' with
      | vec xs c => rw [hX] at hsr hv; exact slc_vec hsr h1 h2 h3 hu hn hv
      | ref id off len z => rw [hX] at hsr hv; exact slc_ref hsr h1 h2 h3 hu hn hv
      | _ => rw [hX] at hv; simp [slcV] at hv
    · rename_i hu
      obtain ⟨x', hx, ht⟩ := bindS ht
      obtain ⟨l', hl, ht⟩ := bindS ht
      obtain ⟨h', hh, ht⟩ := bindS ht
      obtain ⟨m', hm, ht⟩ := bindS ht
      simp only [Option.some.injEq] at ht; subst ht
      simp only [rd] at hv
      refine one (s := Instr.sliceAt t (a.eval x) (lo.map a.eval) (hi.map a.eval) (mx.map a.eval)) (by simp only [execOp, hop]) ?_
      have hsr := h.arg hx hG
      have h1 := h.opt hG hl
      have h2 := h.opt hG hh
      have h3 := h.opt hG hm
      cases hX : evA st.ρ x' with
      | str s => rw [hX] at hsr hv; exact slc_str hsr h1 h2 h3 hu hv
      | _ => rw [hX] at hv; simp [slcSV] at hv
    · simp at ht
  case h_19 s x f hop =>
    split at ht
    · rename_i fs hu
      obtain ⟨fd, hf, ht⟩ := bindS ht
      obtain ⟨n, hn, ht⟩ := bindS ht
      split at ht
      · simp at ht
      · rename_i h0
        obtain ⟨x', hx, ht⟩ := bindS ht
        simp only [Option.some.injEq] at ht; subst ht
        exact one (s := Instr.fieldAt s (a.eval x) f) (by simp only [execOp, hop]) (fad_sound (h.arg hx hG) hu hf hn h0 hv)
    · simp at ht
  case h_20 t x f hop =>
    split at ht
    · rename_i fs hu
      obtain ⟨fd, hf, ht⟩ := bindS ht
      obtain ⟨x', hx, ht⟩ := bindS ht
      obtain ⟨n, hn, ht⟩ := bindS ht
      obtain ⟨ag, hag, ht⟩ := bindS ht
      simp only [Option.some.injEq] at ht; subst ht
      have hsr := h.arg hx hG
      simp only [rd] at hv
      split at hv
      · rename_i cs hcs
        rw [hcs] at hsr
        obtain ⟨xs, hX, hvr⟩ := sr_agg hsr
        obtain ⟨y, hy, hr⟩ := part_sound (P := P) (β := β) (A := A) (u := st.u) hvr hn hag hv
        refine one (s := Instr.field t (a.eval x) f) (by simp only [execOp, hop]) ⟨y, ?_, hr⟩
        simp [Instr.field, run_underlying hu, hf, hX, asAgg, hy]
      · simp at hv
    · simp at ht
  case h_21 t x i hop =>
    split at ht
    · rename_i el hu
      obtain ⟨n, hn, ht⟩ := bindS ht
      split at ht
      · rename_i h0
        obtain ⟨x', hx, ht⟩ := bindS ht
        obtain ⟨i', hi, ht⟩ := bindS ht
        simp only [Option.some.injEq] at ht; subst ht
        exact one (s := Instr.indexAt t (a.eval x) (a.eval i)) (by simp only [execOp, hop]) (idxS_sound (h.arg hx hG) (h.arg hi hG) hu hn h0 hv)
      · simp at ht
    · rename_i len el hu
      obtain ⟨x', hx, ht⟩ := bindS ht
      obtain ⟨i', hi, ht⟩ := bindS ht
      obtain ⟨n, hn, ht⟩ := bindS ht
      simp only [Option.some.injEq] at ht; subst ht
      have hsi := h.arg hi hG
      simp only [rd] at hv
      split at hv
      · rename_i j n' hj
        rw [hj] at hsi
        split at hv
        · rename_i hc
          exact one (s := Instr.indexAt t (a.eval x) (a.eval i)) (by simp only [execOp, hop]) (idxP_sound (h.arg hx hG) hsi hu hn hc hv)
        · simp at hv
      · simp at hv
    · simp at ht
  case h_22 t x i hop =>
    split at ht
    · rename_i hu
      obtain ⟨x', hx, ht⟩ := bindS ht
      obtain ⟨i', hi, ht⟩ := bindS ht
      simp only [Option.some.injEq] at ht; subst ht
      have hsx := h.arg hx hG
      have hsi := h.arg hi hG
      simp only [rd] at hv
      split at hv
      · rename_i s j n hs' hj
        rw [hs'] at hsx
        rw [hj] at hsi
        split at hv
        · rename_i h0
          split at hv
          · rename_i b hb
            simp only [Option.some.injEq] at hv; subst hv
            have e1 := sr_str hsx
            have e2 := sr_int hsi
            refine one (s := Instr.index t (a.eval x) (a.eval i)) (by simp only [execOp, hop]) ⟨.int .u8 b.toNat, ?_, VR.sr (.int _ _)⟩
            have hb' : s[n.toNat]? = some b := by rw [str_get]; exact hb
            simp [Instr.index, asIntOf, e1, e2, run_underlying hu, h0, hb']
          · simp at hv
        · simp at hv
      · simp at hv
    · rename_i len el hu
      obtain ⟨x', hx, ht⟩ := bindS ht
      obtain ⟨i', hi, ht⟩ := bindS ht
      obtain ⟨n, hn, ht⟩ := bindS ht
      obtain ⟨ag, hag, ht⟩ := bindS ht
      simp only [Option.some.injEq] at ht; subst ht
      have hsx := h.arg hx hG
      have hsi := h.arg hi hG
      simp only [rd] at hv
      split at hv
      · rename_i cs j n' hs' hj
        rw [hs'] at hsx
        rw [hj] at hsi
        split at hv
        · rename_i hc
          obtain ⟨xs, hX, hvr⟩ := sr_agg hsx
          have e2 := sr_int hsi
          obtain ⟨y, hy, hr⟩ := part_sound (P := P) (β := β) (A := A) (u := st.u) hvr hn hag hv
          refine one (s := Instr.index t (a.eval x) (a.eval i)) (by simp only [execOp, hop]) ⟨y, ?_, hr⟩
          simp [Instr.index, asIntOf, hX, e2, run_underlying hu, hc, run_sizeOf hn, hy]
        · simp at hv
      · simp at hv
    · simp at ht
  case h_23 t x i ok hop =>
    split at ht
    · rename_i kt el hu
      obtain ⟨q, hq, ht⟩ := bindS ht
      obtain ⟨x', hx, ht⟩ := bindS ht
      obtain ⟨i', hi, ht⟩ := bindS ht
      obtain ⟨z, hz, ht⟩ := bindS ht
      simp only [Option.some.injEq] at ht; subst ht
      exact one (s := Instr.lookup t (a.eval x) (a.eval i) ok) (by simp only [execOp, hop]) (lkp_sound h (h.arg hx hG) (h.arg hi hG) hu hq hz hv)
    · simp at ht
  case h_24 t m i x hop | h_25 t m i x hop =>
    split at ht
    · obtain ⟨q, hq, ht⟩ := bindS ht
      obtain ⟨_, _, ht⟩ := bindS ht
      obtain ⟨_, _, ht⟩ := bindS ht
      obtain ⟨_, _, ht⟩ := bindS ht
      simp only [Option.some.injEq] at ht; subst ht; simp [rd] at hv
    · simp at ht
  case h_26 t x hop =>
    split at ht
    · obtain ⟨_, _, ht⟩ := bindS ht
      simp only [Option.some.injEq] at ht; subst ht; simp [rd] at hv
    · simp at ht
  case h_27 x hop | h_28 x hop =>
    obtain ⟨_, _, ht⟩ := bindS ht
    simp only [Option.some.injEq] at ht; subst ht; simp [rd] at hv
  case h_29 x xt t hop =>
    split at ht
    · simp at ht
    · rename_i dd hni hu
      obtain ⟨x', hx, ht⟩ := bindS ht
      simp only [Option.some.injEq] at ht; subst ht
      have hsr := h.arg hx hG
      simp only [rd] at hv
      split at hv
      · rename_i t' v' hi
        rw [hi] at hsr
        split at hv
        · rename_i htt
          subst htt
          simp only [Option.some.injEq] at hv; subst hv
          have hvr : VR k w (.iface t' v') (a.eval x) := hsr
          cases hX : a.eval x <;> rw [hX] at hvr <;> cases hvr
          rename_i y hy
          refine one (s := Instr.typeAssert (a.eval x) xt t' false) (by simp only [execOp, hop]) ⟨y, ?_, VR.sr hy⟩
          rw [hX]
          have hr := run_underlying (w := w) hu
          cases dd <;> first | exact absurd rfl (hni _) | (simp only [Instr.typeAssert, Sem.run_bind, hr, Result.andThen_ok, if_true]; rfl)
        · simp at hv
      · simp at hv
    · simp at ht
  case h_30 x i hop =>
    obtain ⟨x', hx, ht⟩ := bindS ht
    simp only [Option.some.injEq] at ht; subst ht
    have hsr := h.arg hx hG
    simp only [rd] at hv
    split at hv
    · rename_i vs hi
      rw [hi] at hsr
      obtain ⟨xs, hX, hsz, hall⟩ := hsr
      obtain ⟨y, hy, hr⟩ := hall i v hv
      refine one (s := Instr.extract (a.eval x) i) (by simp only [execOp, hop]) ⟨y, by simp [Instr.extract, hX, hy], ?_⟩
      by_cases hvt : ∀ vs, v ≠ .tuple vs
      · rw [SR.eq1 hvt]; exact hr
      · cases v with
        | tuple vs' => cases (show VR k w (.tuple vs') y from hr)
        | _ => exact absurd (fun vs => by simp) hvt
    · simp at hv
  case h_31 c hop => exact rd_call h hG hop ht hv
  case h_32 x hop =>
    obtain ⟨_, _, ht⟩ := bindS ht
    simp only [Option.some.injEq] at ht; subst ht; simp [rd] at hv
  case h_33 => simp at ht

end
end Go.Ab
