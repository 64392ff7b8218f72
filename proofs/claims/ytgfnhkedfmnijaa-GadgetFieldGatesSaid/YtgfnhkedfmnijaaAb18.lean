/- One operation of the layer Ab, whichever it is, and a list of them. -/
import Derived.Test.YtgfnhkedfmnijaaAb17
set_option linter.unusedVariables false
set_option linter.unusedSimpArgs false
namespace Go.Ab

section
variable {G : List (Nat × List V)} {N : Nat} {e : Entry} {k : Ctx} {β : Nat → Nat} {A : Nat → Prop} {st : S} {a : Act} {w : World} {P : Program} {u : List Nat} {hs : Hints} {o : Oper} {K : Ex → S → Prop}

theorem elemT_u {t el : TypeId} (h : elemT P t = some el) : P.underlying t = some (.slice el) := by
  unfold elemT at h
  split at h
  · rename_i e' hu; simp only [Option.some.injEq] at h; subst h; exact hu
  · simp at h

theorem eff_app (h : FW G N e k β A st a w) (hG : ∀ g cells, (g, cells) ∈ hs.glob → (g, cells) ∈ G) {t0 t1 el : TypeId} {xo yo : Operand} {x y : Arg} {ctypes : Array TypeId} {n bytes : Nat} {ag ob : Bool} {z : List V}
    (hop : o.op = .call { callee := .builtin .append, args := #[xo, yo], argTypes := ctypes }) (c0 : ctypes[0]? = some t0) (c1 : ctypes[1]? = some t1) (hx : trArg hs xo = some x) (hy : trArg hs yo = some y)
    (hu : P.underlying t0 = some (.slice el)) (hu1 : P.underlying t1 = some (.slice el)) (hn : sizeT P el = some n) (hb : bytesT P el = some bytes) (hz : zeroT P el = some z) (hzl : z.length = n) (ho : oneT n ag = true)
    (hd : ∀ t, o.dst = some t → t < N) {call : CallT} (he : eff call st.n st o.dst (.app x y n bytes ag ob) K) : EffOK P G N e o a w K := by
  have hrun0 : ∀ {R w'}, (Builtin.append_ ctypes o.type #[a.eval xo, a.eval yo]).run P w = .ok R w' → (execOp a.eval o).run P w = .ok (.value R) w' := by
    intro R w' hr
    have : execOp a.eval o = (do pure (Next.value (← Builtin.append_ ctypes o.type #[a.eval xo, a.eval yo]))) := by
      simp only [execOp, hop, resolve, invoke, builtin, List.map_toArray, List.map_cons, List.map_nil, pure_bind]
    rw [this]
    exact exec_value hr
  simp only [eff] at he
  split at he
  · rename_i v st' hap
    have hsx := h.arg hx hG
    have hsy := h.arg hy hG
    unfold appV at hap
    split at hap
    · rename_i kk cs hl hf
      split at hap
      · rename_i hc
        obtain ⟨hlen, h0, hbt⟩ := hc
        split at hap
        · -- elements
          split at hap
          · rename_i xs c hxs
            rw [hxs] at hsx
            split at hap
            · rename_i hc2
              obtain ⟨hmo, hall⟩ := hc2
              have hmo' : xs.length + kk ≤ 4294967296 := hmo
              split at hap
              · rename_i hk0
                subst hk0
                simp only [Option.some.injEq, Prod.mk.injEq] at hap
                obtain ⟨rfl, rfl⟩ := hap
                obtain ⟨yb, yc, rfl', new, hnew, hnrun⟩ := flat_sound (P := P) h hsy hl hf hlen h0
                have hvx := hsx.vec
                obtain ⟨base, cap, hX, hcle, hfull, old, hold, hocell, honil⟩ := vec_flat hvx hall
                have happ := (run_append (P := P) (w := w) (ty := o.type) (len := xs.length) (cap := cap) (base := base) (old := old) (z := []) c0 c1 hu hu1 hn hb hz hzl ⟨yb, yc, rfl'⟩ hnrun).1 (by omega)
                have hnil : new = [] := by
                  have := hnew.1
                  rw [hlen] at this
                  simpa using this
                subst hnil
                have hst0 : ∀ ad : Addr, (storeCells ad [] : Sem Unit).run P w = .ok () w := fun ad => by simp [storeCells]
                refine eff_value (x := .slice base xs.length cap) (w' := w) (hrun0 ?_) he ?_
                · rw [hX, happ]
                  cases base <;> simp [hst0]
                · rw [put_tick]
                  rw [hxs]
                  refine (h.tick.put hd ?_).inv
                  rw [← hX]; exact hsx
              · rename_i hk0
                split at hap
                · simp only [Option.some.injEq, Prod.mk.injEq] at hap
                  obtain ⟨rfl, rfl⟩ := hap
                  obtain ⟨w', R, r1, r2⟩ := app_vec (P := P) (o := o) (ty := o.type) h hsx hsy hl hf hlen h0 ho hbt hmo' hall hk0 c0 c1 hu hu1 hn hb hz hzl hd (.inl rfl)
                  exact eff_value (hrun0 r1) he r2
                · rename_i s'
                  split at hap
                  · simp at hap
                  · rename_i hsu
                    simp only [Option.some.injEq, Prod.mk.injEq] at hap
                    obtain ⟨rfl, rfl⟩ := hap
                    obtain ⟨w', R, r1, r2⟩ := app_vec (P := P) (o := o) (ty := o.type) h hsx hsy hl hf hlen h0 ho hbt hmo' hall hk0 c0 c1 hu hu1 hn hb hz hzl hd (.inr ⟨s', rfl, hsu⟩)
                    exact eff_value (hrun0 r1) he r2
                · simp at hap
            · simp at hap
          · simp at hap
        · -- an object
          split at hap
          · rename_i hxs
            rw [hxs] at hsx
            split at hap
            · rename_i hc2
              simp only [Option.some.injEq, Prod.mk.injEq] at hap
              obtain ⟨rfl, rfl⟩ := hap
              have hm : kk ≤ 4294967296 := hc2.1
              obtain ⟨w', R, r1, r2⟩ := app_obj (P := P) (o := o) (ty := o.type) (len := 0) (oldv := []) h hsx hsy hl hf hlen h0 hbt (by omega) hc2.2 c0 c1 hu hu1 hn hb hz hzl hd (.inl ⟨rfl, rfl, rfl, rfl⟩)
              rw [Nat.zero_add] at r2
              exact eff_value (hrun0 r1) he r2
            · simp at hap
          · rename_i id len zz hxs
            rw [hxs] at hsx
            split at hap
            · rename_i old hg
              split at hap
              · rename_i hc2
                obtain ⟨g1, g2, g3, g4⟩ := hc2
                subst g2
                simp only [Option.some.injEq, Prod.mk.injEq] at hap
                obtain ⟨rfl, rfl⟩ := hap
                have hm : len + kk ≤ 4294967296 := g3
                obtain ⟨w', R, r1, r2⟩ := app_obj (P := P) (o := o) (ty := o.type) (len := len) (oldv := old) h hsx hsy hl hf hlen h0 hbt hm g4 c0 c1 hu hu1 hn hb hz hzl hd (.inr ⟨id, rfl, hg, g1, rfl⟩)
                exact eff_value (hrun0 r1) he r2
              · simp at hap
            · simp at hap
          · simp at hap
      · simp at hap
    · simp at hap
  · exact he.elim

theorem eff_nilS (h : FW G N e k β A st a w) (hG : ∀ g cells, (g, cells) ∈ hs.glob → (g, cells) ∈ G) {op : BinOp} {t yt : TypeId} {x y : Operand} {x' : Arg} {neg : Bool} (hop : o.op = .binOp op t x y yt) (hx : trArg hs x = some x')
    (hsl : isSliceT P t = true) (hnil : isNilS y = true) (hneg : (op = .eql ∧ neg = false) ∨ (op = .neq ∧ neg = true)) (hd : ∀ t, o.dst = some t → t < N) {call : CallT} (he : eff call st.n st o.dst (.nilS x' neg) K) : EffOK P G N e o a w K := by
  have hu : ∃ el, P.underlying t = some (.slice el) := by
    unfold isSliceT at hsl
    split at hsl
    · rename_i el hu; exact ⟨el, hu⟩
    · simp at hsl
  obtain ⟨el, hu⟩ := hu
  have hy : a.eval y = .slice none 0 0 := by
    unfold isNilS at hnil
    split at hnil
    · rfl
    · simp at hnil
  have hrun : ∀ (b : Option Addr) (l c : Nat), a.eval x = .slice b l c → (execOp a.eval o).run P w = .ok (.value (.bool (if b.isNone then !neg else neg))) w := by
    intro b l c hb
    have e1 : (underlying t).run P w = .ok (.slice el) w := run_underlying hu
    have : execOp a.eval o = (do pure (Next.value (← (do eqGuard op t x y (a.eval x) (a.eval y); Go.binOp op t (a.eval x) (a.eval y) : Sem Value)))) := by simp only [execOp, hop]
    rw [this]
    refine exec_value ?_
    rw [hb, hy]
    have e2 : (Op.equalIn (9999 + 1) t (.slice b l c) (.slice none 0 0)).run P w = .ok b.isNone w := by
      rw [Op.equalIn]
      simp only [Sem.run_bind, e1, Result.andThen_ok]
      cases b <;> rfl
    have hg : (eqGuard op t x y (.slice b l c) (.slice none 0 0)).run P w = .ok () w := by
      rcases hneg with ⟨rfl, _⟩ | ⟨rfl, _⟩ <;> simp [eqGuard]
    rw [Sem.run_bind, hg]
    simp only [Result.andThen_ok]
    rcases hneg with ⟨rfl, rfl⟩ | ⟨rfl, rfl⟩
    · simp only [Go.binOp, Op.equal, Op.maxDepth, Sem.run_bind, Sem.run_map, Sem.run_pure, e2, Result.andThen_ok]
      cases b <;> rfl
    · simp only [Go.binOp, Op.equal, Op.maxDepth, Sem.run_bind, Sem.run_map, Sem.run_pure, e2, Result.andThen_ok]
      cases b <;> rfl
  have hput : ∀ b : Bool, Inv G N e (st.put o.dst (.bool b)).tick (a.put o.dst (.bool b)) w := fun b => by
    rw [put_tick]
    exact (h.tick.put hd (VR.sr (.bool b))).inv
  have hsx := h.arg hx hG
  simp only [eff] at he
  split at he
  · rename_i xs c hxs
    rw [hxs] at hsx
    generalize hX : a.eval x = X at hsx hrun
    cases hsx.vec with
    | vecNil _ _ => exact eff_value (hrun _ _ _ rfl) (he.1 rfl) (by simpa using hput _)
    | vec _ _ ad _ cap sz val _ _ _ _ _ _ _ => exact eff_value (hrun _ _ _ rfl) he.2 (by simpa using hput _)
  · rename_i id off len sz hxs
    rw [hxs] at hsx
    generalize hX : a.eval x = X at hsx hrun
    cases (show VR k w _ _ from hsx) with
    | ref _ _ _ _ cap b hb hid hl hc => exact eff_value (hrun _ _ _ rfl) he (by simpa using hput _)
  · exact he.elim

theorem eff_store (h : FW G N e k β A st a w) (hG : ∀ g cells, (g, cells) ∈ hs.glob → (g, cells) ∈ G) {t : TypeId} {xo yo : Operand} {x y : Arg} {n : Nat} (hop : o.op = .store t xo yo) (hx : trArg hs xo = some x) (hy : trArg hs yo = some y)
    (hn : sizeT P t = some n) (hd : ∀ t, o.dst = some t → t < N) {call : CallT} (he : eff call st.n st o.dst (.store x y n) K) : EffOK P G N e o a w K := by
  simp only [eff] at he
  split at he
  · rename_i st' hs'
    obtain ⟨w', r1, r2⟩ := storeV_sound (P := P) h (h.arg hx hG) (h.arg hy hG) hn hs'
    refine eff_skip (w' := w') ?_ he ?_
    · simp only [execOp, hop, Sem.run_bind, r1, Result.andThen_ok, Sem.run_pure]
    · rw [put_tick]; exact (r2.tick.putU hd).inv
  · exact he.elim

theorem two_of {l : Array Operand} {x y : Arg} (h : trArgs hs l.toList = some [x, y]) : ∃ p q, l = #[p, q] ∧ trArg hs p = some x ∧ trArg hs q = some y := by
  obtain ⟨p, q, h1, h2, h3⟩ := trArgs_two h
  have : l = l.toList.toArray := by simp
  rw [h1] at this
  exact ⟨p, q, this, h2, h3⟩

theorem eff_sound (h : FW G N e k β A st a w) (hG : ∀ g cells, (g, cells) ∈ hs.glob → (g, cells) ∈ G) {call : CallT} (hc : CallOK P G call) {kk : Go.Ab.K} (ht : trK P hs o = some kk) (hnr : isRd kk = false) (hd : ∀ t, o.dst = some t → t < N)
    (he : eff call st.n st o.dst kk K) : EffOK P G N e o a w K := by
  unfold trK at ht
  split at ht
  case h_4 t hop =>
    obtain ⟨z, hz, ht⟩ := bindS ht
    repeat' split at ht
    all_goals (simp only [Option.some.injEq] at ht; subst ht)
    · exact eff_allocz h hop hz hd he
    · simp [isRd] at hnr
    · exact eff_allocz h hop hz hd he
    · simp [isRd] at hnr
    · exact eff_allocz h hop hz hd he
  case h_5 t x hop =>
    obtain ⟨x', hx, ht⟩ := bindS ht
    simp only [Option.some.injEq] at ht; subst ht
    exact eff_box h hG hop hx hd he
  case h_7 t len parts hop =>
    obtain ⟨el, hel, ht⟩ := bindS ht
    obtain ⟨n, hn, ht⟩ := bindS ht
    obtain ⟨z, hz, ht⟩ := bindS ht
    obtain ⟨ps, hps, ht⟩ := bindS ht
    obtain ⟨ag, hag, ht⟩ := bindS ht
    split at ht
    · rename_i hcc
      obtain ⟨h1, h2, h3, h4⟩ := hcc
      split at ht
      · simp only [Option.some.injEq] at ht; subst ht
        exact eff_bslO h hG hop (elemT_u hel) hn hz hps h1 h2 h3 hd he
      · simp only [Option.some.injEq] at ht; subst ht; simp [isRd] at hnr
    · simp at ht
  case h_9 t x y hop =>
    obtain ⟨_, _, ht⟩ := bindS ht
    obtain ⟨x', hx, ht⟩ := bindS ht
    obtain ⟨y', hy, ht⟩ := bindS ht
    obtain ⟨n, hn, ht⟩ := bindS ht
    simp only [Option.some.injEq] at ht; subst ht
    exact eff_store h hG hop hx hy hn hd he
  case h_16 t hop =>
    simp only [Option.some.injEq] at ht; subst ht
    exact eff_mkM h hop hd he
  case h_17 t l c hop =>
    obtain ⟨el, hel, ht⟩ := bindS ht
    obtain ⟨n, hn, ht⟩ := bindS ht
    obtain ⟨z, hz, ht⟩ := bindS ht
    obtain ⟨ag, hag, ht⟩ := bindS ht
    split at ht
    · rename_i hcc
      obtain ⟨h1, h2, h3⟩ := hcc
      obtain ⟨l', hl, ht⟩ := bindS ht
      obtain ⟨c', hcc, ht⟩ := bindS ht
      obtain ⟨bt, hb, ht⟩ := bindS ht
      simp only [Option.some.injEq] at ht; subst ht
      exact eff_mks h hG hop hl hcc (elemT_u hel) hn hb hz h1 h2 h3 hd he
    · simp at ht
  case h_24 t m i x hop =>
    split at ht
    · rename_i kt el hu
      obtain ⟨q, hq, ht⟩ := bindS ht
      obtain ⟨m', hm, ht⟩ := bindS ht
      obtain ⟨i', hi, ht⟩ := bindS ht
      obtain ⟨x', hx, ht⟩ := bindS ht
      simp only [Option.some.injEq] at ht; subst ht
      exact eff_mup h hG (.inl hop) hm hi hx hu hq hd he
    · simp at ht
  case h_25 t m i x hop =>
    split at ht
    · rename_i kt el hu
      obtain ⟨q, hq, ht⟩ := bindS ht
      obtain ⟨m', hm, ht⟩ := bindS ht
      obtain ⟨i', hi, ht⟩ := bindS ht
      obtain ⟨x', hx, ht⟩ := bindS ht
      simp only [Option.some.injEq] at ht; subst ht
      exact eff_mup h hG (.inr hop) hm hi hx hu hq hd he
    · simp at ht
  case h_26 t x hop =>
    split at ht
    · rename_i kt el hu
      obtain ⟨x', hx, ht⟩ := bindS ht
      simp only [Option.some.injEq] at ht; subst ht
      exact eff_rng h hG hop hx hu hd he
    · simp at ht
  case h_27 x hop =>
    obtain ⟨x', hx, ht⟩ := bindS ht
    simp only [Option.some.injEq] at ht; subst ht
    exact eff_nxt h hG hop hx hd he
  case h_28 x hop =>
    obtain ⟨x', hx, ht⟩ := bindS ht
    simp only [Option.some.injEq] at ht; subst ht
    exact eff_ent h hG hop hx hd he
  case h_32 x hop =>
    obtain ⟨x', hx, ht⟩ := bindS ht
    simp only [Option.some.injEq] at ht; subst ht
    exact eff_pan h hG hop hx he
  case h_11 op t x y yt hop =>
    split at ht
    · rename_i hsl
      split at ht
      · rename_i hnil
        split at ht
        · simp only [Option.map_eq_some_iff] at ht
          obtain ⟨x', hx, rfl⟩ := ht
          exact eff_nilS h hG hop hx hsl hnil (.inl ⟨rfl, rfl⟩) hd he
        · simp only [Option.map_eq_some_iff] at ht
          obtain ⟨x', hx, rfl⟩ := ht
          exact eff_nilS h hG hop hx hsl hnil (.inr ⟨rfl, rfl⟩) hd he
        · simp at ht
      · simp at ht
    · obtain ⟨ek, hek, ht⟩ := bindS ht
      split at ht
      · simp at ht
      · obtain ⟨x', hx, ht⟩ := bindS ht
        obtain ⟨y', hy, ht⟩ := bindS ht
        simp only [Option.some.injEq] at ht; subst ht; simp [isRd] at hnr
  case h_31 c hop =>
    unfold trCall at ht
    obtain ⟨args, hargs, ht⟩ := bindS ht
    obtain ⟨callee, cargs, ctypes⟩ := c
    simp only at ht hargs
    split at ht
    · obtain ⟨fn, hfn, ht⟩ := bindS ht
      split at ht
      · simp only [Option.some.injEq] at ht; subst ht
        exact eff_call h hG hc hop hargs hd he
      · split at ht
        · split at ht
          · simp only [Option.some.injEq] at ht; subst ht; simp [isRd] at hnr
          · simp at ht
        · simp at ht
    · obtain ⟨x', hx, ht⟩ := bindS ht
      simp only [Option.some.injEq] at ht; subst ht
      exact eff_callv h hG hc hop hx hargs hd he
    · simp at ht
    · split at ht
      · obtain ⟨t0, ht0, ht⟩ := bindS ht
        split at ht <;> simp only [Option.some.injEq, reduceCtorEq] at ht <;> subst ht <;> simp [isRd] at hnr
      · simp only [Option.some.injEq] at ht; subst ht; simp [isRd] at hnr
      · simp only [Option.some.injEq] at ht; subst ht; simp [isRd] at hnr
      · obtain ⟨t0, ht0, ht⟩ := bindS ht
        obtain ⟨t1, ht1, ht⟩ := bindS ht
        obtain ⟨el, hel, ht⟩ := bindS ht
        obtain ⟨n, hn, ht⟩ := bindS ht
        obtain ⟨ag, hag, ht⟩ := bindS ht
        obtain ⟨z, hz, ht⟩ := bindS ht
        obtain ⟨e', he', ht⟩ := bindS ht
        split at ht
        · rename_i hcc
          obtain ⟨h1, h2, h3⟩ := hcc
          obtain ⟨bt, hbt, ht⟩ := bindS ht
          simp only [Option.some.injEq] at ht; subst ht
          obtain ⟨p, q, rfl, hp, hq⟩ := two_of hargs
          subst h3
          exact eff_app h hG hop ht0 ht1 hp hq (elemT_u hel) (elemT_u he') hn hbt hz h2 h1 hd he
        · simp at ht
      · obtain ⟨t0, ht0, ht⟩ := bindS ht
        split at ht
        · rename_i kt el hu
          obtain ⟨q, hq, ht⟩ := bindS ht
          simp only [Option.some.injEq] at ht; subst ht
          obtain ⟨p, r, rfl, hp, hr⟩ := two_of hargs
          exact eff_mdel h hG hop ht0 hp hr hu hq hd he
        · simp at ht
      · simp at ht
  all_goals (exfalso)
  all_goals (repeat (first | (simp at ht; done) | (obtain ⟨_, _, ht⟩ := bindS ht)))
  all_goals (try (repeat' split at ht))
  all_goals (repeat (first | (simp at ht; done) | (obtain ⟨_, _, ht⟩ := bindS ht)))
  all_goals (try (repeat' split at ht))
  all_goals (repeat (first | (simp at ht; done) | (obtain ⟨_, _, ht⟩ := bindS ht)))
  all_goals (simp only [Option.some.injEq] at ht; subst ht; simp [isRd] at hnr)

/-- One operation that is carried out. -/
theorem op1_sound (h : FW G N e k β A st a w) (hG : ∀ g cells, (g, cells) ∈ hs.glob → (g, cells) ∈ G) {call : CallT} (hc : CallOK P G call) {io : IOp} (ht : trK P hs o = some io.k) (hdst : io.dst = o.dst) (hd : ∀ t, o.dst = some t → t < N)
    (he : op1 call st.n io st K) : EffOK P G N e o a w K := by
  unfold op1 at he
  rw [hdst] at he
  split at he
  · -- bare
    rename_i size hk
    rw [hk] at ht
    unfold trK at ht
    split at ht
    case h_4 t hop =>
      obtain ⟨z, hz, ht⟩ := bindS ht
      repeat' split at ht
      all_goals first
        | (simp at ht; done)
        | (injection ht with ht; injection ht with ht; subst ht; exact eff_bare h hop hz hd he)
    case h_31 c hop =>
      unfold trCall at ht
      obtain ⟨args, hargs, ht⟩ := bindS ht
      obtain ⟨callee, cargs, ctypes⟩ := c
      simp only at ht hargs
      repeat' split at ht
      all_goals (try (simp at ht; done))
      all_goals (try (obtain ⟨_, _, ht⟩ := bindS ht))
      all_goals (try (repeat' split at ht))
      all_goals (try (simp at ht; done))
      all_goals (repeat (first | (simp at ht; done) | (obtain ⟨_, _, ht⟩ := bindS ht)))
      all_goals (try (repeat' split at ht))
      all_goals (try (simp at ht; done))
      all_goals (repeat (first | (simp at ht; done) | (obtain ⟨_, _, ht⟩ := bindS ht)))
    all_goals (repeat (first | (simp at ht; done) | (obtain ⟨_, _, ht⟩ := bindS ht)))
    all_goals (try (repeat' split at ht))
    all_goals (repeat (first | (simp at ht; done) | (obtain ⟨_, _, ht⟩ := bindS ht)))
    all_goals (try (repeat' split at ht))
    all_goals (repeat (first | (simp at ht; done) | (obtain ⟨_, _, ht⟩ := bindS ht)))
  · rename_i kk hnb
    split at he
    · -- a reading
      split at he
      · rename_i v hv
        obtain ⟨x, w', k', r1, r2, r3⟩ := rd_sound h hG ht hv
        refine eff_value r1 he ?_
        rw [put_tick]
        exact (r2.tick.put hd r3).inv
      · exact he.elim
    · rename_i hnr
      exact eff_sound h hG hc ht (by simpa using hnr) hd he

end
end Go.Ab
