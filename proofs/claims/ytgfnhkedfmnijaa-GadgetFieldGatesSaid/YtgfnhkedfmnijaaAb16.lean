/- What the operations of the layer Ab that change the store do is what the model's operations do (6): maps and iterators over them. -/
import Derived.Test.YtgfnhkedfmnijaaAb15
set_option linter.unusedVariables false
set_option linter.unusedSimpArgs false
namespace Go.Ab

section
variable {G : List (Nat × List V)} {N : Nat} {e : Entry} {k : Ctx} {β : Nat → Nat} {A : Nat → Prop} {st : S} {a : Act} {w : World} {P : Program} {u : List Nat} {hs : Hints} {o : Oper} {K : Ex → S → Prop}

theorem run_setObj {r : Nat} {ob ob' : Obj} (h : w.heap[r]? = some ob) (hn : ∀ c e f, ob ≠ .cells c e f) :
    ∃ w', (setObj r ob').run P w = .ok () w' ∧ Change w w' r ∧ w'.heap[r]? = some ob' := by
  have hlt : r < w.heap.size := (Array.getElem?_eq_some_iff.1 h).1
  refine ⟨{ w with heap := w.heap.setIfInBounds r ob' }, ?_, ⟨by simp, fun b' hb => by simp [Ne.symm hb], rfl, rfl, rfl⟩, by simp [hlt]⟩
  cases ob <;> first | exact absurd rfl (hn _ _ _) | simp [setObj, Sem.run, h]

theorem findE_key {q : KK} {key : V} : ∀ {es : List (V × V)} {i j : Nat} {v : V}, findE q key es i = some (some (j, v)) → i ≤ j ∧ ∃ a, es[j - i]? = some (a, v) ∧ eqC q key a = some true
  | [], i, j, v, h => by simp [findE] at h
  | (a, v0) :: es, i, j, v, h => by
    simp only [findE] at h
    split at h
    · rename_i hb
      simp only [Option.some.injEq, Prod.mk.injEq] at h
      obtain ⟨rfl, rfl⟩ := h
      exact ⟨Nat.le_refl _, a, by simp, hb⟩
    · obtain ⟨h1, a', h2, h3⟩ := findE_key h
      have : j - i = (j - (i + 1)) + 1 := by omega
      exact ⟨by omega, a', by rw [this]; simpa using h2, h3⟩
    · simp at h

theorem sameBits_of {q : KK} {key a : V} {X Y : Value} (h : VR k w key X) (h' : VR k w a Y) (hb : eqC q key a = some true) (n : Nat) : Instr.sameBits n Y X = true := by
  cases q <;> cases h <;> cases h' <;> simp [eqC] at hb
  · obtain ⟨h1, h2⟩ := hb
    subst h1; subst h2
    cases n <;> simp [Instr.sameBits]
  · have hc : ∀ (a b : ByteArray), (a == b) = true → (b == a) = true := by
      intro a b hab
      rw [beq_toListBytes] at hab ⊢
      simp only [beq_iff_eq] at hab ⊢
      exact hab.symm
    cases n <;> simp only [Instr.sameBits] <;> exact hc _ _ hb
  · subst hb
    cases n <;> simp [Instr.sameBits]

theorem key_plain {q : KK} {key : V} {X : Value} (hk : SR k w β A u key X) (hb : ∃ a b, eqC q key a = some b) : VR k w key X := by
  obtain ⟨a, b, hb⟩ := hb
  cases key <;> cases q <;> simp [eqC] at hb <;> exact hk

theorem underT {kt : TypeId} {q : KK} (hq : kindT P kt = some q) : ∃ d, P.underlying kt = some d := by
  unfold kindT at hq
  cases hu : P.underlying kt with
  | none => simp [hu] at hq
  | some d => exact ⟨d, rfl⟩

/-- A key's search in the model, with what it finds. -/
theorem find_run {q : KK} {kt : TypeId} (hq : kindT P kt = some q) {key : V} {X : Value} (hk : SR k w β A u key X) {es : List (V × V)} {en : Array MapEntry} {r : Option (Nat × V)} (h2 : en.size = es.length)
    (h3 : ∀ (j : Nat) (a v : V), es[j]? = some (a, v) → ∃ e, en[j]? = some e ∧ VR k w a e.key ∧ VR k w v e.val) (hf : findE q key es 0 = some r) :
    (r = none ∧ (Instr.findKey kt X en.toList).run P w = .ok none w) ∨ (∃ j v x, r = some (j, v) ∧ (Instr.findKey kt X en.toList).run P w = .ok (some (j, x)) w ∧ j < es.length ∧ VR k w key X ∧ VR k w v x ∧
      ∃ a e0, es[j]? = some (a, v) ∧ en[j]? = some e0 ∧ Instr.sameBits 10000 e0.key X = true) := by
  obtain ⟨dd, hdd⟩ := underT hq
  cases es with
  | nil =>
    simp [findE] at hf; subst hf
    have : en = #[] := by simpa using h2
    subst this
    refine .inl ⟨rfl, ?_⟩
    unfold Instr.findKey
    simp only [Sem.run_bind, run_underlying hdd, Result.andThen_ok]
    rfl
  | cons p es =>
    have hkp : VR k w key X := by
      refine key_plain (q := q) hk ⟨p.1, ?_⟩
      obtain ⟨a', v'⟩ := p
      simp only [findE] at hf
      cases hh : eqC q key a' with
      | none => simp [hh] at hf
      | some b => exact ⟨b, rfl⟩
    obtain ⟨r', g1, g2⟩ := find_sound hdd hq hkp (en := en.toList) (by simpa using h2) (fun j a v hj => by simpa using h3 j a v hj) hf
    cases r with
    | none =>
      cases r' with
      | some _ => exact g2.elim
      | none => exact .inl ⟨rfl, run_findKey hdd g1⟩
    | some jv =>
      obtain ⟨j, v⟩ := jv
      cases r' with
      | none => exact g2.elim
      | some jx =>
        obtain ⟨j', x⟩ := jx
        obtain ⟨p1, _, p3, p4, _, _⟩ := g2
        subst p1
        obtain ⟨_, a, q1, q2⟩ := findE_key hf
        simp only [Nat.sub_zero] at q1
        obtain ⟨e0, q3, q4, _⟩ := h3 j' a v q1
        exact .inr ⟨j', v, x, rfl, run_findKey hdd g1, by simpa using p3, hkp, p4, a, e0, q1, q3, sameBits_of hkp q4 q2 _⟩

theorem eff_mup (h : FW G N e k β A st a w) (hG : ∀ g cells, (g, cells) ∈ hs.glob → (g, cells) ∈ G) {t kt el : TypeId} {mo ko vo : Operand} {m key v : Arg} {q : KK} (hop : o.op = .mapUpdate t mo ko vo ∨ o.op = .insert t mo ko vo)
    (hm : trArg hs mo = some m) (hk : trArg hs ko = some key) (hv : trArg hs vo = some v) (ht : P.underlying t = some (.map kt el)) (hq : kindT P kt = some q) (hd : ∀ t, o.dst = some t → t < N) {call : CallT}
    (he : eff call st.n st o.dst (.mup q m key v) K) : EffOK P G N e o a w K := by
  have hrun0 : ∀ {w'}, (Instr.mapUpdate t (a.eval mo) (a.eval ko) (a.eval vo)).run P w = .ok () w' → (execOp a.eval o).run P w = .ok .skip w' := by
    intro w' hr
    rcases hop with hop | hop <;> simp only [execOp, hop, Sem.run_bind, hr, Result.andThen_ok, Sem.run_pure]
  simp only [eff] at he
  split at he
  · rename_i v0 key0 hv0 hk0
    have hvr := (h.arg hv hG).out hv0
    have hkp := (h.arg hk hG).out hk0
    have hsk : SR k w β A st.u key0 (a.eval ko) := hkp.sr
    have hsm := h.arg hm hG
    split at he
    · rename_i h' hmu
      unfold mupV at hmu
      split at hmu
      · rename_i id hmid
        rw [hmid] at hsm
        cases hX : a.eval mo <;> rw [hX] at hsm <;> cases (show VR k w (.map id) _ from hsm)
        rename_i b hb hid
        subst hb
        split at hmu
        · rename_i es ver hg
          obtain ⟨en, clock, g1, g2, g3, g4, g5⟩ := h.map hg
          have hlive := H.mapAt_some hg
          have hnc : ∀ c e f, Obj.map en clock ≠ .cells c e f := by intro c e f hh; cases hh
          split at hmu
          · rename_i i vold hf
            simp only [Option.some.injEq] at hmu; subst hmu
            rcases find_run (P := P) hq hsk g2 g3 hf with ⟨hr, _⟩ | ⟨j, v1, x1, hr, hfk, hjl, _, _, a0, e0, q1, q2, q3⟩
            · simp at hr
            · simp only [Option.some.injEq, Prod.mk.injEq] at hr
              obtain ⟨rfl, rfl⟩ := hr
              obtain ⟨w', r1, r2, r3⟩ := run_setObj (P := P) (ob' := .map (en.modify i fun e => { e with key := a.eval ko, val := a.eval vo }) clock) g1 hnc
              have hrun : (Instr.mapUpdate t (a.eval mo) (a.eval ko) (a.eval vo)).run P w = .ok () w' := by
                rw [hX]
                simp only [Instr.mapUpdate, Sem.run_bind, run_underlying ht, Result.andThen_ok, run_getObj_map g1, run_checkKey hq, hfk, q2, Option.map_some, Option.getD_some, Instr.keyThatStays, q3, if_true, Sem.run_pure, r1]
              have hmod : ∀ (j : Nat), (en.modify i fun e => { e with key := a.eval ko, val := a.eval vo })[j]? = if i = j then (en[j]?).map (fun e => { e with key := a.eval ko, val := a.eval vo }) else en[j]? := by
                intro j; rw [Array.getElem?_modify]
              have hborn : ∀ (j : Nat) (x : MapEntry), (en.modify i fun e => { e with key := a.eval ko, val := a.eval vo })[j]? = some x → ∃ y, en[j]? = some y ∧ y.born = x.born := by
                intro j x hx
                rw [hmod] at hx
                split at hx
                · simp only [Option.map_eq_some_iff] at hx
                  obtain ⟨y, hy, rfl⟩ := hx
                  exact ⟨y, hy, rfl⟩
                · exact ⟨x, hx, rfl⟩
              refine eff_skip (hrun0 hrun) he ?_
              have h2 := h.setObj (o' := .map (es.set i (key0, v0)) ver) hlive r2 (fun c e hc => by rw [g1] at hc; simp at hc) (fun hkk => by
                refine ⟨_, clock, r3, by simp [g2], fun j x y hj => ?_, fun j1 j2 x1 x2 hx1 hx2 hlt => ?_, fun j x hx => ?_⟩
                · rw [List.getElem?_set] at hj
                  split at hj
                  · rename_i hij
                    subst hij
                    simp only [Option.some.injEq, Prod.mk.injEq] at hj
                    obtain ⟨rfl, rfl⟩ := hj
                    exact ⟨_, by rw [hmod, if_pos rfl, q2]; rfl, hkp.mono hkk, hvr.mono hkk⟩
                  · rename_i hij
                    obtain ⟨e1, p1, p2, p3⟩ := g3 j x y hj
                    exact ⟨e1, by rw [hmod, if_neg hij]; exact p1, p2.mono hkk, p3.mono hkk⟩
                · obtain ⟨y1, p1, p2⟩ := hborn j1 x1 hx1
                  obtain ⟨y2, p3, p4⟩ := hborn j2 x2 hx2
                  rw [← p2, ← p4]; exact g4 j1 j2 y1 y2 p1 p3 hlt
                · obtain ⟨y1, p1, p2⟩ := hborn j x hx
                  rw [← p2]; exact g5 j y1 p1) (fun id2 ver2 seen hne hit hor => by
                obtain ⟨since, sb, stepped, a1, a2, a3⟩ := hor
                refine ⟨since, sb, stepped, a1, a2, fun es' ver' en' clock' ho hw => ?_⟩
                simp only [H.set, upd, if_true, Option.some.injEq, O.map.injEq] at ho
                obtain ⟨rfl, rfl⟩ := ho
                rw [r3] at hw
                simp only [Option.some.injEq, Obj.map.injEq] at hw
                obtain ⟨rfl, rfl⟩ := hw
                obtain ⟨b1, b2⟩ := a3 es ver en clock hlive g1
                refine ⟨b1, fun hv => ?_⟩
                obtain ⟨c1, c2, c3, c4, c5⟩ := b2 hv
                refine ⟨c1, c2, c3, by simpa using c4, ?_⟩
                rw [c5]
                apply List.map_congr_left
                intro j hj
                have hjl' : j < es.length := c4 j (by simpa using hj)
                obtain ⟨e1, p1, _⟩ := g3 j (es[j]).1 (es[j]).2 (List.getElem?_eq_getElem hjl')
                rw [Array.getD_eq_getD_getElem?, Array.getD_eq_getD_getElem?, hmod, p1]
                split <;> rfl)
              rw [put_tick]
              exact (h2.tick.putU hd).inv
          · rename_i hf
            simp only [Option.some.injEq] at hmu; subst hmu
            rcases find_run (P := P) hq hsk g2 g3 hf with ⟨_, hfk⟩ | ⟨j, v1, x1, hr, _⟩
            · obtain ⟨w', r1, r2, r3⟩ := run_setObj (P := P) (ob' := .map (en.push { key := a.eval ko, val := a.eval vo, born := clock }) (clock + 1)) g1 hnc
              have hrun : (Instr.mapUpdate t (a.eval mo) (a.eval ko) (a.eval vo)).run P w = .ok () w' := by
                rw [hX]
                simp only [Instr.mapUpdate, Sem.run_bind, run_underlying ht, Result.andThen_ok, run_getObj_map g1, run_checkKey hq, hfk, r1]
              refine eff_skip (hrun0 hrun) he ?_
              have hpush : ∀ (j : Nat), (en.push { key := a.eval ko, val := a.eval vo, born := clock })[j]? = if j = es.length then some { key := a.eval ko, val := a.eval vo, born := clock } else en[j]? := by
                intro j; rw [Array.getElem?_push, g2]
              have h2 := h.setObj (o' := .map (es ++ [(key0, v0)]) (ver + 1)) hlive r2 (fun c e hc => by rw [g1] at hc; simp at hc) (fun hkk => by
                refine ⟨_, clock + 1, r3, by simp [g2], fun j x y hj => ?_, fun j1 j2 x1 x2 hx1 hx2 hlt => ?_, fun j x hx => ?_⟩
                · rw [List.getElem?_append] at hj
                  split at hj
                  · rename_i hlt
                    obtain ⟨e1, p1, p2, p3⟩ := g3 j x y hj
                    exact ⟨e1, by rw [hpush, if_neg (by omega)]; exact p1, p2.mono hkk, p3.mono hkk⟩
                  · rename_i hlt
                    have hj0 : j = es.length := by
                      rcases Nat.lt_or_ge j (es.length + 1) with h' | h'
                      · omega
                      · rw [List.getElem?_eq_none (by simp; omega)] at hj; simp at hj
                    subst hj0
                    simp only [Nat.sub_self, List.getElem?_cons_zero, Option.some.injEq, Prod.mk.injEq] at hj
                    obtain ⟨rfl, rfl⟩ := hj
                    exact ⟨_, by rw [hpush, if_pos rfl], hkp.mono hkk, hvr.mono hkk⟩
                · rw [hpush] at hx1 hx2
                  have hj2 : j2 ≤ es.length := by
                    split at hx2
                    · omega
                    · have := (Array.getElem?_eq_some_iff.1 hx2).1; omega
                  rw [if_neg (by omega)] at hx1
                  split at hx2
                  · simp only [Option.some.injEq] at hx2; subst hx2
                    exact g5 j1 x1 hx1
                  · exact g4 j1 j2 x1 x2 hx1 hx2 hlt
                · rw [hpush] at hx
                  split at hx
                  · simp only [Option.some.injEq] at hx; subst hx
                    exact Nat.lt_succ_self _
                  · exact Nat.lt_succ_of_lt (g5 j x hx)) (fun id2 ver2 seen hne hit hor => by
                obtain ⟨since, sb, stepped, a1, a2, a3⟩ := hor
                refine ⟨since, sb, stepped, a1, a2, fun es' ver' en' clock' ho hw => ?_⟩
                simp only [H.set, upd, if_true, Option.some.injEq, O.map.injEq] at ho
                obtain ⟨rfl, rfl⟩ := ho
                obtain ⟨b1, _⟩ := a3 es ver en clock hlive g1
                exact ⟨by omega, fun hv => by omega⟩)
              rw [put_tick]
              exact (h2.tick.putU hd).inv
            · simp at hr
          · simp at hmu
        · simp at hmu
      · simp at hmu
    · exact he.elim
  · exact he.elim

theorem H.set_same {h : H} {id : Nat} {o : O} (hl : h.objs id = some o) : h.set id o = h := by
  have : upd h.objs id (some o) = h.objs := by funext b; simp only [upd]; split <;> simp_all
  simp only [H.set, this]

theorem eraseIf_get (en : Array MapEntry) (i j : Nat) : (en.eraseIdxIfInBounds i)[j]? = (en.toList.eraseIdx i)[j]? := by
  unfold Array.eraseIdxIfInBounds
  split
  · rw [← Array.getElem?_toList, Array.toList_eraseIdx]
  · rename_i hi
    rw [List.eraseIdx_of_length_le (by simpa using hi), Array.getElem?_toList]

theorem eff_mdel (h : FW G N e k β A st a w) (hG : ∀ g cells, (g, cells) ∈ hs.glob → (g, cells) ∈ G) {t kt el : TypeId} {mo ko : Operand} {m key : Arg} {q : KK} {ctypes : Array TypeId}
    (hop : o.op = .call { callee := .builtin .delete, args := #[mo, ko], argTypes := ctypes }) (hct : ctypes[0]? = some t)
    (hm : trArg hs mo = some m) (hk : trArg hs ko = some key) (ht : P.underlying t = some (.map kt el)) (hq : kindT P kt = some q) (hd : ∀ t, o.dst = some t → t < N) {call : CallT}
    (he : eff call st.n st o.dst (.mdel q m key) K) : EffOK P G N e o a w K := by
  have hrun0 : ∀ {w'}, (Builtin.delete_ ctypes o.type #[a.eval mo, a.eval ko]).run P w = .ok (.tuple #[]) w' → (execOp a.eval o).run P w = .ok (.value (.tuple #[])) w' := by
    intro w' hr
    have : execOp a.eval o = (do pure (Next.value (← Builtin.delete_ ctypes o.type #[a.eval mo, a.eval ko]))) := by
      simp only [execOp, hop, resolve, invoke, builtin, List.map_toArray, List.map_cons, List.map_nil, pure_bind]
    rw [this]
    exact exec_value hr
  have g0 : ∀ (X Y : Value), (#[X, Y] : Array Value)[0]? = some X := fun _ _ => rfl
  have g1' : ∀ (X Y : Value), (#[X, Y] : Array Value)[1]? = some Y := fun _ _ => rfl
  have hput : ∀ {k β A st a w}, FW G N e k β A st a w → FW G N e k β A (st.put o.dst (.tuple [])) (a.put o.dst (.tuple #[])) w := fun hf => hf.put hd ⟨#[], rfl, rfl, by simp⟩
  simp only [eff] at he
  split at he
  · rename_i h' hmd
    have hsk := h.arg hk hG
    have hsm := h.arg hm hG
    unfold mdelV at hmd
    split at hmd
    · rename_i hmn
      simp only [Option.some.injEq] at hmd; subst hmd
      rw [hmn] at hsm
      have hX : a.eval mo = .map none := by cases hX : a.eval mo <;> rw [hX] at hsm <;> cases (show VR k w .nilmap _ from hsm); rfl
      refine eff_value (hrun0 (w' := w) ?_) he ?_
      · simp only [Builtin.delete_, hct, g0, g1', Sem.run_bind, run_underlying ht, Result.andThen_ok, hX, run_checkKey hq, Sem.run_pure]
      · rw [put_tick]; exact (hput h.tick).inv
    · rename_i id hmid
      rw [hmid] at hsm
      cases hX : a.eval mo <;> rw [hX] at hsm <;> cases (show VR k w (.map id) _ from hsm)
      rename_i b hb hid
      subst hb
      split at hmd
      · rename_i es ver hg
        obtain ⟨en, clock, g1, g2, g3, g4, g5⟩ := h.map hg
        have hlive := H.mapAt_some hg
        have hnc : ∀ c e f, Obj.map en clock ≠ .cells c e f := by intro c e f hh; cases hh
        split at hmd
        · rename_i i vold hf
          simp only [Option.some.injEq] at hmd; subst hmd
          rcases find_run (P := P) hq hsk g2 g3 hf with ⟨hr, _⟩ | ⟨j, v1, x1, hr, hfk, hjl, _, _, a0, e0, q1, q2, q3⟩
          · simp at hr
          · simp only [Option.some.injEq, Prod.mk.injEq] at hr
            obtain ⟨rfl, rfl⟩ := hr
            obtain ⟨w', r1, r2, r3⟩ := run_setObj (P := P) (ob' := .map (en.eraseIdxIfInBounds i) clock) g1 hnc
            refine eff_value (hrun0 (w' := w') ?_) he ?_
            · simp only [Builtin.delete_, hct, g0, g1', Sem.run_bind, run_underlying ht, Result.andThen_ok, hX, run_getObj_map g1, run_checkKey hq, hfk, r1, Sem.run_pure]
            · have hget : ∀ (j : Nat), (en.eraseIdxIfInBounds i)[j]? = en[if j < i then j else j + 1]? := by
                intro j
                rw [eraseIf_get, List.getElem?_eraseIdx]
                split <;> simp
              have h2 := h.setObj (o' := .map (es.eraseIdx i) (ver + 1)) hlive r2 (fun c e hc => by rw [g1] at hc; simp at hc) (fun hkk => by
                refine ⟨_, clock, r3, ?_, fun j x y hj => ?_, fun j1 j2 x1 x2 hx1 hx2 hlt => ?_, fun j x hx => ?_⟩
                · unfold Array.eraseIdxIfInBounds
                  rw [dif_pos (by omega), Array.size_eraseIdx, List.length_eraseIdx, if_pos hjl, g2]
                · rw [List.getElem?_eraseIdx] at hj
                  have hj' : es[if j < i then j else j + 1]? = some (x, y) := by
                    by_cases hji : j < i
                    · rw [if_pos hji] at hj ⊢; exact hj
                    · rw [if_neg hji] at hj ⊢; exact hj
                  obtain ⟨e1, p1, p2, p3⟩ := g3 _ x y hj'
                  exact ⟨e1, by rw [hget]; exact p1, p2.mono hkk, p3.mono hkk⟩
                · rw [hget] at hx1 hx2
                  exact g4 _ _ x1 x2 hx1 hx2 (by split <;> split <;> omega)
                · rw [hget] at hx
                  exact g5 _ x hx) (fun id2 ver2 seen hne hit hor => by
                obtain ⟨since, sb, stepped, a1, a2, a3⟩ := hor
                refine ⟨since, sb, stepped, a1, a2, fun es' ver' en' clock' ho hw => ?_⟩
                simp only [H.set, upd, if_true, Option.some.injEq, O.map.injEq] at ho
                obtain ⟨rfl, rfl⟩ := ho
                obtain ⟨b1, _⟩ := a3 es ver en clock hlive g1
                exact ⟨by omega, fun hv => by omega⟩)
              rw [put_tick]
              exact (hput h2.tick).inv
        · rename_i hf
          simp only [Option.some.injEq] at hmd; subst hmd
          rcases find_run (P := P) hq hsk g2 g3 hf with ⟨_, hfk⟩ | ⟨j, v1, x1, hr, _⟩
          · obtain ⟨w', r1, r2, r3⟩ := run_setObj (P := P) (ob' := .map en clock) g1 hnc
            refine eff_value (hrun0 (w' := w') ?_) he ?_
            · simp only [Builtin.delete_, hct, g0, g1', Sem.run_bind, run_underlying ht, Result.andThen_ok, hX, run_getObj_map g1, run_checkKey hq, hfk, r1, Sem.run_pure]
            · have h2 := h.setObj (o' := .map es ver) hlive r2 (fun c e hc => by rw [g1] at hc; simp at hc) (fun hkk =>
                ⟨en, clock, r3, g2, fun j x y hj => let ⟨e1, p1, p2, p3⟩ := g3 j x y hj; ⟨e1, p1, p2.mono hkk, p3.mono hkk⟩, g4, g5⟩) (fun id2 ver2 seen hne hit hor => by
                obtain ⟨since, sb, stepped, a1, a2, a3⟩ := hor
                refine ⟨since, sb, stepped, a1, a2, fun es' ver' en' clock' ho hw => ?_⟩
                rw [r3] at hw
                simp only [Option.some.injEq, Obj.map.injEq] at hw
                obtain ⟨rfl, rfl⟩ := hw
                rw [H.set_same hlive] at ho
                exact a3 es' ver' en clock ho g1)
              rw [H.set_same hlive] at h2
              rw [put_tick]
              exact (hput h2.tick).inv
          · simp at hr
        · simp at hmd
      · simp at hmd
    · simp at hmd
  · exact he.elim

theorem eff_rng (h : FW G N e k β A st a w) (hG : ∀ g cells, (g, cells) ∈ hs.glob → (g, cells) ∈ G) {t kt el : TypeId} {mo : Operand} {m : Arg} (hop : o.op = .range t mo) (hm : trArg hs mo = some m) (ht : P.underlying t = some (.map kt el))
    (hd : ∀ t, o.dst = some t → t < N) {call : CallT} (he : eff call st.n st o.dst (.rng m) K) : EffOK P G N e o a w K := by
  simp only [eff] at he
  have hsm := h.arg hm hG
  split at he
  · rename_i id hmid
    rw [hmid] at hsm
    cases hX : a.eval mo <;> rw [hX] at hsm <;> cases (show VR k w (.map id) _ from hsm)
    rename_i b hb hid
    subst hb
    split at he
    · rename_i es ver hg
      obtain ⟨en, clock, g1, g2, g3, g4, g5⟩ := h.map hg
      have hlive := H.mapAt_some hg
      obtain ⟨l1, l2, _, _⟩ := h.wr.obj id _ hlive
      have hrun : (execOp a.eval o).run P w = .ok (.value (.pointer (some ⟨w.heap.size, 0, none⟩))) (w.alloc (.mapIter (some (k.ω id)) clock #[] clock)) := by
        simp only [execOp, hop]
        exact exec_value (by simp [Instr.range, run_underlying ht, hX, run_getObj_map g1])
      refine eff_value hrun he ?_
      have hid' : id ≠ k.nx := by rw [h.wr.nx]; exact Nat.ne_of_lt l1
      have hωid : ((k.setLim w.heap.size 0).reg w.heap.size).ω id = k.ω id := by
        simp only [Ctx.reg, Ctx.setLim, upd_ne _ _ hid']
      have h1 := h.newObj (o := .iter id ver []) (ob := .mapIter (some (k.ω id)) clock #[] clock) (by
        refine ⟨clock, #[], clock, by rw [hωid], by have := h.wr.nx; simp [Ctx.reg, Ctx.setLim]; omega, fun es' ver' en' clock' ho hw => ?_⟩
        rw [hωid, heap_alloc_lt l2, g1] at hw
        simp only [Option.some.injEq, Obj.map.injEq] at hw
        obtain ⟨rfl, rfl⟩ := hw
        have hne : id ≠ st.h.next := Nat.ne_of_lt l1
        simp only [H.new, upd_ne _ _ hne] at ho
        rw [hlive] at ho
        simp only [Option.some.injEq, O.map.injEq] at ho
        obtain ⟨rfl, rfl⟩ := ho
        exact ⟨Nat.le_refl _, fun _ => ⟨rfl, rfl, List.nodup_nil, by simp, rfl⟩⟩)
      rw [put_tick]
      refine (h1.tick.put hd ?_).inv
      rw [← h.wr.nx]
      exact ⟨by rw [reg_nx], reg_lt _ _ _⟩
    · exact he.elim
  · exact he.elim

/-- An iterator, with its map. -/
theorem FW.iter (h : FW G N e k β A st a w) {i id ver : Nat} {seen : List Nat} {es : List (V × V)} (hi : st.h.objs i = some (.iter id ver seen)) (hg : st.h.mapAt id = some (es, ver)) :
    ∃ en clock sb, w.heap[k.ω i]? = some (.mapIter (some (k.ω id)) clock sb clock) ∧ w.heap[k.ω id]? = some (.map en clock) ∧ en.size = es.length ∧
      (∀ (j : Nat) (a v : V), es[j]? = some (a, v) → ∃ e, en[j]? = some e ∧ VR k w a e.key ∧ VR k w v e.val) ∧ (∀ (i j : Nat) (a b : MapEntry), en[i]? = some a → en[j]? = some b → i < j → a.born < b.born) ∧
      (∀ (i : Nat) (a : MapEntry), en[i]? = some a → a.born < clock) ∧ seen.Nodup ∧ (∀ j ∈ seen, j < es.length) ∧ sb.toList = seen.reverse.map (fun j => (en.getD j default).born) ∧ id < k.nx := by
  obtain ⟨_, _, _, since, sb, stepped, h1, h2, h3⟩ := h.wr.obj i _ hi
  obtain ⟨en, clock, g1, g2, g3, g4, g5⟩ := h.map hg
  obtain ⟨_, h4⟩ := h3 es ver en clock (H.mapAt_some hg) g1
  obtain ⟨rfl, rfl, p1, p2, p3⟩ := h4 rfl
  exact ⟨en, stepped, sb, h1, g1, g2, g3, g4, g5, p1, p2, p3, h2⟩

theorem run_getObj {r : Nat} {ob : Obj} (h : w.heap[r]? = some ob) (hn : ∀ c e f, ob ≠ .cells c e f) : (getObj r).run P w = .ok ob w := by
  cases ob <;> first | exact absurd rfl (hn _ _ _) | simp [getObj, Sem.run, h]

theorem born_inj {en : Array MapEntry} (g4 : ∀ (i j : Nat) (a b : MapEntry), en[i]? = some a → en[j]? = some b → i < j → a.born < b.born) {i j : Nat} {x y : MapEntry} (hx : en[i]? = some x) (hy : en[j]? = some y) (hb : x.born = y.born) : i = j := by
  rcases Nat.lt_trichotomy i j with h | h | h
  · have := g4 i j x y hx hy h; omega
  · exact h
  · have := g4 j i y x hy hx h; omega

theorem eff_ent (h : FW G N e k β A st a w) (hG : ∀ g cells, (g, cells) ∈ hs.glob → (g, cells) ∈ G) {io : Operand} {it : Arg} (hop : o.op = .entry io) (hi : trArg hs io = some it)
    (hd : ∀ t, o.dst = some t → t < N) {call : CallT} (he : eff call st.n st o.dst (.ent it) K) : EffOK P G N e o a w K := by
  simp only [eff] at he
  have hsi := h.arg hi hG
  split at he
  · rename_i i hit
    rw [hit] at hsi
    obtain ⟨hX, hid⟩ := (show SR1 k w β A st.u (.itr i) (a.eval io) from hsi)
    split at he
    · rename_i id ver j seen hobj
      split at he
      · rename_i es ver' hg
        split at he
        · rename_i kx vx hj
          obtain ⟨hver, hk⟩ := he
          subst hver
          obtain ⟨en, clock, sb, g1, g2, g3, g4, g5, g6, g7, g8, g9, _⟩ := h.iter hobj hg
          obtain ⟨e0, q1, q2, q3⟩ := g4 j kx vx hj
          have hback : sb.back? = some e0.born := by
            have : sb.toList = (seen.reverse.map fun j => (en.getD j default).born) ++ [e0.born] := by
              rw [g9]; simp [Array.getD_eq_getD_getElem?, q1]
            have h2 : sb = ((seen.reverse.map fun j => (en.getD j default).born) ++ [e0.born]).toArray := by rw [← this]
            rw [h2]; simp
          have hfind : en.find? (fun e => e.born == e0.born) = some e0 := by
            rw [← Array.find?_toList]
            rw [List.find?_eq_some_iff_getElem]
            refine ⟨by simp, j, (by have := (Array.getElem?_eq_some_iff.1 q1).1; simpa using this), ?_, ?_⟩
            · have := (Array.getElem?_eq_some_iff.1 q1).2; simpa using this
            · intro j' hj'
              have hlt : j' < en.size := by have := (Array.getElem?_eq_some_iff.1 q1).1; omega
              have := g5 j' j en[j'] e0 (Array.getElem?_eq_getElem hlt) q1 hj'
              simp; omega
          have hrun : (execOp a.eval o).run P w = .ok (.value (.tuple #[e0.key, e0.val])) w := by
            simp only [execOp, hop]
            refine exec_value ?_
            rw [hX]
            have r1 := run_getObj (P := P) g1 (by intro c e f hh; cases hh)
            have r2 := run_getObj_map (P := P) g2
            simp only [Instr.entry, Sem.run_bind, r1, Result.andThen_ok, hback, r2, bne_self_eq_false, Bool.false_eq_true, if_false, hfind, Sem.run_pure]
          refine eff_value hrun hk ?_
          rw [put_tick]
          refine (h.tick.put hd ?_).inv
          refine ⟨#[e0.key, e0.val], rfl, rfl, fun j v hj => ?_⟩
          match j with
          | 0 => simp at hj; subst hj; exact ⟨e0.key, rfl, q2.sr1⟩
          | 1 => simp at hj; subst hj; exact ⟨e0.val, rfl, q3.sr1⟩
          | j + 2 => simp at hj
        · exact he.elim
      · exact he.elim
    · exact he.elim
  · exact he.elim

end
end Go.Ab
