/- Every reading of the layer Ab yields what the model's operation yields. -/
import Derived.Test.YtgfnhkedfmnijaaAb7
set_option linter.unusedVariables false
set_option linter.unusedSimpArgs false
namespace Go.Ab

section
variable {G : List (Nat × List V)} {N : Nat} {e : Entry} {k : Ctx} {β : Nat → Nat} {A : Nat → Prop} {st : S} {a : Act} {w : World} {P : Program} {u : List Nat}

theorem H.mapAt_some {h : H} {id : Nat} {es : List (V × V)} {ver : Nat} (hg : h.mapAt id = some (es, ver)) : h.objs id = some (.map es ver) := by
  unfold H.mapAt at hg
  split at hg
  · rename_i es' v' hc; simp at hg; obtain ⟨rfl, rfl⟩ := hg; exact hc
  · simp at hg

/-- The model's quick comparison of a key. -/
theorem sameNow_sound {q : KK} {t : TypeId} {v v' : V} {x x' : Value} {b : Bool} (h : VR k w v x) (h' : VR k w v' x') (hb : eqC q v v' = some b) {d : TypeDesc} (hd : P.underlying t = some d) (hq : kindT P t = some q) :
    Instr.sameNow d x x' = some b := by
  unfold kindT at hq
  rw [hd] at hq
  cases q <;> cases d <;> simp at hq <;> cases h <;> cases h' <;> simp [eqC] at hb
  · obtain ⟨h1, h2⟩ := hb
    subst h1; subst h2
    simp [Instr.sameNow]
  · subst hb; simp [Instr.sameNow]
  · subst hb; simp [Instr.sameNow]

theorem find_sound {q : KK} {t : TypeId} {d : TypeDesc} (hd : P.underlying t = some d) (hq : kindT P t = some q) {key : V} {X : Value} (hk : VR k w key X) :
    ∀ {es : List (V × V)} {en : List MapEntry} {i : Nat} {r : Option (Nat × V)}, en.length = es.length → (∀ (j : Nat) (a v : V), es[j]? = some (a, v) → ∃ e, en[j]? = some e ∧ VR k w a e.key ∧ VR k w v e.val) →
      findE q key es i = some r → ∃ r', Instr.findNow d X en i = some r' ∧ match r, r' with
        | none, none => True
        | some (j, v), some (j', x) => j' = j ∧ i ≤ j ∧ j < i + es.length ∧ VR k w v x ∧ (∃ a, es[j - i]? = some (a, v)) ∧ ∃ en', en[j - i]? = some en' ∧ en'.val = x
        | _, _ => False
  | [], en, i, r, hl, h, hr => by
    simp [findE] at hr; subst hr
    have : en = [] := by simpa using hl
    subst this
    exact ⟨none, rfl, trivial⟩
  | (a, v) :: es, en, i, r, hl, h, hr => by
    cases en with
    | nil => simp at hl
    | cons e0 en =>
      obtain ⟨e', he', hka, hkv⟩ := h 0 a v (by simp)
      simp at he'; subst he'
      simp only [findE] at hr
      split at hr
      · rename_i hb
        simp only [Option.some.injEq] at hr; subst hr
        refine ⟨some (i, e0.val), by simp [Instr.findNow, sameNow_sound hk hka hb hd hq], rfl, Nat.le_refl _, by simp, hkv, ⟨a, by simp⟩, e0, by simp, rfl⟩
      · rename_i hb
        obtain ⟨r', h1, h2⟩ := find_sound hd hq hk (en := en) (by simpa using hl) (fun j a v hj => by simpa using h (j + 1) a v (by simpa using hj)) hr
        refine ⟨r', by simp [Instr.findNow, sameNow_sound hk hka hb hd hq, h1], ?_⟩
        cases r with
        | none => cases r' with
          | none => trivial
          | some _ => exact h2.elim
        | some jv => cases r' with
          | none => exact h2.elim
          | some jx =>
            obtain ⟨j, v'⟩ := jv
            obtain ⟨j', x⟩ := jx
            obtain ⟨p1, p2, p3, p4, ⟨a', p5⟩, en', p6, p7⟩ := h2
            have e1 : j - i = (j - (i + 1)) + 1 := by omega
            refine ⟨p1, by omega, by simp; omega, p4, ⟨a', by rw [e1]; simpa using p5⟩, en', by rw [e1]; simpa using p6, p7⟩
      · simp at hr

theorem run_checkKey {t : TypeId} {q : KK} (hq : kindT P t = some q) (em : Bool) (n : Nat) (X : Value) : (Instr.checkKey em (n + 1) t X).run P w = .ok () w := by
  unfold kindT at hq
  split at hq <;> simp at hq <;> rename_i hu <;> simp only [Instr.checkKey, Sem.run_bind, run_underlying hu, Result.andThen_ok] <;> rfl

theorem run_zeroV {t : TypeId} {z : V} (h : zeroV P t = some z) : ∃ x, (zeroValue t).run P w = .ok x w ∧ VR k w z x := by
  unfold zeroV at h
  obtain ⟨i, hi, h⟩ := bindS h
  obtain ⟨x, hx, h⟩ := bindS h
  exact ⟨x, by simp [zeroValue, typeInfo, hi, hx], ofVal_sound h⟩

theorem run_findKey {kt : TypeId} {d : TypeDesc} {X : Value} {l : List MapEntry} {r : Option (Nat × Value)} (hd : P.underlying kt = some d) (h : Instr.findNow d X l 0 = some r) :
    (Instr.findKey kt X l).run P w = .ok r w := by
  simp [Instr.findKey, run_underlying hd, h]

theorem FW.map (h : FW G N e k β A st a w) {id : Nat} {es : List (V × V)} {ver : Nat} (hg : st.h.mapAt id = some (es, ver)) :
    ∃ en clock, w.heap[k.ω id]? = some (.map en clock) ∧ en.size = es.length ∧
      (∀ (j : Nat) (a v : V), es[j]? = some (a, v) → ∃ e, en[j]? = some e ∧ VR k w a e.key ∧ VR k w v e.val) ∧
      (∀ (i j : Nat) (a b : MapEntry), en[i]? = some a → en[j]? = some b → i < j → a.born < b.born) ∧ (∀ (i : Nat) (a : MapEntry), en[i]? = some a → a.born < clock) := by
  obtain ⟨_, _, _, en, clock, h1, h2, h3, h4, h5⟩ := h.wr.obj id _ (H.mapAt_some hg)
  exact ⟨en, clock, h1, h2, h3, h4, h5⟩

theorem run_getObj_map {r : Nat} {en : Array MapEntry} {clock : Nat} (h : w.heap[r]? = some (.map en clock)) : (getObj r).run P w = .ok (.map en clock) w := by
  simp [getObj, Sem.run, h]

theorem lkp_sound (h : FW G N e k β A st a w) {q : KK} {m key z v : V} {M X : Value} {ok : Bool} (hm : SR k w β A u m M) (hk : SR k w β A u key X) {t kt el : TypeId}
    (ht : P.underlying t = some (.map kt el)) (hq : kindT P kt = some q) (hz : zeroV P el = some z) (hv : lkpV st.h q m key z ok = some v) :
    ∃ y, (Instr.lookup t M X ok).run P w = .ok y w ∧ SR k w β A u v y := by
  obtain ⟨zx, hzr, hzv⟩ := run_zeroV (P := P) (w := w) (k := k) hz
  have hres : ∀ (p : V) (x : Value) (b : Bool), VR k w p x → SR k w β A u (if ok then .tuple [p, .bool b] else p) (if ok then .tuple #[x, .bool b] else x) := by
    intro p x b hp
    cases ok with
    | false => exact hp.sr
    | true =>
      refine ⟨#[x, .bool b], rfl, rfl, fun j v hj => ?_⟩
      match j with
      | 0 => simp at hj; subst hj; exact ⟨x, by simp, hp.sr1⟩
      | 1 => simp at hj; subst hj; exact ⟨.bool b, by simp, (VR.bool b).sr1⟩
      | j + 2 => simp at hj
  cases m with
  | nilmap =>
    cases (show VR k w .nilmap M from hm)
    simp only [lkpV, Option.some.injEq] at hv; subst hv
    refine ⟨_, ?_, hres z zx false hzv⟩
    have hfk : (Instr.findKey kt X []).run P w = .ok none w := by
      unfold Instr.findKey
      unfold kindT at hq
      split at hq <;> simp at hq <;> rename_i hu <;> simp only [Sem.run_bind, run_underlying hu, Result.andThen_ok] <;> rfl
    have e0 : (#[] : Array MapEntry).toList = [] := rfl
    simp only [Instr.lookup, Sem.run_bind, run_underlying ht, Result.andThen_ok, Sem.run_pure, run_checkKey hq, hfk, hzr, e0]
  | map id =>
    cases (show VR k w (.map id) M from hm) with
    | map _ b hb hid =>
      subst hb
      simp only [lkpV] at hv
      split at hv
      · rename_i es ver hg
        obtain ⟨en, clock, h1, h2, h3, _, _⟩ := h.map hg
        obtain ⟨dd, hdd⟩ : ∃ d, P.underlying kt = some d := by
          unfold kindT at hq
          cases hu : P.underlying kt with
          | none => simp [hu] at hq
          | some d => exact ⟨d, rfl⟩
        have hkv : VR k w key X ∨ True := .inr trivial
        split at hv
        · rename_i j v' hf
          have hkp : VR k w key X := by
            by_cases hp : key.plain = true
            · rwa [SR.of_plain hp] at hk
            · exfalso
              cases es with
              | nil => simp [findE] at hf
              | cons p es =>
                obtain ⟨a', v''⟩ := p
                simp only [findE] at hf
                have : eqC q key a' = none := by
                  cases key <;> simp [V.plain] at hp <;> cases q <;> simp [eqC]
                  all_goals (cases a' <;> simp [eqC])
                rw [this] at hf; simp at hf
          obtain ⟨r', g1, g2⟩ := find_sound hdd hq hkp (en := en.toList) (by simpa using h2) (fun j a v hj => by simpa using h3 j a v hj) hf
          cases r' with
          | none => exact g2.elim
          | some jx =>
            obtain ⟨j', x⟩ := jx
            obtain ⟨_, _, _, g5, _⟩ := g2
            simp only [Option.some.injEq] at hv; subst hv
            refine ⟨_, ?_, hres v' x true g5⟩
            have := run_findKey (P := P) (w := w) hdd g1
            simp only [Instr.lookup, Sem.run_bind, run_underlying ht, Result.andThen_ok, Sem.run_pure, run_checkKey hq, run_getObj_map h1, this]
        · rename_i hf
          simp only [Option.some.injEq] at hv; subst hv
          refine ⟨_, ?_, hres z zx false hzv⟩
          have hfk : (Instr.findKey kt X en.toList).run P w = .ok none w := by
            by_cases hp : key.plain = true
            · have hkp : VR k w key X := by rwa [SR.of_plain hp] at hk
              obtain ⟨r', g1, g2⟩ := find_sound hdd hq hkp (en := en.toList) (by simpa using h2) (fun j a v hj => by simpa using h3 j a v hj) hf
              cases r' with
              | some _ => exact g2.elim
              | none => exact run_findKey (P := P) (w := w) hdd g1
            · have hes : es = [] := by
                cases es with
                | nil => rfl
                | cons p es =>
                  exfalso
                  obtain ⟨a', v''⟩ := p
                  simp only [findE] at hf
                  have : eqC q key a' = none := by
                    cases key <;> simp [V.plain] at hp <;> cases q <;> simp [eqC]
                    all_goals (cases a' <;> simp [eqC])
                  rw [this] at hf; simp at hf
              subst hes
              have : en = #[] := by simpa using h2
              subst this
              unfold Instr.findKey
              simp only [Sem.run_bind, run_underlying hdd, Result.andThen_ok]
              rfl
          simp only [Instr.lookup, Sem.run_bind, run_underlying ht, Result.andThen_ok, Sem.run_pure, run_checkKey hq, run_getObj_map h1, hfk, hzr]
        · simp at hv
      · simp at hv
  | _ => simp [lkpV] at hv

theorem zeroT_sound {t : TypeId} {z : List V} (h : zeroT P t = some z) : ∃ x, (zeroValue t).run P w = .ok x w ∧ CRs k w z x.cells.toList := by
  unfold zeroT at h
  obtain ⟨i, hi, h⟩ := bindS h
  obtain ⟨x, hx, h⟩ := bindS h
  exact ⟨x, by simp [zeroValue, typeInfo, hi, hx], ofVals_sound h⟩

/-- A slice's literal: its cells, in a new block. -/
theorem run_buildSlice {hs : Hints} (h : FW G N e k β A st a w) (hG : ∀ g cells, (g, cells) ∈ hs.glob → (g, cells) ∈ G) {t el : TypeId} {len n : Nat} {z cs : List V} {ps : List (Nat × Operand)} {l : List (Nat × Nat × Arg)}
    (ht : P.underlying t = some (.slice el)) (hn : sizeT P el = some n) (hz : zeroT P el = some z) (hl : trParts hs (fun i => some (i * n, n)) ps = some l)
    (hle : len * n ≤ 16777216) (h0 : 0 < n) (hzl : z.length = n) (hf : fillV st.ρ ((List.replicate len z).flatten) l = some cs) :
    ∃ ys : Array Value, (Instr.buildSlice t len ((ps.map fun (i, x) => (i, a.eval x)).toArray)).run P w = .ok (.slice (some ⟨w.heap.size, 0, none⟩) len len) (w.alloc (.cells ys el)) ∧ CRs k w cs ys.toList ∧ cs.length = len * n := by
  obtain ⟨zx, hzr, hzc⟩ := zeroT_sound (P := P) (w := w) (k := k) hz
  have hzs := zeros_sound (len := len) hzc hzl h0
  obtain ⟨ys, g1, g2⟩ := fill_sound h hG hl hzs hf
  have hfl : ∀ (l : List (Nat × Nat × Arg)) (cs r : List V), fillV st.ρ cs l = some r → r.length = cs.length := by
    intro l
    induction l with
    | nil => intro cs r hr; simp [fillV] at hr; rw [hr]
    | cons p l ih =>
      intro cs r hr
      obtain ⟨off, m, x⟩ := p
      simp only [fillV] at hr
      split at hr
      · split at hr
        · rename_i hle
          rw [ih _ _ hr, over_length _ _ _ (by omega)]
        · simp at hr
      · simp at hr
  refine ⟨ys, ?_, g2, by rw [hfl _ _ _ hf, flat_rep_len, hzl]⟩
  have hnz : ¬ (len * n > 2 ^ 24) := by omega
  have hmap : ((ps.map fun (i, x) => (i, a.eval x)).toArray).toList = ps.map fun (i, x) => (i, a.eval x) := by simp
  by_cases hlz : len * n = 0
  · have e1 : ((Array.range (len * n)).map (zx.cells[· % zx.cells.size]!)) = #[] := by rw [hlz]; simp
    rw [e1] at g1
    have e2 : ∀ zz : Array Value, ((Array.range (len * n)).map (zz[· % zz.size]!)) = #[] := by intro zz; rw [hlz]; simp
    simp only [Instr.buildSlice, Sem.run_bind, run_underlying ht, Result.andThen_ok, run_sizeOf hn, if_neg hnz, if_pos hlz, Sem.run_pure, e2, hmap, g1, newRow, run_newObj]
    rfl
  · simp only [Instr.buildSlice, Sem.run_bind, run_underlying ht, Result.andThen_ok, run_sizeOf hn, if_neg hnz, if_neg hlz, hzr, Sem.run_pure, hmap, g1, newRow, run_newObj]
    rfl

end
end Go.Ab
