/- What the operations of the layer Ab that change the store do is what the model's operations do (1): stores, boxes, new blocks. -/
import Derived.Test.YtgfnhkedfmnijaaAb10
set_option linter.unusedVariables false
set_option linter.unusedSimpArgs false
namespace Go.Ab

/-- What a panic leaves. -/
def PanOK (G : List (Nat × List V)) (e : Entry) (v : V) (h' : H) (ch : List PanicEntry) (w' : World) : Prop :=
  ∃ x k', ch = [{ v := x, recovered := false }] ∧ WR k' h' w' G ∧ Old e k' h' w' ∧ VR k' w' v x

/-- A way out of a piece of code, in both worlds. -/
def QK (G : List (Nat × List V)) (N : Nat) (e : Entry) (K : Ex → S → Prop) : Exit → Act → World → Prop
  | .normal, a, w => ∃ st, K .normal st ∧ Inv G N e st a w
  | .exit id, a, w => ∃ st, K (.brk id) st ∧ Inv G N e st a w
  | .ret, a, w => ∃ st, K .ret st ∧ Inv G N e st a w
  | .panic ch, a, w => ∃ v h', K (.pan v) (.blank h') ∧ a.defers = [] ∧ PanOK G e v h' ch w
  | _, _, _ => False

def EffOK (P : Program) (G : List (Nat × List V)) (N : Nat) (e : Entry) (o : Oper) (a : Act) (w : World) (K : Ex → S → Prop) : Prop :=
  o.wp P a w (fun a' w' => ∃ st', K .normal st' ∧ Inv G N e st'.tick a' w') (QK G N e K)

section
variable {G : List (Nat × List V)} {N : Nat} {e : Entry} {k : Ctx} {β : Nat → Nat} {A : Nat → Prop} {st : S} {a : Act} {w : World} {P : Program} {u : List Nat} {hs : Hints} {o : Oper} {K : Ex → S → Prop}

theorem eff_value {x : Value} {w' : World} {st' : S} (hrun : (execOp a.eval o).run P w = .ok (.value x) w') (hk : K .normal st') (hi : Inv G N e st'.tick (a.put o.dst x) w') : EffOK P G N e o a w K := by
  unfold EffOK Oper.wp
  rw [hrun]
  exact ⟨st', hk, hi⟩

theorem eff_skip {w' : World} {st' : S} (hrun : (execOp a.eval o).run P w = .ok .skip w') (hk : K .normal st') (hi : Inv G N e st'.tick (a.put o.dst undef) w') : EffOK P G N e o a w K := by
  unfold EffOK Oper.wp
  rw [hrun]
  exact ⟨st', hk, hi⟩

theorem FW.inv (h : FW G N e k β A st a w) : Inv G N e st a w := ⟨k, β, A, h⟩

theorem put_tick (st : S) (d : Option Nat) (v : V) : (st.put d v).tick = st.tick.put d v := by cases d <;> rfl

theorem FW.putU (h : FW G N e k β A st a w) (hd : ∀ t, o.dst = some t → t < N) : FW G N e k β A (st.put o.dst .undef) (a.put o.dst undef) w :=
  h.put hd (by trivial)

/-- The cells of a value that may lie in a local box. -/
theorem SR.cells1 {v : V} {X : Value} (h : SR k w β A u v X) (h1 : ∀ s z o, v ≠ .lptr s z o) (h2 : ∀ i, v ≠ .itr i) (h3 : ∀ vs, v ≠ .tuple vs) (h4 : v ≠ .undef) :
    X.cells.size = v.cells.length ∧ ∀ (j : Nat) (y : V), v.cells[j]? = some y → ∃ x, X.cells[j]? = some x ∧ SR1 k w β A u y x ∧ x.oneCell' = true := by
  by_cases hp : v.plain = true
  · rw [SR.of_plain hp] at h
    obtain ⟨c1, c2⟩ := h.cells
    exact ⟨by simpa using c1, fun j y hj => let ⟨x, p, q, r⟩ := c2 j y hj; ⟨x, by simpa using p, q.sr1, r⟩⟩
  · cases v with
    | vec xs c =>
      cases c with
      | own s =>
        have hvr := h.vec
        have h1 := hvr.one (by simp)
        rw [Value.cells_of_one h1]
        refine ⟨rfl, fun j y hj => ?_⟩
        cases j with
        | zero => simp [V.cells] at hj; subst hj; exact ⟨X, rfl, h, h1⟩
        | succ j => simp [V.cells] at hj
      | any => simp [V.plain] at hp
      | full => simp [V.plain] at hp
    | lptr s z o => exact absurd rfl (h1 s z o)
    | itr i => exact absurd rfl (h2 i)
    | tuple vs => exact absurd rfl (h3 vs)
    | undef => exact absurd rfl h4
    | _ => simp [V.plain] at hp

theorem one_all {xs : Array Value} {n : Nat} (hl : xs.size = n) (h : ∀ (j : Nat), j < n → ∃ x, xs[j]? = some x ∧ x.oneCell' = true) : ∀ v ∈ xs.toList, v.oneCell' = true := by
  intro v hv
  obtain ⟨j, hj, rfl⟩ := List.mem_iff_getElem.1 hv
  obtain ⟨x, hx, h1⟩ := h j (by simpa [hl] using hj)
  have : xs.toList[j] = x := by
    have : xs.toList[j]? = some x := by simpa using hx
    rw [List.getElem?_eq_getElem hj] at this
    simpa using this
  rw [this]; exact h1

/-- A variable stored whole. -/
theorem run_storeAt {t : TypeId} {n b off : Nat} {X : Value} {c : Array Value} {e' : TypeId} (hn : sizeT P t = some n) (hX : X.cells.size = n) (hb : w.heap[b]? = some (.cells c e' (0, 0))) (hle : off + n ≤ c.size)
    (hone : ∀ v ∈ X.cells.toList, v.oneCell' = true) :
    ∃ w', (Instr.storeAt t (.pointer (some ⟨b, off, none⟩)) X).run P w = .ok () w' ∧ Change w w' b ∧ ∃ c', w'.heap[b]? = some (.cells c' e' (0, 0)) ∧ c'.size = c.size ∧
      ∀ (j : Nat), c'[j]? = if off ≤ j ∧ j < off + n then X.cells[j - off]? else c[j]? := by
  obtain ⟨w', r1, r2, c', r3, r4, r5⟩ := run_storeCells (P := P) X.cells.toList w b off 0 c e' hb (by simp [hX]; omega) hone
  refine ⟨w', ?_, r2, c', r3, r4, fun j => ?_⟩
  · have hne : ¬ X.cells.size ≠ n := by simp [hX]
    simp only [Instr.storeAt, Instr.sureAddr, Sem.run_bind, Sem.run_pure, Result.andThen_ok, storeVar, run_sizeOf hn, if_neg hne]
    exact r1
  · have := r5 j
    simp only [Nat.add_zero, Array.length_toList, hX, Array.getElem?_toList] at this
    exact this

theorem row_of {w' : World} {b : Nat} {c c' : Array Value} {e1 : TypeId} (h : w.heap[b]? = some (.cells c e1 (0, 0))) (h' : w'.heap[b]? = some (.cells c' e1 (0, 0))) (hs : c'.size = c.size) :
    ∀ (c : Array Value) (e : TypeId), w.heap[b]? = some (.cells c e (0, 0)) → ∃ c', w'.heap[b]? = some (.cells c' e (0, 0)) ∧ c'.size = c.size := by
  intro d f hd
  rw [h] at hd
  simp only [Option.some.injEq, Obj.cells.injEq] at hd
  obtain ⟨rfl, rfl, _⟩ := hd
  exact ⟨c', h', hs⟩

theorem storeV_sound (h : FW G N e k β A st a w) {p v : V} {X Y : Value} (hp : SR k w β A st.u p X) (hv : SR k w β A st.u v Y) {t : TypeId} {n : Nat} (hn : sizeT P t = some n) {st' : S} (hs : storeV st p v n = some st') :
    ∃ w', (Instr.storeAt t X Y).run P w = .ok () w' ∧ FW G N e k β A st' a w' := by
  unfold storeV at hs
  split at hs
  · rename_i hc
    obtain ⟨hlen, hpos⟩ := hc
    split at hs
    · -- a local box
      rename_i s z off
      obtain ⟨rfl, hA, hl0, c, e', hb, hz⟩ := (show SR1 k w β A st.u (.lptr s z off) X from hp)
      have hcore : (∀ s z o, v ≠ .lptr s z o) → (∀ i, v ≠ .itr i) → (∀ vs, v ≠ .tuple vs) → v ≠ .undef →
          (if off = 0 ∧ n = z then some { st with m := upd st.m s (some v.cells) } else
            match st.m s with
            | some cs => if off + n ≤ cs.length then some { st with m := upd st.m s (some (over cs off v.cells)) } else none
            | none => none) = some st' → ∃ w', (Instr.storeAt t (.pointer (some ⟨β s, off, none⟩)) Y).run P w = .ok () w' ∧ FW G N e k β A st' a w' := by
        intro n1 n2 n3 n4 hs
        obtain ⟨c1, c2⟩ := hv.cells1 n1 n2 n3 n4
        have hYs : Y.cells.size = n := c1.trans hlen
        have hone : ∀ x ∈ Y.cells.toList, x.oneCell' = true := one_all hYs (fun j hj => by
          obtain ⟨x, hx, _, h1⟩ := c2 j (v.cells[j]'(by omega)) (List.getElem?_eq_getElem _)
          exact ⟨x, hx, h1⟩)
        split at hs
        · rename_i hfull
          obtain ⟨hoff, hnz⟩ := hfull
          have hs2 := Option.some.inj hs
          clear hs
          subst hs2
          subst hoff
          obtain ⟨w', r1, r2, c', r3, r4, r5⟩ := run_storeAt (P := P) (t := t) (off := 0) hn hYs hb (by omega) hone
          refine ⟨w', r1, h.setBox hA hl0 r2 (row_of hb r3 r4) (fun hk => ⟨c', e', r3, by omega, fun j y hj => ?_⟩)⟩
          obtain ⟨x, hx, hr, h1⟩ := c2 j y hj
          have hjn : j < n := by
            rcases Nat.lt_or_ge j v.cells.length with h' | h'
            · omega
            · rw [List.getElem?_eq_none h'] at hj; simp at hj
          refine ⟨x, ?_, hr.mono (Stays.of hk (fun _ _ => rfl)), h1⟩
          rw [r5, if_pos ⟨by omega, by omega⟩]; simpa using hx
        · split at hs
          · rename_i cs hm
            split at hs
            · rename_i hle
              simp only [Option.some.injEq] at hs; subst hs
              obtain ⟨_, _, c0, e0, hb0, hsz0, hall0⟩ := h.mem s cs hm
              rw [hb] at hb0
              simp only [Option.some.injEq, Obj.cells.injEq] at hb0
              obtain ⟨rfl, rfl, _⟩ := hb0
              obtain ⟨w', r1, r2, c', r3, r4, r5⟩ := run_storeAt (P := P) (t := t) (off := off) hn hYs hb (by omega) hone
              refine ⟨w', r1, h.setBox hA hl0 r2 (row_of hb r3 r4) (fun hk => ⟨c', e', r3, by rw [over_length _ _ _ (by omega)]; omega, fun j y hj => ?_⟩)⟩
              rw [over_get _ _ _ _ (by omega)] at hj
              rw [r5]
              split at hj
              · rename_i hin
                rw [if_pos ⟨by omega, by omega⟩]
                obtain ⟨x, hx, hr, h1⟩ := c2 _ y hj
                exact ⟨x, hx, hr.mono (Stays.of hk (fun _ _ => rfl)), h1⟩
              · rename_i hin
                rw [if_neg (by omega)]
                obtain ⟨x, hx, hr, h1⟩ := hall0 j y hj
                exact ⟨x, hx, hr.mono (Stays.of hk (fun _ _ => rfl)), h1⟩
            · simp at hs
          · simp at hs
      split at hs
      · simp at hs
      · simp at hs
      · simp at hs
      · simp at hs
      · rename_i m1 m2 m3 m4
        exact hcore (fun s z o hh => m1 s z o hh) (fun i hh => m2 i hh) (fun vs hh => m3 vs hh) m4 hs
    · -- an object
      rename_i id off
      split at hs
      · rename_i v0 cs hv0 hg
        split at hs
        · rename_i hle
          simp only [Option.some.injEq] at hs; subst hs
          cases (show VR k w (.ptr id off) X from hp) with
          | ptr _ _ b hb hid =>
            subst hb
            obtain ⟨c, e', hb, hcl, hcr⟩ := h.objCells hg
            have hvr := hv.out hv0
            obtain ⟨c1, c2⟩ := hvr.cells
            have hl0 : v0.cells.length = n := by
              cases v with
              | vec xs c => cases c <;> simp [V.out] at hv0 <;> subst hv0 <;> exact hlen
              | _ => simp [V.out] at hv0 <;> subst hv0 <;> exact hlen
            have hYs : Y.cells.size = n := by have := c1; simp at this; omega
            have hone : ∀ x ∈ Y.cells.toList, x.oneCell' = true := one_all hYs (fun j hj => by
              obtain ⟨x, hx, _, h1⟩ := c2 j (v0.cells[j]'(by omega)) (List.getElem?_eq_getElem _)
              exact ⟨x, by simpa using hx, h1⟩)
            obtain ⟨w', r1, r2, c', r3, r4, r5⟩ := run_storeAt (P := P) (t := t) (off := off) hn hYs hb (by omega) hone
            refine ⟨w', r1, h.setObj (H.get_some hg) r2 (row_of hb r3 r4) (fun hk => ?_) (fun id2 ver seen hne hit hor => ?_)⟩
            · refine ⟨c', e', r3, by rw [over_length _ _ _ (by omega)]; omega, by rw [over_length _ _ _ (by omega)]; simp; omega, fun j y hj => ?_⟩
              rw [over_length _ _ _ (by omega)]
              have hjl : j < cs.length := by
                rcases Nat.lt_or_ge j cs.length with h' | h'
                · exact h'
                · rw [List.getElem?_eq_none (by rw [over_length _ _ _ (by omega)]; exact h')] at hj; simp at hj
              rw [over_get _ _ _ _ (by omega)] at hj
              rw [List.getElem?_take, if_pos hjl, Array.getElem?_toList, r5]
              split at hj
              · rename_i hin
                rw [if_pos ⟨by omega, by omega⟩]
                obtain ⟨x, hx, hr, h1⟩ := c2 _ y hj
                exact ⟨x, by simpa using hx, hr.mono hk, h1⟩
              · rename_i hin
                rw [if_neg (by omega)]
                obtain ⟨x, hx, hr, h1⟩ := hcr.2 j y hj
                exact ⟨x, by simpa using (take_get hx).1, hr.mono hk, h1⟩
            · obtain ⟨since, sb, stepped, a1, a2, a3⟩ := hor
              refine ⟨since, sb, stepped, a1, a2, fun es ver' en clock ho hw => ?_⟩
              simp [H.set, upd] at ho
        · simp at hs
      · simp at hs
    · simp at hs
  · simp at hs

end
end Go.Ab
