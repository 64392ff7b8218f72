/- What the readings of the layer Ab yield is what the model's operations yield (1): loads, addresses, indexes, fields. -/
import Derived.Test.YtgfnhkedfmnijaaAb3
set_option linter.unusedVariables false
set_option linter.unusedSimpArgs false
namespace Go.Ab

theorem bindS {α β : Type} {x : Option α} {f : α → Option β} {b : β} (h : (x >>= f) = some b) : ∃ a, x = some a ∧ f a = some b := by
  cases x with
  | none => simp at h
  | some a => exact ⟨a, rfl, h⟩

section
variable {P : Program} {w : World}

theorem run_sizeOf {t : TypeId} {n : Nat} (h : sizeT P t = some n) : (sizeOf t).run P w = .ok n w := by
  unfold sizeT at h
  cases hi : P.info? t with
  | none => simp [hi] at h
  | some i => simp [hi] at h; simp [sizeOf, typeInfo, hi, h]

theorem run_bytesOf {t : TypeId} {n : Nat} (h : bytesT P t = some n) : ∃ i, (typeInfo t).run P w = .ok i w ∧ i.bytes = n := by
  unfold bytesT at h
  cases hi : P.info? t with
  | none => simp [hi] at h
  | some i => simp [hi] at h; exact ⟨i, by simp [typeInfo, hi], h⟩

theorem run_underlying {t : TypeId} {d : TypeDesc} (h : P.underlying t = some d) : (underlying t).run P w = .ok d w := by
  simp [underlying, h]

theorem run_isAgg {t : TypeId} {ag : Bool} (h : aggT P t = some ag) : (isAgg t).run P w = .ok ag w := by
  unfold aggT at h
  cases hu : P.underlying t with
  | none => simp [hu] at h
  | some d => cases d <;> simp [hu] at h <;> subst h <;> simp [isAgg, underlying, hu]

/-- A variable read out of its cells. -/
theorem run_loadVar_cells {t : TypeId} {n : Nat} {a : Addr} {xs : List Value} (hn : sizeT P t = some n) (ha : aggT P t = some true) (hl : xs.length = n)
    (h : ∀ j v, xs[j]? = some v → w.cell? (a.add j) = some v) : (loadVar t a).run P w = .ok (.agg xs.toArray) w := by
  subst hl
  simp only [loadVar, Sem.run_bind, run_isAgg ha, Result.andThen_ok, if_true, run_sizeOf hn, run_loadCells_list w a xs h, Sem.run_pure]

theorem run_loadVar_one {t : TypeId} {a : Addr} {x : Value} (ha : aggT P t = some false) (h : w.cell? a = some x) : (loadVar t a).run P w = .ok x w := by
  simp only [loadVar, Sem.run_bind, run_isAgg ha, Result.andThen_ok, if_false, Bool.false_eq_true, run_load, h]
end

theorem spot_of_cell {w : World} {a : Addr} {v : Value} (h : w.cell? a = some v) : a.spot = none := by
  unfold World.cell? at h
  split at h
  · cases hs : a.spot with
    | none => rfl
    | some z => simp [hs] at h
  · simp at h

theorem take_get {α : Type} {l : List α} {n j : Nat} {x : α} (h : (l.take n)[j]? = some x) : l[j]? = some x ∧ j < n := by
  rw [List.getElem?_take] at h
  split at h
  · exact ⟨h, by assumption⟩
  · simp at h

theorem CRs.nth {k : Ctx} {w : World} {vs : List V} {xs : List Value} (h : CRs k w vs xs) {j : Nat} {v : V} (hj : vs[j]? = some v) :
    ∃ x, xs[j]? = some x ∧ VR k w v x ∧ x.oneCell' = true := h.2 j v hj

theorem CRs.slice {k : Ctx} {w : World} {vs : List V} {xs : List Value} (h : CRs k w vs xs) (off n : Nat) : CRs k w ((vs.drop off).take n) ((xs.drop off).take n) := by
  refine ⟨by simp [h.1], fun j v hj => ?_⟩
  obtain ⟨h1, h2⟩ := take_get hj
  rw [List.getElem?_drop] at h1
  obtain ⟨x, hx, hr⟩ := h.2 _ v h1
  exact ⟨x, by rw [List.getElem?_take, if_pos h2, List.getElem?_drop]; exact hx, hr⟩

/-- What 'outs' gives, of values that stand in cells. -/
theorem outs_sr {k : Ctx} {w : World} {β : Nat → Nat} {A : Nat → Prop} {u : List Nat} : ∀ {vs l : List V} {xs : List Value}, outs vs = some l → xs.length = vs.length →
    (∀ (j : Nat) (v : V), vs[j]? = some v → ∃ x, xs[j]? = some x ∧ SR k w β A u v x ∧ x.oneCell' = true) → CRs k w l xs
  | [], l, xs, ho, hl, h => by simp [outs] at ho; subst ho; exact ⟨by simpa using hl, by simp⟩
  | v :: vs, l, xs, ho, hl, h => by
    simp only [outs] at ho
    split at ho
    · rename_i p q hp hq
      simp at ho; subst ho
      cases xs with
      | nil => simp at hl
      | cons x xs =>
        obtain ⟨h1, h2⟩ := outs_sr (β := β) (A := A) (u := u) hq (by simpa using hl) (fun j v hj => by simpa using h (j + 1) v (by simpa using hj))
        refine ⟨by simp [h1], fun j y hj => ?_⟩
        cases j with
        | zero =>
          simp at hj; subst hj
          obtain ⟨x', hx', hr, h1⟩ := h 0 v (by simp)
          simp at hx'; subst hx'
          exact ⟨x, by simp, hr.out hp, h1⟩
        | succ j => simpa using h2 j y (by simpa using hj)
    · simp at ho

section
variable {G : List (Nat × List V)} {N : Nat} {e : Entry} {k : Ctx} {β : Nat → Nat} {A : Nat → Prop} {st : S} {a : Act} {w : World} {P : Program}

theorem H.get_some {h : H} {id : Nat} {cs : List V} (hg : h.get id = some cs) : h.objs id = some (.cells cs) := by
  unfold H.get at hg
  split at hg
  · rename_i c hc; simp at hg; subst hg; exact hc
  · simp at hg

/-- An object's cells. -/
theorem FW.objCells (h : FW G N e k β A st a w) {id : Nat} {cs : List V} (hg : st.h.get id = some cs) :
    ∃ c e', w.heap[k.ω id]? = some (.cells c e' (0, 0)) ∧ cs.length ≤ c.size ∧ CRs k w cs (c.toList.take cs.length) := by
  obtain ⟨_, _, _, c, e', hc, hl, hr⟩ := h.wr.obj id _ (H.get_some hg)
  exact ⟨c, e', hc, hl, hr⟩

theorem cell_of_heap {b i : Nat} {c : Array Value} {e' : TypeId} {f : Nat × Nat} (h : w.heap[b]? = some (.cells c e' f)) : w.cell? ⟨b, i, none⟩ = c[i]? := by
  simp [World.cell?, h]

theorem load_sound (h : FW G N e k β A st a w) {p : V} {x : Value} (hp : SR k w β A st.u p x) {t : TypeId} {n : Nat} {ag : Bool} {v : V}
    (hn : sizeT P t = some n) (ha : aggT P t = some ag) (hv : loadV st.m st.h p n ag = some v) :
    ∃ y, (Instr.loadAt t x).run P w = .ok y w ∧ SR k w β A st.u v y := by
  cases p with
  | iptr cs =>
    cases (show VR k w (.iptr cs) x from hp) with
    | iptr _ ad val hsp hcell hval =>
      simp only [loadV, takeV] at hv
      split at hv
      · split at hv
        · rename_i hag hle
          subst hag
          simp at hv; subst hv
          refine ⟨.agg ((List.range n).map val).toArray, ?_, VR.sr (VR.of_cells ⟨by simp; omega, fun j v hj => ?_⟩)⟩
          · simp only [Instr.loadAt, Sem.run_bind, Instr.sureAddr, Sem.run_pure, Result.andThen_ok]
            refine run_loadVar_cells hn ha (by simp) (fun j y hj => ?_)
            simp only [List.getElem?_map, Option.map_eq_some_iff] at hj
            obtain ⟨i, hi, rfl⟩ := hj
            have hjn : j < n := by
              rcases Nat.lt_or_ge j n with h' | h'
              · exact h'
              · rw [List.getElem?_eq_none (by simpa using h')] at hi; simp at hi
            rw [List.getElem?_range hjn] at hi
            simp at hi; subst hi
            exact (hcell _ (cs[j]'(by omega)) (List.getElem?_eq_getElem _)).1
          · obtain ⟨h1, h2⟩ := take_get hj
            have h1 : cs[j]? = some v := by simpa using h1
            exact ⟨val j, by simp [h2], hval j v h1, (hcell j v h1).2.2⟩
        · simp at hv
      · rename_i hag
        have hag' : ag = false := by simpa using hag
        subst hag'
        obtain ⟨h1, h2, h3⟩ := hcell 0 v hv
        refine ⟨val 0, ?_, VR.sr (hval 0 v hv)⟩
        simp only [Instr.loadAt, Sem.run_bind, Instr.sureAddr, Sem.run_pure, Result.andThen_ok]
        exact run_loadVar_one ha (by simpa [Addr.add] using h1)
  | ptr id o =>
    cases (show VR k w (.ptr id o) x from hp) with
    | ptr _ _ b hb hid =>
      subst hb
      simp only [loadV] at hv
      split at hv
      · rename_i cs hg
        obtain ⟨c, e', hc, hl, hr⟩ := h.objCells hg
        simp only [Instr.loadAt, Sem.run_bind, Instr.sureAddr, Sem.run_pure, Result.andThen_ok]
        unfold takeV at hv
        split at hv
        · rename_i hag
          subst hag
          split at hv
          · rename_i hle
            simp at hv; subst hv
            have hs := hr.slice o n
            refine ⟨_, run_loadVar_cells (xs := ((c.toList.take cs.length).drop o).take n) hn ha (by simp; omega) (fun j y hj => ?_), VR.sr (VR.of_cells (by simpa using hs))⟩
            obtain ⟨h1, h2⟩ := take_get hj
            rw [List.getElem?_drop] at h1
            obtain ⟨h3, h4⟩ := take_get h1
            rw [addr_mk, cell_of_heap hc]
            simpa using h3
          · simp at hv
        · rename_i hag
          have hag' : ag = false := by simpa using hag
          subst hag'
          obtain ⟨y, hy, hr, _⟩ := hr.nth hv
          refine ⟨y, run_loadVar_one ha ?_, VR.sr hr⟩
          rw [cell_of_heap hc]
          simpa using (take_get hy).1
      · simp at hv
  | lptr s z o =>
    obtain ⟨rfl, hA, hl0, _⟩ := (show SR1 k w β A st.u (.lptr s z o) x from hp)
    simp only [loadV] at hv
    split at hv
    · rename_i cs hm
      · obtain ⟨_, _, c, e', hc, hl, hr⟩ := h.mem _ _ hm
        simp only [Instr.loadAt, Sem.run_bind, Instr.sureAddr, Sem.run_pure, Result.andThen_ok]
        unfold takeL at hv
        split at hv
        · rename_i hag
          subst hag
          split at hv
          · rename_i hle
            simp only [Option.map_eq_some_iff] at hv
            obtain ⟨l, hl', rfl⟩ := hv
            have hcr : CRs k w l ((c.toList.drop o).take n) := by
              refine outs_sr (β := β) (A := A) (u := st.u) hl' (by simp [hl]) (fun j v hj => ?_)
              obtain ⟨h1, h2⟩ := take_get hj
              rw [List.getElem?_drop] at h1
              obtain ⟨y, hy, hry, h1y⟩ := hr _ v h1
              refine ⟨y, by rw [List.getElem?_take, if_pos h2, List.getElem?_drop]; simpa using hy, ?_, h1y⟩
              by_cases hv' : ∀ vs, v ≠ .tuple vs
              · rw [SR.eq1 hv']; exact hry
              · cases v with
                | tuple vs => cases (show VR k w (.tuple vs) y from hry)
                | _ => exact absurd (fun vs => by simp) hv'
            refine ⟨_, run_loadVar_cells (xs := (c.toList.drop o).take n) hn ha (by simp; omega) (fun j y hj => ?_), VR.sr (VR.of_cells (by simpa using hcr))⟩
            obtain ⟨h1, h2⟩ := take_get hj
            rw [List.getElem?_drop] at h1
            rw [addr_mk, cell_of_heap hc]
            simpa using h1
          · simp at hv
        · rename_i hag
          have hag' : ag = false := by simpa using hag
          subst hag'
          obtain ⟨y, hy, hr, _⟩ := hr _ _ hv
          refine ⟨y, run_loadVar_one ha ?_, ?_⟩
          · rw [cell_of_heap hc]; exact hy
          · by_cases hv' : ∀ vs, v ≠ .tuple vs
            · rw [SR.eq1 hv']; exact hr
            · cases v with
              | tuple vs => cases (show VR k w (.tuple vs) y from hr)
              | _ => exact absurd (fun vs => by simp) hv'
    · simp at hv
  | _ => simp [loadV] at hv

/-- A pointer moved within what it points into. -/
theorem addP_sound {p q : V} {x : Value} {u : List Nat} (hp : SR k w β A u p x) {off : Nat} (hq : addP p off = some q) :
    ∃ ad, x = .pointer (some ad) ∧ SR k w β A u q (.pointer (some (ad.add off))) := by
  cases p with
  | iptr cs =>
    cases (show VR k w (.iptr cs) x from hp) with
    | iptr _ ad val hsp hcell hval =>
      simp only [addP] at hq
      split at hq
      · simp at hq; subst hq
        refine ⟨ad, rfl, VR.sr (.iptr _ _ (fun j => val (off + j)) (addr_add_spot _ _ hsp) (fun j v hj => ?_) (fun j v hj => ?_))⟩
        all_goals rw [List.getElem?_drop] at hj
        · rw [addr_add_add, addr_add_block]; exact hcell _ _ hj
        · exact hval _ _ hj
      · simp at hq
  | ptr id o =>
    cases (show VR k w (.ptr id o) x from hp) with
    | ptr _ _ b hb hid =>
      simp [addP] at hq; subst hq
      exact ⟨_, rfl, by rw [addr_mk]; exact VR.sr (.ptr id (o + off) b hb hid)⟩
  | lptr s z o =>
    obtain ⟨rfl, hA, hl, hc⟩ := (show SR1 k w β A u (.lptr s z o) x from hp)
    simp [addP] at hq; subst hq
    exact ⟨_, rfl, by rw [addr_mk]; exact ⟨rfl, hA, hl, hc⟩⟩
  | _ => simp [addP] at hq

theorem fad_sound {p q : V} {x : Value} {u : List Nat} (hp : SR k w β A u p x) {s : TypeId} {fs : Array Field} {i : Nat} {fd : Field} {n : Nat}
    (hs : P.underlying s = some (.struct fs)) (hf : fs[i]? = some fd) (hn : sizeT P fd.type = some n) (h0 : n ≠ 0) (hq : addP p fd.offset = some q) :
    ∃ y, (Instr.fieldAt s x i).run P w = .ok y w ∧ SR k w β A u q y := by
  obtain ⟨ad, rfl, hr⟩ := addP_sound hp hq
  refine ⟨_, ?_, hr⟩
  simp [Instr.fieldAt, run_underlying hs, hf, Instr.sureAddr, fieldPlace, run_sizeOf hn, h0]

theorem idxS_sound {p q : V} {x y : Value} {i : V} {u : List Nat} (hp : SR k w β A u p x) (hi : SR k w β A u i y) {t el : TypeId} {sz : Nat}
    (ht : P.underlying t = some (.slice el)) (hn : sizeT P el = some sz) (h0 : 0 < sz) (hq : idxSV p i sz = some q) :
    ∃ z, (Instr.indexAt t x y).run P w = .ok z w ∧ SR k w β A u q z := by
  unfold idxSV at hq
  split at hq
  · rename_i xs c kk n
    cases (show VR k w (.int kk n) y from hi)
    split at hq
    · rename_i hpos
      split at hq
      · rename_i ee hee
        split at hq
        · rename_i hlen
          simp at hq; subst hq
          have hp' := (SR.out (v' := .vec xs (match c with | .own _ => .any | c => c)) hp (by cases c <;> rfl))
          cases hp' with
          | vecNil => simp at hee
          | vec _ _ ad len cap sz' val hc hle hcap hfull hsz hcell hval =>
            have hszz : sz' = sz := by rw [← hsz _ _ hee, hlen]
            subst hszz
            have hilt : n.toNat < xs.length := by
              rcases Nat.lt_or_ge n.toNat xs.length with h' | h'
              · exact h'
              · rw [List.getElem?_eq_none h'] at hee; simp at hee
            refine ⟨.pointer (some (ad.add (n.toNat * sz'))), ?_, VR.sr (.iptr _ _ (fun j => val n.toNat j) ?_ (fun j v hj => ?_) (fun j v hj => hval _ _ _ _ hee hj))⟩
            · have hcond : 0 ≤ n ∧ n < (len : Int) := ⟨hpos, by omega⟩
              simp [Instr.indexAt, asIntOf, run_underlying ht, hcond, run_sizeOf hn]
            · have h1 := (hcell n.toNat ee 0 (ee.cells[0]'(by omega)) hee (List.getElem?_eq_getElem _)).1
              exact spot_of_cell h1
            · rw [addr_add_add, addr_add_block]
              exact hcell _ _ _ _ hee hj
        · simp at hq
      · simp at hq
    · simp at hq
  · rename_i id off len z kk n
    cases (show VR k w (.int kk n) y from hi)
    split at hq
    · rename_i hc
      obtain ⟨h1, h2, rfl⟩ := hc
      simp at hq; subst hq
      cases (show VR k w (.ref id off len z) x from hp) with
      | ref _ _ _ _ cap b hb hid hl hcap =>
        refine ⟨.pointer (some ⟨b, off + n.toNat * z, none⟩), ?_, VR.sr (.ptr _ _ b hb hid)⟩
        have hcond : 0 ≤ n ∧ n < (len : Int) := ⟨h1, h2⟩
        simp [Instr.indexAt, asIntOf, run_underlying ht, hcond, run_sizeOf hn, addr_mk]
    · simp at hq
  · simp at hq

theorem idxP_sound {p q : V} {x y : Value} {n : Int} {kk : IntKind} {u : List Nat} (hp : SR k w β A u p x) (hi : SR k w β A u (.int kk n) y) {t el : TypeId} {len sz : Nat}
    (ht : P.underlying t = some (.array len el)) (hn : sizeT P el = some sz) (hc : 0 ≤ n ∧ n < (len : Int)) (hq : addP p (n.toNat * sz) = some q) :
    ∃ z, (Instr.indexAt t x y).run P w = .ok z w ∧ SR k w β A u q z := by
  cases (show VR k w (.int kk n) y from hi)
  obtain ⟨ad, rfl, hr⟩ := addP_sound hp hq
  refine ⟨_, ?_, hr⟩
  simp [Instr.indexAt, asIntOf, run_underlying ht, Instr.sureAddr, hc, run_sizeOf hn]

/-- A part of an aggregate. -/
theorem part_sound {cs : List V} {xs : Array Value} {u : List Nat} (h : VR k w (.agg cs) (.agg xs)) {t : TypeId} {off n : Nat} {ag : Bool} {v : V}
    (hn : sizeT P t = some n) (ha : aggT P t = some ag) (hv : takeV cs off n ag = some v) : ∃ y, (part t xs off).run P w = .ok y w ∧ SR k w β A u v y := by
  have hcr : CRs k w cs xs.toList := h.cells
  unfold takeV at hv
  split at hv
  · rename_i hag
    subst hag
    split at hv
    · rename_i hle
      simp at hv; subst hv
      refine ⟨.agg (xs.extract off (off + n)), ?_, VR.sr (VR.of_cells ?_)⟩
      · simp [part, run_isAgg ha, run_sizeOf hn]
      · have := hcr.slice off n
        have he : (xs.extract off (off + n)).toList = (xs.toList.drop off).take n := by
          simp [Array.toList_extract, List.extract_eq_take_drop, List.drop_take]
        rw [he]; exact this
    · simp at hv
  · rename_i hag
    have hag' : ag = false := by simpa using hag
    subst hag'
    obtain ⟨y, hy, hr, _⟩ := hcr.nth hv
    have hy' : xs[off]? = some y := by simpa using hy
    exact ⟨y, by simp [part, run_isAgg ha, hy'], VR.sr hr⟩

end
end Go.Ab
