/- New blocks; lookups in maps; slices put together: and with them every reading of the layer Ab. -/
import Derived.Test.YtgfnhkedfmnijaaAb6
set_option linter.unusedVariables false
set_option linter.unusedSimpArgs false
namespace Go.Ab

def Ctx.setLim (k : Ctx) (b L : Nat) : Ctx := { k with lim := upd k.lim b L }

theorem upd_same {α : Type} (f : Nat → α) (a : Nat) (v : α) : upd f a v a = v := by simp [upd]
theorem upd_ne {α : Type} (f : Nat → α) {a b : Nat} (v : α) (h : b ≠ a) : upd f a v b = f b := by simp [upd, h]

theorem heap_alloc_lt {w : World} {o : Obj} {b : Nat} (h : b < w.heap.size) : (w.alloc o).heap[b]? = w.heap[b]? := by
  simp only [World.alloc, Array.getElem?_push]
  rw [if_neg (by omega)]
theorem heap_alloc_new {w : World} {o : Obj} : (w.alloc o).heap[w.heap.size]? = some o := by
  show (w.heap.push o)[w.heap.size]? = some o
  simp

theorem Keeps.alloc {k : Ctx} {w : World} (o : Obj) (L : Nat) : Keeps k (k.setLim w.heap.size L) w (w.alloc o) where
  nx := Nat.le_refl _
  om _ _ := rfl
  lim b hb := by simp [Ctx.setLim, upd_ne _ _ (Nat.ne_of_lt hb)]
  size := by simp
  cell a v h _ := by rw [World.cell?_alloc_lt _ _ _ (World.block_lt_of_cell? _ _ h)]; exact h
  rows b c e h := by
    have hb : b < w.heap.size := by
      rcases Nat.lt_or_ge b w.heap.size with h' | h'
      · exact h'
      · rw [Array.getElem?_eq_none h'] at h; simp at h
    exact ⟨c, by rw [heap_alloc_lt hb]; exact h, rfl⟩

theorem ORel.mono {k k' : Ctx} {w w' : World} {h : H} {o : O} {b : Option Obj} (hr : ORel k w h o b) (hk : Keeps k k' w w')
    (hm : ∀ m es ver, m < k.nx → h.objs m = some (.map es ver) → w'.heap[k.ω m]? = w.heap[k.ω m]?) : ORel k' w' h o b := by
  cases o with
  | cells cs =>
    obtain ⟨c, e, h1, h2, h3⟩ := hr
    exact ⟨c, e, h1, h2, h3.mono hk⟩
  | map es ver =>
    obtain ⟨en, clock, h1, h2, h3, h4, h5⟩ := hr
    exact ⟨en, clock, h1, h2, fun j a v hj => let ⟨e, p, q, r⟩ := h3 j a v hj; ⟨e, p, q.mono hk, r.mono hk⟩, h4, h5⟩
  | iter m ver seen =>
    obtain ⟨since, sb, stepped, h1, h2, h3⟩ := hr
    refine ⟨since, sb, stepped, by rw [hk.om m h2]; exact h1, Nat.lt_of_lt_of_le h2 hk.nx, fun es ver' en clock ho hw => ?_⟩
    rw [hk.om m h2, hm m _ _ h2 ho] at hw
    exact h3 es ver' en clock ho hw

section
variable {G : List (Nat × List V)} {N : Nat} {e : Entry} {k : Ctx} {β : Nat → Nat} {A : Nat → Prop} {st : S} {a : Act} {w : World} {P : Program} {u : List Nat}

theorem Stays.of {k' : Ctx} {w' : World} (hk : Keeps k k' w w') (hl : ∀ s, A s → k'.lim (β s) = k.lim (β s)) : Stays k k' w w' β β A A u u where
  keeps := hk
  beta s h := .inl h
  same _ _ := rfl
  used _ h := h
  lim s h _ := hl s h
  lim0 s h h0 := ⟨h, by rw [hl s h]; exact h0⟩

theorem Old.trans {h : H} {k' : Ctx} {w' : World} (ho : Old e k h w) (hk : Keeps k k' w w') (hl : ∀ b, b < e.w.heap.size → k'.lim b = k.lim b)
    (hs : ∀ b, b < e.w.heap.size → (∀ id o, e.h.objs id = some o → e.k.ω id ≠ b) → w'.heap[b]? = w.heap[b]?) {h' : H}
    (hsrc : ∀ (id : Nat) (o : O), h'.objs id = some o → k'.ω id < e.w.heap.size → ∃ id0 o0, h.objs id0 = some o0 ∧ k.ω id0 = k'.ω id)
    (hm : w'.tape = w.tape ∧ w'.os = w.os ∧ w'.output = w.output) : Old e k' h' w' where
  keeps := ho.keeps.trans hk
  lim b hb := (hl b hb).trans (ho.lim b hb)
  same b hb hn := (hs b hb hn).trans (ho.same b hb hn)
  src id o h1 h2 := by
    obtain ⟨id0, o0, h3, h4⟩ := hsrc id o h1 h2
    rw [← h4]
    exact ho.src id0 o0 h3 (by rw [h4]; exact h2)
  misc := ⟨hm.1.trans ho.misc.1, hm.2.1.trans ho.misc.2.1, hm.2.2.trans ho.misc.2.2⟩

/-- A new block that nobody knows of yet. -/
theorem FW.alloc' (h : FW G N e k β A st a w) (o : Obj) (L : Nat) : FW G N e (k.setLim w.heap.size L) β A st a (w.alloc o) := by
  have hk := Keeps.alloc (k := k) (w := w) o L
  have hlim : ∀ b, b < w.heap.size → (k.setLim w.heap.size L).lim b = k.lim b := fun b hb => by simp [Ctx.setLim, upd_ne _ _ (Nat.ne_of_lt hb)]
  have hst : Stays k (k.setLim w.heap.size L) w (w.alloc o) β β A A st.u st.u := Stays.of hk (fun s hs => hlim _ (h.alloc s hs).2.2.1)
  refine ⟨fun t => (h.slot t).mono hst, h.size, h.defers, fun s cs hm => ?_, fun s hs => ?_, h.ainj, h.res, ⟨h.wr.nx, fun id o' ho => ?_, h.wr.inj, fun g cells hg => (h.wr.glob g cells hg).mono hk⟩, ?_⟩
  · obtain ⟨h1, h2, c, e', h3, h4, h5⟩ := h.mem s cs hm
    have hb := (h.alloc s h1).2.2.1
    exact ⟨h1, by rw [hlim _ hb]; exact h2, c, e', by rw [heap_alloc_lt hb]; exact h3, h4, fun j v hj => let ⟨x, p, q, r⟩ := h5 j v hj; ⟨x, p, q.mono hst, r⟩⟩
  · obtain ⟨h1, h2, h3, h4⟩ := h.alloc s hs
    exact ⟨h1, h2, by simp; omega, h4⟩
  · obtain ⟨h1, h2, h3, h4⟩ := h.wr.obj id o' ho
    refine ⟨h1, by simp [Ctx.setLim]; omega, (hlim _ h2).trans h3, ?_⟩
    show ORel _ _ _ _ (w.alloc o).heap[k.ω id]?
    rw [heap_alloc_lt h2]
    exact h4.mono hk (fun m es ver hm ho' => heap_alloc_lt (h.wr.obj m _ ho').2.1)
  · exact h.old.trans hk (fun b hb => hlim b (Nat.lt_of_lt_of_le hb h.old.keeps.size)) (fun b hb _ => heap_alloc_lt (Nat.lt_of_lt_of_le hb h.old.keeps.size))
      (fun id o' ho _ => ⟨id, o', ho, rfl⟩) ⟨rfl, rfl, rfl⟩

theorem FW.drew (h : FW G N e k β A st a w) : FW G N e k β A st a { w with drawn := w.drawn + 1 } := by
  have hk : Keeps k k w { w with drawn := w.drawn + 1 } := ⟨Nat.le_refl _, fun _ _ => rfl, fun _ _ => Nat.le_refl _, Nat.le_refl _, fun _ _ h _ => h, fun b c e h => ⟨c, h, rfl⟩⟩
  have hst : Stays k k w { w with drawn := w.drawn + 1 } β β A A st.u st.u := Stays.of hk (fun _ _ => rfl)
  refine ⟨fun t => (h.slot t).mono hst, h.size, h.defers, fun s cs hm => ?_, h.alloc, h.ainj, h.res, ⟨h.wr.nx, fun id o' ho => ?_, h.wr.inj, fun g cells hg => (h.wr.glob g cells hg).mono hk⟩, ?_⟩
  · obtain ⟨h1, h2, c, e', h3, h4, h5⟩ := h.mem s cs hm
    exact ⟨h1, h2, c, e', h3, h4, fun j v hj => let ⟨x, p, q, r⟩ := h5 j v hj; ⟨x, p, q.mono hst, r⟩⟩
  · obtain ⟨h1, h2, h3, h4⟩ := h.wr.obj id o' ho
    exact ⟨h1, h2, h3, h4.mono hk (fun m es ver hm ho' => rfl)⟩
  · exact h.old.trans hk (fun b hb => rfl) (fun b hb _ => rfl) (fun id o' ho _ => ⟨id, o', ho, rfl⟩) ⟨rfl, rfl, rfl⟩

/-- The cells of 'len' zero values. -/
theorem flat_rep_get {z : List V} {n : Nat} (hz : z.length = n) (hn : 0 < n) : ∀ (len j : Nat) (v : V), ((List.replicate len z).flatten)[j]? = some v → j < len * n ∧ z[j % n]? = some v
  | 0, j, v, h => by simp at h
  | len + 1, j, v, h => by
    simp only [List.replicate_succ, List.flatten_cons, List.getElem?_append] at h
    split at h
    · rename_i hj
      rw [hz] at hj
      refine ⟨by rw [Nat.add_mul]; omega, ?_⟩
      rw [Nat.mod_eq_of_lt hj]; exact h
    · rename_i hj
      rw [hz] at hj h
      obtain ⟨h1, h2⟩ := flat_rep_get hz hn len (j - n) v h
      refine ⟨by rw [Nat.add_mul]; omega, ?_⟩
      rw [← h2, Nat.mod_eq_sub_mod (by omega)]

theorem flat_rep_len {α : Type} (z : List α) (len : Nat) : ((List.replicate len z).flatten).length = len * z.length := by
  induction len with
  | zero => simp
  | succ n ih => simp only [List.replicate_succ, List.flatten_cons, List.length_append, ih, Nat.add_mul]; omega

theorem zeros_sound {z : List V} {zx : Array Value} {n len : Nat} (hz : CRs k w z zx.toList) (hl : z.length = n) (hn : 0 < n) :
    CRs k w ((List.replicate len z).flatten) ((Array.range (len * n)).map (zx[· % zx.size]!)).toList := by
  have hzs : zx.size = n := by have := hz.1; simp at this; omega
  refine ⟨by simp [flat_rep_len, hl], fun j v hj => ?_⟩
  obtain ⟨h1, h2⟩ := flat_rep_get hl hn len j v hj
  obtain ⟨x, hx, hr⟩ := hz.2 _ v h2
  refine ⟨x, ?_, hr⟩
  have hx' : zx[j % n]? = some x := by simpa using hx
  simp only [Array.toList_map, List.getElem?_map, Array.toList_range, List.getElem?_range h1, Option.map_some, hzs]
  rw [getElem!_def, hx']

theorem chunk_get {ag : Bool} {sz : Nat} : ∀ {n : Nat} {cs : List V} {i : Nat} {x : V}, (chunk ag sz n cs)[i]? = some x → i < n ∧ x = mkEl ag ((cs.drop (i * sz)).take sz)
  | 0, cs, i, x, h => by simp [chunk] at h
  | n + 1, cs, i, x, h => by
    cases i with
    | zero => simp [chunk] at h; exact ⟨by omega, by simp [h]⟩
    | succ i =>
      simp only [chunk, List.getElem?_cons_succ] at h
      obtain ⟨h1, h2⟩ := chunk_get h
      refine ⟨by omega, ?_⟩
      rw [h2, List.drop_drop, Nat.add_mul, Nat.one_mul, Nat.add_comm sz]

theorem chunk_length {ag : Bool} {sz : Nat} : ∀ {n : Nat} {cs : List V}, (chunk ag sz n cs).length = n
  | 0, cs => rfl
  | n + 1, cs => by simp [chunk, chunk_length]

theorem CR.not_agg {v : V} {x : Value} (h : VR k w v x) (h1 : x.oneCell' = true) : ∀ cs, v ≠ .agg cs := by
  intro cs hv
  subst hv
  cases h
  simp [Value.oneCell'] at h1

/-- An element out of its cells. -/
theorem mkEl_cells {ag : Bool} {sz : Nat} {cs : List V} {xs : List Value} (h : CRs k w cs xs) (hl : cs.length = sz) (ho : oneT sz ag = true) : (mkEl ag cs).cells = cs := by
  cases ag with
  | true => rfl
  | false =>
    simp [oneT] at ho
    subst ho
    match cs, hl with
    | [c], _ =>
      obtain ⟨x, _, hr, h1⟩ := h.2 0 c rfl
      exact V.cells_of_not (CR.not_agg hr h1)

/-- A row of cells that lies in one block, from 'off' on, as a slice. -/
theorem vec_of_cells {cs : List V} {ag : Bool} {sz n : Nat} {c : Cap} {b off cap : Nat} {xs : List Value} (h : CRs k w cs xs) (hl : cs.length = n * sz) (ho : oneT sz ag = true) (hc : c.shared = true)
    (hcell : ∀ j x, xs[j]? = some x → w.cell? ⟨b, off + j, none⟩ = some x) (hlim : off + n * sz ≤ k.lim b) (hcap : n ≤ cap) (hf : c = .full → cap = n) :
    VR k w (.vec (chunk ag sz n cs) c) (.slice (some ⟨b, off, none⟩) n cap) := by
  have hin : ∀ (i j : Nat), i < n → j < sz → i * sz + j < n * sz := by
    intro i j hi hj
    have := Nat.mul_le_mul_right sz (show i + 1 ≤ n by omega)
    rw [Nat.add_mul, Nat.one_mul] at this
    omega
  have hsl : ∀ i, i < n → ((cs.drop (i * sz)).take sz).length = sz := by
    intro i hi
    have := Nat.mul_le_mul_right sz (show i + 1 ≤ n by omega)
    rw [Nat.add_mul, Nat.one_mul] at this
    simp; omega
  have hel : ∀ (i : Nat) (x : V), (chunk ag sz n cs)[i]? = some x → i < n ∧ x.cells = (cs.drop (i * sz)).take sz := by
    intro i x hx
    obtain ⟨hi, rfl⟩ := chunk_get hx
    exact ⟨hi, mkEl_cells (h.slice (i * sz) sz) (hsl i hi) ho⟩
  have hval : ∀ (i : Nat) (x : V) (j : Nat) (v : V), (chunk ag sz n cs)[i]? = some x → x.cells[j]? = some v → i < n ∧ j < sz ∧ cs[i * sz + j]? = some v := by
    intro i x j v hx hj
    obtain ⟨hi, hxc⟩ := hel i x hx
    rw [hxc] at hj
    obtain ⟨h1, h2⟩ := take_get hj
    rw [List.getElem?_drop] at h1
    exact ⟨hi, h2, h1⟩
  refine .vec _ c ⟨b, off, none⟩ n cap sz (fun i j => xs.getD (i * sz + j) undef) hc chunk_length.symm hcap hf ?_ ?_ ?_
  · intro i x hx
    obtain ⟨hi, hxc⟩ := hel i x hx
    rw [hxc]; exact hsl i hi
  · intro i x j v hx hj
    obtain ⟨hi, hjs, hv⟩ := hval i x j v hx hj
    obtain ⟨y, hy, _, h1⟩ := h.2 _ v hv
    have hg : xs.getD (i * sz + j) undef = y := by simp [List.getD, hy]
    rw [hg, addr_mk]
    refine ⟨hcell _ y hy, ?_, h1⟩
    have := hin i j hi hjs
    show off + (i * sz + j) < k.lim b
    omega
  · intro i x j v hx hj
    obtain ⟨hi, hjs, hv⟩ := hval i x j v hx hj
    obtain ⟨y, hy, hr, h1⟩ := h.2 _ v hv
    have hg : xs.getD (i * sz + j) undef = y := by simp [List.getD, hy]
    rw [hg]; exact hr

end
end Go.Ab
