/- What the operations of the layer Ab that change the store do is what the model's operations do (2): appends. -/
import Derived.Test.YtgfnhkedfmnijaaAb11
import Derived.Laws.Append
set_option linter.unusedVariables false
set_option linter.unusedSimpArgs false
namespace Go.Ab

section
variable {G : List (Nat × List V)} {N : Nat} {e : Entry} {k : Ctx} {β : Nat → Nat} {A : Nat → Prop} {st : S} {a : Act} {w : World} {P : Program} {u : List Nat} {hs : Hints} {o : Oper} {K : Ex → S → Prop}

theorem flat_get {sz : Nat} : ∀ {xs : List V}, (∀ e ∈ xs, e.cells.length = sz) → ∀ (i j : Nat) (e v : V), xs[i]? = some e → e.cells[j]? = some v → (xs.flatMap V.cells)[i * sz + j]? = some v
  | [], _, i, j, e, v, hi, _ => by simp at hi
  | x :: xs, h, i, j, e, v, hi, hj => by
    have hx := h x (by simp)
    cases i with
    | zero =>
      simp at hi; subst hi
      simp only [List.flatMap_cons, Nat.zero_mul, Nat.zero_add]
      rw [List.getElem?_append_left]
      · exact hj
      · rcases Nat.lt_or_ge j x.cells.length with h' | h'
        · exact h'
        · rw [List.getElem?_eq_none h'] at hj; simp at hj
    | succ i =>
      simp only [List.flatMap_cons]
      rw [List.getElem?_append_right (by rw [hx, Nat.add_mul]; omega), hx]
      have : (i + 1) * sz + j - sz = i * sz + j := by rw [Nat.add_mul]; omega
      rw [this]
      exact flat_get (fun e he => h e (List.mem_cons_of_mem _ he)) i j e v (by simpa using hi) hj

theorem flat_inv {sz : Nat} : ∀ {xs : List V}, (∀ e ∈ xs, e.cells.length = sz) → ∀ (p : Nat) (v : V), (xs.flatMap V.cells)[p]? = some v → ∃ i j e, xs[i]? = some e ∧ e.cells[j]? = some v ∧ p = i * sz + j ∧ j < sz
  | [], _, p, v, h => by simp at h
  | x :: xs, hx, p, v, h => by
    have hl := hx x (by simp)
    simp only [List.flatMap_cons, List.getElem?_append, hl] at h
    split at h
    · rename_i hp; exact ⟨0, p, x, rfl, h, by omega, hp⟩
    · rename_i hp
      obtain ⟨i, j, e, h1, h2, h3, h4⟩ := flat_inv (fun e he => hx e (List.mem_cons_of_mem _ he)) (p - sz) v h
      exact ⟨i + 1, j, e, by simpa using h1, h2, by rw [Nat.add_mul]; omega, h4⟩

theorem flat_len {sz : Nat} : ∀ {xs : List V}, (∀ e ∈ xs, e.cells.length = sz) → (xs.flatMap V.cells).length = xs.length * sz
  | [], _ => by simp
  | x :: xs, h => by
    simp only [List.flatMap_cons, List.length_append, List.length_cons, h x (by simp), flat_len (fun e he => h e (List.mem_cons_of_mem _ he)), Nat.add_mul]
    omega

/-- Elements whose cells lie side by side in one block. -/
theorem vec_of_flat {xs : List V} {sz : Nat} {c : Cap} {b off cap : Nat} {ys : List Value} (hsz : ∀ e ∈ xs, e.cells.length = sz) (h : CRs k w (xs.flatMap V.cells) ys) (hc : c.shared = true)
    (hcell : ∀ (j : Nat) (x : Value), ys[j]? = some x → w.cell? ⟨b, off + j, none⟩ = some x) (hlim : off + xs.length * sz ≤ k.lim b) (hcap : xs.length ≤ cap) (hf : c = .full → cap = xs.length) :
    VR k w (.vec xs c) (.slice (some ⟨b, off, none⟩) xs.length cap) := by
  refine .vec _ c ⟨b, off, none⟩ _ cap sz (fun i j => ys.getD (i * sz + j) undef) hc rfl hcap hf (fun i e he => hsz e (List.mem_of_getElem? he)) ?_ ?_
  · intro i x j v hx hj
    have hv := flat_get hsz i j x v hx hj
    obtain ⟨y, hy, _, h1⟩ := h.2 _ v hv
    have hg : ys.getD (i * sz + j) undef = y := by simp [List.getD, hy]
    rw [hg, addr_mk]
    refine ⟨hcell _ y hy, ?_, h1⟩
    have hlt : i * sz + j < (xs.flatMap V.cells).length := by
      rcases Nat.lt_or_ge (i * sz + j) (xs.flatMap V.cells).length with h' | h'
      · exact h'
      · rw [List.getElem?_eq_none h'] at hv; simp at hv
    rw [flat_len hsz] at hlt
    show off + (i * sz + j) < k.lim b
    omega
  · intro i x j v hx hj
    have hv := flat_get hsz i j x v hx hj
    obtain ⟨y, hy, hr, _⟩ := h.2 _ v hv
    have hg : ys.getD (i * sz + j) undef = y := by simp [List.getD, hy]
    rw [hg]; exact hr

/-- The cells of a slice's relation, flat. -/
theorem vec_flat {xs : List V} {c : Cap} {X : Value} (h : VR k w (.vec xs c) X) {sz : Nat} (hsz : ∀ e ∈ xs, e.cells.length = sz) :
    ∃ base cap, X = .slice base xs.length cap ∧ xs.length ≤ cap ∧ (c = .full → cap = xs.length) ∧ ∃ ys : List Value, CRs k w (xs.flatMap V.cells) ys ∧
      (∀ ad, base = some ad → ∀ (j : Nat) (x : Value), ys[j]? = some x → w.cell? (ad.add j) = some x ∧ (ad.add j).off < k.lim ad.block) ∧ (base = none → xs = []) := by
  cases h with
  | vecNil _ _ => exact ⟨none, 0, rfl, Nat.le_refl _, fun _ => rfl, [], ⟨rfl, by simp⟩, fun ad h => by simp at h, fun _ => rfl⟩
  | vec _ _ ad len cap sz' val hc hlen hcap hf hs hcell hval =>
    subst hlen
    have hss : xs ≠ [] → sz' = sz := by
      intro hne
      cases xs with
      | nil => exact absurd rfl hne
      | cons x xs => rw [← hs 0 x rfl, hsz x (by simp)]
    refine ⟨some ad, cap, rfl, hcap, hf, (List.range (xs.length * sz)).map fun p => val (p / sz) (p % sz), ⟨by simp [flat_len hsz], fun p v hp => ?_⟩, fun ad' had p x hp => ?_, fun h => by simp at h⟩
    · obtain ⟨i, j, x, h1, h2, h3, h4⟩ := flat_inv hsz p v hp
      have hne : xs ≠ [] := by intro h0; subst h0; simp at h1
      have := hss hne
      subst this
      have e1 : p / sz' = i := by rw [h3]; rw [Nat.mul_comm, Nat.mul_add_div (by omega)]; simp [Nat.div_eq_of_lt h4]
      have e2 : p % sz' = j := by rw [h3]; rw [Nat.mul_comm, Nat.mul_add_mod, Nat.mod_eq_of_lt h4]
      have hlt : p < xs.length * sz' := by
        rcases Nat.lt_or_ge p (xs.flatMap V.cells).length with h' | h'
        · rwa [flat_len hsz] at h'
        · rw [List.getElem?_eq_none h'] at hp; simp at hp
      refine ⟨val i j, by simp [hlt, e1, e2], hval i x j v h1 h2, (hcell i x j v h1 h2).2.2⟩
    · simp only [Option.some.injEq] at had; subst had
      simp only [List.getElem?_map, Option.map_eq_some_iff] at hp
      obtain ⟨q, hq, rfl⟩ := hp
      have hlt : p < xs.length * sz := by
        rcases Nat.lt_or_ge p (xs.length * sz) with h' | h'
        · exact h'
        · rw [List.getElem?_eq_none (by simpa using h')] at hq; simp at hq
      rw [List.getElem?_range hlt] at hq
      simp at hq; subst hq
      have hlt' : p < (xs.flatMap V.cells).length := by rw [flat_len hsz]; exact hlt
      obtain ⟨i, j, x, h1, h2, h3, h4⟩ := flat_inv hsz p _ (List.getElem?_eq_getElem hlt')
      have hne : xs ≠ [] := by intro h0; subst h0; simp at h1
      have := hss hne
      subst this
      have e1 : p / sz' = i := by rw [h3]; rw [Nat.mul_comm, Nat.mul_add_div (by omega)]; simp [Nat.div_eq_of_lt h4]
      have e2 : p % sz' = j := by rw [h3]; rw [Nat.mul_comm, Nat.mul_add_mod, Nat.mod_eq_of_lt h4]
      rw [e1, e2, h3]
      obtain ⟨q1, q2, _⟩ := hcell i x j _ h1 h2
      exact ⟨q1, q2⟩

theorem CRs.append {vs us : List V} {xs ys : List Value} (h : CRs k w vs xs) (h' : CRs k w us ys) : CRs k w (vs ++ us) (xs ++ ys) := by
  refine ⟨by simp [h.1, h'.1], fun j v hj => ?_⟩
  rw [List.getElem?_append] at hj
  split at hj
  · rename_i hlt
    obtain ⟨x, hx, hr⟩ := h.2 j v hj
    exact ⟨x, by rw [List.getElem?_append_left (by rw [h.1]; exact hlt)]; exact hx, hr⟩
  · rename_i hlt
    obtain ⟨x, hx, hr⟩ := h'.2 _ v hj
    exact ⟨x, by rw [List.getElem?_append_right (by rw [h.1]; omega), h.1]; exact hx, hr⟩

theorem chunk_flat {ag : Bool} {sz : Nat} (ho : oneT sz ag = true) : ∀ {n : Nat} {cs : List V} {xs : List Value}, CRs k w cs xs → cs.length = n * sz → (chunk ag sz n cs).flatMap V.cells = cs ∧ ∀ e ∈ chunk ag sz n cs, e.cells.length = sz
  | 0, cs, xs, h, hl => by
    have : cs = [] := by simpa using hl
    subst this
    exact ⟨rfl, by simp [chunk]⟩
  | n + 1, cs, xs, h, hl => by
    rw [Nat.add_mul, Nat.one_mul] at hl
    have h0 : (cs.take sz).length = sz := by simp; omega
    have hs0 : CRs k w (cs.take sz) (xs.take sz) := by simpa using h.slice 0 sz
    have hm := mkEl_cells hs0 h0 ho
    have hd : CRs k w (cs.drop sz) (xs.drop sz) := by
      refine ⟨by simp [h.1], fun j v hj => ?_⟩
      rw [List.getElem?_drop] at hj
      obtain ⟨x, hx, hr⟩ := h.2 _ v hj
      exact ⟨x, by rw [List.getElem?_drop]; exact hx, hr⟩
    obtain ⟨i1, i2⟩ := chunk_flat ho (n := n) hd (by simp; omega)
    refine ⟨by simp only [chunk, List.flatMap_cons, hm, i1, List.take_append_drop], fun e he => ?_⟩
    simp only [chunk, List.mem_cons] at he
    rcases he with rfl | he
    · rw [hm]; exact h0
    · exact i2 e he

theorem run_firstCells_list {sz n len cap : Nat} {ad : Addr} {ys : List Value} (hl : ys.length = n * sz) (h : ∀ (j : Nat) (x : Value), ys[j]? = some x → w.cell? (ad.add j) = some x) :
    (Builtin.firstCells sz n (.slice (some ad) len cap)).run P w = .ok ys.toArray w := by
  simp only [Builtin.firstCells]
  rw [← hl]
  exact run_loadCells_list w ad ys h

/-- What is appended, read. -/
theorem flat_sound (h : FW G N e k β A st a w) {y : V} {Y : Value} (hy : SR k w β A st.u y Y) {n sz : Nat} {cs : List V} (hl : lenV y = some n) (hf : flat st.h y = some cs) (hlen : cs.length = n * sz) (h0 : 0 < sz) :
    ∃ base cap, Y = .slice base n cap ∧ ∃ ys : List Value, CRs k w cs ys ∧ (Builtin.firstCells sz n Y).run P w = .ok ys.toArray w := by
  cases y with
  | vec xs c =>
    simp only [lenV, Option.some.injEq] at hl
    simp only [flat, Option.some.injEq] at hf
    subst hl; subst hf
    have hv := hy.vec
    have hsz : ∀ e ∈ xs, e.cells.length = sz := by
      cases hv with
      | vecNil _ _ => simp
      | vec _ _ ad len cap sz' val hc hle hcap hff hs hcell hval =>
        have hs' : ∀ e ∈ xs, e.cells.length = sz' := fun e he => by
          obtain ⟨i, hi, rfl⟩ := List.mem_iff_getElem.1 he
          exact hs i _ (List.getElem?_eq_getElem hi)
        have := flat_len hs'
        rw [hlen] at this
        intro e he
        have hpos : 0 < xs.length := by cases xs with | nil => simp at he | cons _ _ => simp
        have : sz = sz' := Nat.eq_of_mul_eq_mul_left hpos this
        rw [this]; exact hs' e he
    obtain ⟨base, cap, rfl, _, _, ys, hcr, hcell, hnil⟩ := vec_flat hv hsz
    refine ⟨base, cap, rfl, ys, hcr, ?_⟩
    cases base with
    | none =>
      have := hnil rfl
      subst this
      have : ys = [] := by simpa using hcr.1
      subst this
      simp [Builtin.firstCells]
    | some ad => exact run_firstCells_list (by rw [hcr.1, hlen]) (fun j x hj => (hcell ad rfl j x hj).1)
  | ref id off len z =>
    simp only [lenV, Option.some.injEq] at hl
    subst hl
    simp only [flat] at hf
    split at hf
    · rename_i cs0 hg
      simp only [Option.some.injEq] at hf; subst hf
      obtain ⟨c, e', hb, hcl, hcr⟩ := h.objCells hg
      cases (show VR k w (.ref id off len z) Y from hy) with
      | ref _ _ _ _ cap b hbb hid hlc hcap =>
        subst hbb
        have hs := hcr.slice off (len * z)
        refine ⟨_, cap, rfl, _, hs, run_firstCells_list (by rw [hs.1]; exact hlen) (fun j x hj => ?_)⟩
        obtain ⟨h1, _⟩ := take_get hj
        rw [List.getElem?_drop] at h1
        rw [addr_mk, cell_of_heap hb]
        simpa using (take_get h1).1
    · simp at hf
  | _ => simp [lenV] at hl

/-- The model's 'append', where it stays in place, and where it makes a new block. -/
theorem run_append {t0 t1 ty el : TypeId} {sz bytes n len cap : Nat} {ctypes : Array TypeId} {base : Option Addr} {Y : Value} {new old z : List Value} {zv : List V} (h0 : ctypes[0]? = some t0) (h1 : ctypes[1]? = some t1)
    (hu : P.underlying t0 = some (.slice el)) (hu1 : P.underlying t1 = some (.slice el)) (hn : sizeT P el = some sz) (hb : bytesT P el = some bytes) (hz : zeroT P el = some zv) (hzl : zv.length = sz)
    (hY : ∃ yb yc, Y = .slice yb n yc) (hnew : (Builtin.firstCells sz n Y).run P w = .ok new.toArray w) :
    (len + n ≤ cap → (Builtin.append_ ctypes ty #[.slice base len cap, Y]).run P w = (match base with | some ad => (storeCells (ad.add (len * sz)) new).run P w | none => .ok () w).andThen fun _ w' => .ok (.slice base (len + n) cap) w') ∧
    (cap < len + n → len + n ≤ 4294967296 → bytes ≤ 4096 → (∀ w1, w1.heap = w.heap → (Builtin.firstCells sz len (.slice base len cap)).run P w1 = .ok old.toArray w1) → (∀ w1, w1.heap = w.heap → (Builtin.firstCells sz n Y).run P w1 = .ok new.toArray w1) →
      ∃ newCap rest, len + n ≤ newCap ∧ rest.size = (newCap - (len + n)) * sz ∧
        (Builtin.append_ ctypes ty #[.slice base len cap, Y]).run P w = .ok (.slice (some ⟨w.heap.size, 0, none⟩) (len + n) newCap) (({ w with drawn := w.drawn + 1 } : World).alloc (.cells ((old.toArray ++ new.toArray) ++ rest) el))) := by
  obtain ⟨yb, yc, rfl⟩ := hY
  obtain ⟨i, hi, hib⟩ := run_bytesOf (P := P) (w := w) hb
  obtain ⟨zx, hzr, hzc⟩ := zeroT_sound (P := P) (w := w) (k := ⟨fun _ => 0, fun _ => 0, 0⟩) hz
  have hzs : zx.cells.size = sz := by have := hzc.1; simp at this; omega
  have g0 : ∀ (X Y : Value), (#[X, Y] : Array Value)[0]? = some X := fun _ _ => rfl
  have g1 : ∀ (X Y : Value), (#[X, Y] : Array Value)[1]? = some Y := fun _ _ => rfl
  constructor
  · intro hle
    simp only [Builtin.append_, h0, h1, g0, g1, Sem.run_bind, run_underlying hu, run_underlying hu1, Result.andThen_ok, run_sizeOf hn, Sem.run_pure, Builtin.lenOf, Bool.false_eq_true, if_false, if_pos hle, Bool.not_false, if_true, hnew]
    cases base with
    | none => rfl
    | some ad => simp only [List.toList_toArray, Sem.run_bind, Sem.run_pure]
  · intro hgt hmost hbt hold hnew1
    have hinfo : ∃ i, (typeInfo el).run P w = .ok i w ∧ i.bytes = bytes := ⟨i, hi, hib⟩
    have c1 : ¬ (((len + n : Nat) : Int) > IntKind.i64.max ∧ (False ∨ i.bytes = 0)) := by
      have : IntKind.i64.max = 9223372036854775807 := by decide
      rw [this]; omega
    have c2 : ¬ (Builtin.nextslicecap (len + n) cap * i.bytes > 2 ^ 48) := by
      have hg := growslice_fits (need := len + n) (old := cap) (bytes := bytes) hgt (by
        have := Nat.mul_le_mul hmost hbt
        omega)
      rw [hib]; omega
    let t := w.tape w.drawn (.appendCap (len + n) cap el)
    let newCap := len + n + t % (2 ^ 63 - (len + n))
    refine ⟨newCap, Builtin.zeroCells zx.cells (newCap - (len + n)), Nat.le_add_right _ _, by simp [Builtin.zeroCells, hzs], ?_⟩
    have hch : (choose (.appendCap (len + n) cap el)).run P w = .ok newCap { w with drawn := w.drawn + 1 } := by
      simp [run_choose, Question.forced, Question.cut, newCap, t]
    obtain ⟨i', hi', hib'⟩ := run_bytesOf (P := P) (w := ({ w with drawn := w.drawn + 1 } : World)) hb
    obtain ⟨zx', hzr', _⟩ := zeroT_sound (P := P) (w := ({ w with drawn := w.drawn + 1 } : World)) (k := ⟨fun _ => 0, fun _ => 0, 0⟩) hz
    have hzz : zx' = zx := by
      unfold zeroT at hz
      obtain ⟨i2, hi2, hz⟩ := bindS hz
      obtain ⟨x2, hx2, hz⟩ := bindS hz
      have e1 : (zeroValue el).run P w = .ok x2 w := by simp [zeroValue, typeInfo, hi2, hx2]
      have e2 : (zeroValue el).run P ({ w with drawn := w.drawn + 1 } : World) = .ok x2 { w with drawn := w.drawn + 1 } := by simp [zeroValue, typeInfo, hi2, hx2]
      rw [e1] at hzr; rw [e2] at hzr'
      simp only [Result.ok.injEq] at hzr hzr'
      rw [← hzr.1, ← hzr'.1]
    subst hzz
    have ho := hold { w with drawn := w.drawn + 1 } rfl
    have hn1 := hnew1 { w with drawn := w.drawn + 1 } rfl
    simp only [Builtin.append_, h0, h1, g0, g1, Sem.run_bind, run_underlying hu, run_underlying hu1, Result.andThen_ok, run_sizeOf hn, Sem.run_pure, Builtin.lenOf, Bool.false_eq_true, if_false, if_neg (show ¬ len + n ≤ cap by omega), hi, if_neg c1, if_neg c2,
      hch, run_askRoom, hi', ho, Bool.not_false, if_true, hn1, hzr', newRow, run_newObj]
    rfl

end
end Go.Ab
