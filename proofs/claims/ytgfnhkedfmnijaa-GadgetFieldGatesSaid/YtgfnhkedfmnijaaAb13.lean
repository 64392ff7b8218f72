/- What the operations of the layer Ab that change the store do is what the model's operations do (3): appends in the frame's relation. -/
import Derived.Test.YtgfnhkedfmnijaaAb12
set_option linter.unusedVariables false
set_option linter.unusedSimpArgs false
namespace Go.Ab

section
variable {G : List (Nat × List V)} {N : Nat} {e : Entry} {k : Ctx} {β : Nat → Nat} {A : Nat → Prop} {st : S} {a : Act} {w : World} {P : Program} {u : List Nat} {hs : Hints} {o : Oper} {K : Ex → S → Prop}

def useCap (c : Cap) (u : List Nat) : List Nat :=
  match c with
  | .own s => s :: u
  | _ => u

/-- What is appended reads the same in every world with that heap. -/
theorem firstCells_same (h : FW G N e k β A st a w) {y : V} {yb : Option Addr} {yc : Nat} {n sz : Nat} {cs : List V} {new : List Value} (hy : SR k w β A st.u y (.slice yb n yc))
    (hl : lenV y = some n) (hf : flat st.h y = some cs) (hlen : cs.length = n * sz) (hn0 : n ≠ 0) (hnrun : (Builtin.firstCells sz n (.slice yb n yc)).run P w = .ok new.toArray w) :
    ∀ w1 : World, w1.heap = w.heap → (Builtin.firstCells sz n (.slice yb n yc)).run P w1 = .ok new.toArray w1 := by
  intro w1 hw1
  cases yb with
  | none =>
    simp only [Builtin.firstCells, Sem.run_pure, Result.ok.injEq] at hnrun ⊢
    exact ⟨hnrun.1, trivial⟩
  | some b =>
    cases y with
    | vec ys c' =>
      have hlv : ys.length = n := by simpa [lenV] using hl
      have hfv : ys.flatMap V.cells = cs := by simpa [flat] using hf
      have hys : ∀ e ∈ ys, e.cells.length = sz := by
        intro e he
        have hv := hy.vec
        cases hv with
        | vec _ _ ad len cap sz' val hc hle hcap hff hs hcell hval =>
          have hs' : ∀ e ∈ ys, e.cells.length = sz' := fun e he => by
            obtain ⟨i, hi, rfl⟩ := List.mem_iff_getElem.1 he
            exact hs i _ (List.getElem?_eq_getElem hi)
          have h7 := flat_len hs'
          rw [hfv, hlen, hlv] at h7
          have : sz = sz' := Nat.eq_of_mul_eq_mul_left (by omega) h7
          rw [this]; exact hs' e he
      obtain ⟨base2, cap2, heq, _, _, ys2, hcr2, hcell2, _⟩ := vec_flat hy.vec hys
      simp only [Value.slice.injEq] at heq
      obtain ⟨hb2, _, _⟩ := heq
      have hcells := hcell2 b hb2.symm
      have hy2l : ys2.length = n * sz := by rw [hcr2.1, hfv, hlen]
      have r1 := run_firstCells_list (P := P) (w := w) (len := n) (cap := yc) hy2l (fun j x hj => (hcells j x hj).1)
      rw [r1] at hnrun
      simp only [Result.ok.injEq, and_true] at hnrun
      rw [← hnrun]
      exact run_firstCells_list hy2l (fun j x hj => by
        have := (hcells j x hj).1
        simpa [World.cell?, hw1] using this)
    | ref id off len z =>
      simp only [lenV, Option.some.injEq] at hl
      subst hl
      simp only [flat] at hf
      split at hf
      · rename_i cs0 hg
        simp only [Option.some.injEq] at hf; subst hf
        obtain ⟨c', e', hb', hcl, hcr⟩ := h.objCells hg
        have hy' : VR k w (.ref id off len z) (.slice (some b) len yc) := hy
        cases hy' with
        | ref _ _ _ _ cap2 b2 hbb hid hlc hcap2 =>
          subst hbb
          have hs2 := hcr.slice off (len * z)
          have hy2l : (((c'.toList.take cs0.length).drop off).take (len * z)).length = len * sz := by rw [hs2.1]; exact hlen
          have r1 := run_firstCells_list (P := P) (w := w) (len := len) (cap := yc) (ad := ⟨k.ω id, off, none⟩) hy2l (fun j x hj => by
            obtain ⟨h1, _⟩ := take_get hj
            rw [List.getElem?_drop] at h1
            rw [addr_mk, cell_of_heap hb']
            simpa using (take_get h1).1)
          rw [r1] at hnrun
          simp only [Result.ok.injEq, and_true] at hnrun
          rw [← hnrun]
          exact run_firstCells_list hy2l (fun j x hj => by
            obtain ⟨h1, _⟩ := take_get hj
            rw [List.getElem?_drop] at h1
            rw [addr_mk]
            have : w1.cell? ⟨k.ω id, off + j, none⟩ = w.cell? ⟨k.ω id, off + j, none⟩ := by simp [World.cell?, hw1]
            rw [this, cell_of_heap hb']
            simpa using (take_get h1).1)
      · simp at hf
    | _ => simp [lenV] at hl

/-- 'append' to a slice that is a list of elements. -/
theorem app_vec (h : FW G N e k β A st a w) {xs : List V} {c : Cap} {y : V} {X Y : Value} (hx : SR k w β A st.u (.vec xs c) X) (hy : SR k w β A st.u y Y) {n sz bytes : Nat} {ag : Bool} {cs : List V}
    (hl : lenV y = some n) (hf : flat st.h y = some cs) (hlen : cs.length = n * sz) (h0 : 0 < sz) (ho : oneT sz ag = true) (hbt : bytes ≤ 4096) (hm : xs.length + n ≤ 4294967296) (hsz : ∀ e ∈ xs, e.cells.length = sz) (hn0 : n ≠ 0)
    {t0 t1 ty el : TypeId} {ctypes : Array TypeId} {zv : List V} (c0 : ctypes[0]? = some t0) (c1 : ctypes[1]? = some t1) (hu : P.underlying t0 = some (.slice el)) (hu1 : P.underlying t1 = some (.slice el))
    (hn : sizeT P el = some sz) (hb : bytesT P el = some bytes) (hz : zeroT P el = some zv) (hzl : zv.length = sz) (hd : ∀ t, o.dst = some t → t < N)
    (hcap : c = .full ∨ ∃ s, c = .own s ∧ s ∉ st.u) :
    ∃ w' R, (Builtin.append_ ctypes ty #[X, Y]).run P w = .ok R w' ∧
      Inv G N e ({ st with u := useCap c st.u }.put o.dst (.vec (xs ++ chunk ag sz n cs) (.own st.n))).tick (a.put o.dst R) w' := by
  obtain ⟨yb, yc, rfl, new, hnew, hnrun⟩ := flat_sound (P := P) h hy hl hf hlen h0
  obtain ⟨base, cap, rfl, hcle, hfull, old, hold, hocell, honil⟩ := vec_flat hx.vec hsz
  have hnl : new.length = n * sz := by rw [hnew.1, hlen]
  have hol : old.length = xs.length * sz := by rw [hold.1, flat_len hsz]
  obtain ⟨hc1, hc2⟩ := chunk_flat ho hnew hlen
  have hall : ∀ e ∈ xs ++ chunk ag sz n cs, e.cells.length = sz := by
    intro e he
    rcases List.mem_append.1 he with he | he
    · exact hsz e he
    · exact hc2 e he
  have hlen2 : (xs ++ chunk ag sz n cs).length = xs.length + n := by simp [chunk_length]
  have hne2 : xs ++ chunk ag sz n cs ≠ [] := by
    intro h9
    have := congrArg List.length h9
    rw [hlen2] at this; simp at this; omega
  have hocell' : ∀ w1 : World, w1.heap = w.heap → (Builtin.firstCells sz xs.length (.slice base xs.length cap)).run P w1 = .ok old.toArray w1 := by
    intro w1 hw1
    cases base with
    | none =>
      have := honil rfl
      subst this
      have : old = [] := by simpa using hol
      subst this
      simp [Builtin.firstCells]
    | some ad => exact run_firstCells_list hol (fun j x hj => by
        have := (hocell ad rfl j x hj).1
        simpa [World.cell?, hw1] using this)
  have hncell := firstCells_same (P := P) h hy hl hf hlen hn0 hnrun
  obtain ⟨happ1, happ2⟩ := run_append (P := P) (w := w) (ty := ty) (len := xs.length) (cap := cap) (base := base) (old := old) (z := []) c0 c1 hu hu1 hn hb hz hzl ⟨yb, yc, rfl⟩ hnrun
  by_cases hin : xs.length + n ≤ cap
  · -- in place
    rcases hcap with hc | ⟨s, hc, hsu⟩
    · have := hfull (capOut_full hc); omega
    · subst hc
      obtain ⟨hA, ad, cap', sz', heq, hblk, hspot, hszp, hne, hall', hend, hck⟩ := hx.2 hsu
      simp only [Value.slice.injEq, true_and] at heq
      obtain ⟨rfl, hcc⟩ := heq
      subst hcc
      have hss : sz' = sz := by
        cases xs with
        | nil => exact absurd rfl hne
        | cons x xs => rw [← hall' x (by simp), hsz x (by simp)]
      subst hss
      obtain ⟨cb, eb, hcb, hsize⟩ := hck
      have hadd : ad.add (xs.length * sz') = ⟨β s, ad.off + xs.length * sz', none⟩ := by rw [addr_eq _ _ hspot, hblk]
      have hmul : (xs.length + n) * sz' ≤ cap * sz' := Nat.mul_le_mul_right _ hin
      rw [Nat.add_mul] at hmul
      obtain ⟨w', r1, r2, cb', r3, r4, r5⟩ := run_storeCells (P := P) new w (β s) (ad.off + xs.length * sz') 0 cb eb hcb (by omega) (fun v hv => by
        obtain ⟨j, hj, rfl⟩ := List.mem_iff_getElem.1 hv
        obtain ⟨x, hx, _, h1⟩ := hnew.2 j (cs[j]'(by rw [← hnew.1]; exact hj)) (List.getElem?_eq_getElem _)
        rw [List.getElem?_eq_getElem hj] at hx
        simp only [Option.some.injEq] at hx
        rw [hx]; exact h1)
      have hlimpos : 0 < k.lim (β s) := by
        rw [← hend]
        have : 0 < xs.length := by cases xs with | nil => exact absurd rfl hne | cons _ _ => simp
        have := Nat.mul_pos this hszp
        omega
      obtain ⟨hk, hfw⟩ := h.growOwn (s := s) (L := ad.off + (xs.length + n) * sz') (w' := w') hA (by rw [← hend, Nat.add_mul]; omega) hlimpos r2 (row_of hcb r3 r4) (fun i v hi hv => by
        rw [cell_of_heap hcb] at hv
        rw [cell_of_heap r3, r5, if_neg (by omega)]
        exact hv)
      have hallo := h.alloc s hA
      obtain ⟨hst, hfw2⟩ := hfw.stampNew (b := β s) hallo.2.1 (by rw [r2.size]; exact hallo.2.2.1) hallo.2.2.2 (fun s' hs' heq => hs'.2 (h.ainj s' s hs'.1 hA heq))
      have hvr : VR (k.setLim (β s) (ad.off + (xs.length + n) * sz')) w' (.vec (xs ++ chunk ag sz' n cs) .any) (.slice (some ⟨β s, ad.off, none⟩) (xs ++ chunk ag sz' n cs).length cap) := by
        refine vec_of_flat (ys := old ++ new) hall (by rw [List.flatMap_append, hc1]; exact (hold.mono hk).append (hnew.mono hk)) rfl (fun j x hj => ?_) (by simp only [Ctx.setLim, upd_same, hlen2]; exact Nat.le_refl _) (by rw [hlen2]; exact hin) (by simp)
        rw [List.getElem?_append] at hj
        rw [cell_of_heap r3, r5]
        split at hj
        · rename_i hlt
          rw [hol] at hlt
          rw [if_neg (by omega)]
          have h1 := (hocell ad rfl j x hj).1
          rw [addr_eq _ _ hspot, hblk, cell_of_heap hcb] at h1
          exact h1
        · rename_i hlt
          rw [hol] at hlt hj
          have hjl : j - xs.length * sz' < new.length := by
            rcases Nat.lt_or_ge (j - xs.length * sz') new.length with h' | h'
            · exact h'
            · rw [List.getElem?_eq_none h'] at hj; simp at hj
          rw [if_pos ⟨by omega, by omega⟩]
          have : ad.off + j - (ad.off + xs.length * sz' + 0) = j - xs.length * sz' := by omega
          rw [this]; exact hj
      have hade : (some ad : Option Addr) = some ⟨β s, ad.off, none⟩ := by
        congr 1; cases ad; simp only at hblk hspot; subst hblk; subst hspot; rfl
      refine ⟨w', .slice (some ad) (xs.length + n) cap, by rw [happ1 hin]; simp only [hadd, r1, Result.andThen_ok], ?_⟩
      rw [put_tick]
      refine (hfw2.put hd ?_).inv
      rw [hlen2] at hvr
      rw [hade]
      refine ⟨VR.mono hvr hst.keeps, fun _ => ⟨.inr rfl, ⟨β s, ad.off, none⟩, cap, sz', by rw [hlen2], by simp [upd_same], rfl, hszp, hne2, hall, by simp only [Ctx.setLim, upd_same, hlen2], ?_⟩⟩
      rw [upd_same]
      exact ⟨cb', eb, r3, by rw [r4]; exact hsize⟩
  · -- a new block
    obtain ⟨newCap, rest, hge, hrest, hrun⟩ := happ2 (by omega) hm hbt hocell' hncell
    refine ⟨_, _, hrun, ?_⟩
    have h1 := h.drew
    have hku : Keeps k k w ({ w with drawn := w.drawn + 1 } : World) := ⟨Nat.le_refl _, fun _ _ => rfl, fun _ _ => Nat.le_refl _, Nat.le_refl _, fun _ _ h _ => h, fun b c e h => ⟨c, h, rfl⟩⟩
    -- the right that is used up, if there was one
    have h2 : ∃ A', FW G N e k β A' { st with u := useCap c st.u } a ({ w with drawn := w.drawn + 1 } : World) ∧ (∀ s, A' s → A s) := by
      rcases hcap with hc | ⟨s, hc, hsu⟩
      · subst hc; exact ⟨A, h1, fun _ h => h⟩
      · subst hc
        obtain ⟨hA, ad, cap', sz', heq, hblk, hspot, hszp, hne, hall', hend, hck⟩ := hx.2 hsu
        have hlimpos : 0 < k.lim (β s) := by
          rw [← hend]
          have : 0 < xs.length := by cases xs with | nil => exact absurd rfl hne | cons _ _ => simp
          have := Nat.mul_pos this hszp
          omega
        obtain ⟨_, hfw⟩ := h1.growOwn (s := s) (L := k.lim (β s)) (w' := { w with drawn := w.drawn + 1 }) hA (Nat.le_refl _) hlimpos (.refl _ _) (fun c e hb => ⟨c, hb, rfl⟩) (fun i v _ hv => hv)
        have he : k.setLim (β s) (k.lim (β s)) = k := by
          have : upd k.lim (β s) (k.lim (β s)) = k.lim := by funext b; simp only [upd]; split <;> simp_all
          simp only [Ctx.setLim, this]
        rw [he] at hfw
        exact ⟨_, hfw, fun _ h => h.1⟩
    obtain ⟨A', h2, hAA⟩ := h2
    have h3 := h2.alloc' (.cells ((old.toArray ++ new.toArray) ++ rest) el) ((xs.length + n) * sz)
    obtain ⟨hst, h4⟩ := h3.stampNew (b := w.heap.size) h.old.keeps.size (by simp) (fun id q hq => Nat.ne_of_lt (h.wr.obj id q hq).2.1) (fun s hs => Nat.ne_of_lt (h.alloc s (hAA s hs)).2.2.1)
    have hk3 : Keeps k (k.setLim w.heap.size ((xs.length + n) * sz)) w (({ w with drawn := w.drawn + 1 } : World).alloc (.cells ((old.toArray ++ new.toArray) ++ rest) el)) := hku.trans (Keeps.alloc (w := ({ w with drawn := w.drawn + 1 } : World)) _ _)
    have hnb : (({ w with drawn := w.drawn + 1 } : World).alloc (.cells ((old.toArray ++ new.toArray) ++ rest) el)).heap[w.heap.size]? = some (.cells ((old.toArray ++ new.toArray) ++ rest) el (0, 0)) := heap_alloc_new (w := ({ w with drawn := w.drawn + 1 } : World))
    have hvr : VR (k.setLim w.heap.size ((xs.length + n) * sz)) (({ w with drawn := w.drawn + 1 } : World).alloc (.cells ((old.toArray ++ new.toArray) ++ rest) el)) (.vec (xs ++ chunk ag sz n cs) .any) (.slice (some ⟨w.heap.size, 0, none⟩) (xs ++ chunk ag sz n cs).length newCap) := by
      refine vec_of_flat (ys := old ++ new) hall (by rw [List.flatMap_append, hc1]; exact (hold.mono hk3).append (hnew.mono hk3)) rfl (fun j x hj => ?_) (by simp only [Ctx.setLim, upd_same, hlen2]; omega) (by rw [hlen2]; exact hge) (by simp)
      rw [cell_of_heap hnb, Nat.zero_add]
      have hjl : j < old.length + new.length := by
        rcases Nat.lt_or_ge j (old ++ new).length with h' | h'
        · simpa using h'
        · rw [List.getElem?_eq_none h'] at hj; simp at hj
      rw [Array.getElem?_append_left (by simpa using hjl)]
      rw [← Array.getElem?_toList]
      simpa using hj
    rw [put_tick]
    refine (h4.put hd ?_).inv
    rw [hlen2] at hvr
    refine ⟨VR.mono hvr hst.keeps, fun _ => ⟨.inr rfl, ⟨w.heap.size, 0, none⟩, newCap, sz, by rw [hlen2], by simp [upd_same], rfl, h0, hne2, hall, by simp only [Ctx.setLim, upd_same, hlen2]; omega, ?_⟩⟩
    rw [upd_same]
    refine ⟨_, el, hnb, ?_⟩
    simp only [Array.size_append, List.size_toArray, hol, hnl, hrest]
    rw [Nat.sub_mul, Nat.zero_add]
    have := Nat.mul_le_mul_right sz hge
    rw [Nat.add_mul] at *
    omega

end
end Go.Ab
