/- What the operations of the layer Ab that change the store do is what the model's operations do (4): objects, boxes, calls, panics. -/
import Derived.Test.YtgfnhkedfmnijaaAb13
import Derived.IntWalk
set_option linter.unusedVariables false
set_option linter.unusedSimpArgs false
namespace Go.Ab

/-- A call's result, out of the callee's frame: block 'b' is the one that a right to append speaks of. -/
def RR1 (k : Ctx) (w : World) (b : Nat) : V → Value → Prop
  | .vec xs (.own _), x => VR k w (.vec xs .any) x ∧ OwnOK k w (fun _ => b) (fun _ => True) 0 xs x
  | v, x => VR k w v x

def RR (k : Ctx) (w : World) (b : Nat) : V → Value → Prop
  | .tuple vs, x => ∃ xs : Array Value, x = .tuple xs ∧ xs.size = vs.length ∧ ∀ (j : Nat) (v : V), vs[j]? = some v → ∃ y, xs[j]? = some y ∧ RR1 k w b v y
  | v, x => RR1 k w b v x

def isOwn : V → Bool
  | .vec _ (.own _) => true
  | _ => false

def hasOwn : V → Bool
  | .tuple vs => vs.any isOwn
  | v => isOwn v

def Fresh (base : Nat) (k : Ctx) (h : H) (w : World) (b : Nat) : Prop :=
  base ≤ b ∧ b < w.heap.size ∧ ∀ id o, h.objs id = some o → k.ω id ≠ b

def CallPost (G : List (Nat × List V)) (k : Ctx) (h : H) (w : World) (o : Out) (h' : H) (en : Ending) (w' : World) : Prop :=
  ∃ k', WR k' h' w' G ∧ Old ⟨k, h, w, fun _ => False⟩ k' h' w' ∧ match o with
    | .ret v => ∃ x b, en = .returned x ∧ (hasOwn v = true → Fresh w.heap.size k' h' w' b) ∧ RR k' w' b v x
    | .pan v => ∃ x, en = .panicked [{ v := x, recovered := false }] ∧ VR k' w' v x

def ArgsOK (k : Ctx) (w : World) (args : List V) (xs : Array Value) : Prop :=
  xs.size = args.length ∧ ∀ (j : Nat) (v : V), args[j]? = some v → ∃ x, xs[j]? = some x ∧ VR k w v x

def GoodFn (P : Program) (f : FuncId) : Prop := ∃ fn, P.funcs[f]? = some fn ∧ fn.body.isSome = true ∧ fn.name ≠ "runtime.NumGoroutine"

/-- A meaning of calls that the model's calls bear out. -/
def CallOK (P : Program) (G : List (Nat × List V)) (call : CallT) : Prop :=
  ∀ f args h K, call f args h K → GoodFn P f ∧ ∀ k w xs, WR k h w G → ArgsOK k w args xs → Calls P f xs w fun en w' => ∃ o h', K o h' ∧ CallPost G k h w o h' en w'

section
variable {G : List (Nat × List V)} {N : Nat} {e : Entry} {k : Ctx} {β : Nat → Nat} {A : Nat → Prop} {st : S} {a : Act} {w : World} {P : Program} {u : List Nat} {hs : Hints} {o : Oper} {K : Ex → S → Prop}

/-- 'append' to a slice that lies in an object. -/
theorem app_obj (h : FW G N e k β A st a w) {x y : V} {X Y : Value} (hx : SR k w β A st.u x X) (hy : SR k w β A st.u y Y) {n sz bytes len : Nat} {cs oldv : List V} {hnew' : H}
    (hl : lenV y = some n) (hf : flat st.h y = some cs) (hlen : cs.length = n * sz) (h0 : 0 < sz) (hbt : bytes ≤ 4096) (hm : len + n ≤ 4294967296) (hn0 : 0 < n)
    {t0 t1 ty el : TypeId} {ctypes : Array TypeId} {zv : List V} (c0 : ctypes[0]? = some t0) (c1 : ctypes[1]? = some t1) (hu : P.underlying t0 = some (.slice el)) (hu1 : P.underlying t1 = some (.slice el))
    (hn : sizeT P el = some sz) (hb : bytesT P el = some bytes) (hz : zeroT P el = some zv) (hzl : zv.length = sz) (hd : ∀ t, o.dst = some t → t < N)
    (hcase : (x = .vec [] .full ∧ len = 0 ∧ oldv = [] ∧ hnew' = st.h.new (.cells cs)) ∨ (∃ id, x = .ref id 0 len sz ∧ st.h.get id = some oldv ∧ oldv.length = len * sz ∧ hnew' = st.h.move id (.cells (oldv ++ cs)))) :
    ∃ w' R, (Builtin.append_ ctypes ty #[X, Y]).run P w = .ok R w' ∧
      Inv G N e ((st.withH hnew').put o.dst (.ref st.h.next 0 (len + n) sz)).tick (a.put o.dst R) w' := by
  obtain ⟨yb, yc, rfl, new, hnew, hnrun⟩ := flat_sound (P := P) h hy hl hf hlen h0
  have hnl : new.length = n * sz := by rw [hnew.1, hlen]
  have hncell := firstCells_same (P := P) h hy hl hf hlen (by omega) hnrun
  have hnx : k.nx = st.h.next := h.wr.nx
  rcases hcase with ⟨rfl, rfl, rfl, rfl⟩ | ⟨id, rfl, hg, hol, rfl⟩
  · obtain ⟨base, rfl⟩ : ∃ base, X = .slice base 0 0 := by
      have hx' : VR k w (.vec [] .full) X := hx
      cases hx' with
      | vecNil _ _ => exact ⟨none, rfl⟩
      | vec _ _ ad len cap sz' val hc hle hcap hff hs hcell hval =>
        have := hff rfl
        subst this
        simp at hle; subst hle
        exact ⟨some ad, rfl⟩
    have hocell' : ∀ w1 : World, w1.heap = w.heap → (Builtin.firstCells sz 0 (.slice base 0 0)).run P w1 = .ok ([] : List Value).toArray w1 := by
      intro w1 hw1
      cases base with
      | none => simp [Builtin.firstCells]
      | some ad => simp [Builtin.firstCells, loadCells, loadCellsFrom]
    obtain ⟨_, happ2⟩ := run_append (P := P) (w := w) (ty := ty) (len := 0) (cap := 0) (base := base) (old := []) (z := []) c0 c1 hu hu1 hn hb hz hzl ⟨yb, yc, rfl⟩ hnrun
    obtain ⟨newCap, rest, hge, hrest, hrun⟩ := happ2 (by omega) hm hbt hocell' hncell
    have hku : Keeps k k w ({ w with drawn := w.drawn + 1 } : World) := ⟨Nat.le_refl _, fun _ _ => rfl, fun _ _ => Nat.le_refl _, Nat.le_refl _, fun _ _ h _ => h, fun b c e h => ⟨c, h, rfl⟩⟩
    have hsz : (([] : List Value).toArray ++ new.toArray ++ rest).size = newCap * sz := by
      simp only [Array.size_append, List.size_toArray, hnl, hrest, List.length_nil, Nat.zero_add]
      rw [Nat.sub_mul]
      have := Nat.mul_le_mul_right sz hge
      rw [Nat.add_mul] at *
      omega
    have h1 := h.drew.newObj (o := .cells cs) (ob := .cells (([] : List Value).toArray ++ new.toArray ++ rest) el) (by
      refine ⟨_, el, rfl, ?_, ?_⟩
      · rw [hsz, hlen]; exact Nat.mul_le_mul_right _ (by omega)
      · have hk : Keeps k ((k.setLim w.heap.size 0).reg w.heap.size) w ((({ w with drawn := w.drawn + 1 } : World)).alloc (.cells (([] : List Value).toArray ++ new.toArray ++ rest) el)) :=
          (hku.trans (Keeps.alloc (w := ({ w with drawn := w.drawn + 1 } : World)) _ _)).trans (Keeps.reg _ _ _)
        have hcr := hnew.mono hk
        refine ⟨by simp [hnl, hlen], fun j v hj => ?_⟩
        obtain ⟨y, hy, hr⟩ := hcr.2 j v hj
        have hjl : j < cs.length := by
          rcases Nat.lt_or_ge j cs.length with h' | h'
          · exact h'
          · rw [List.getElem?_eq_none h'] at hj; simp at hj
        refine ⟨y, ?_, hr⟩
        rw [List.getElem?_take, if_pos hjl]
        simp only [Array.toList_append, List.nil_append]
        rw [List.getElem?_append_left (by simp [hnl]; omega)]
        exact hy)
    refine ⟨_, _, hrun, ?_⟩
    rw [put_tick]
    refine (h1.tick.put hd (VR.sr ?_)).inv
    rw [← hnx]
    refine .ref k.nx 0 _ _ newCap _ (by simp [Ctx.reg, Ctx.setLim, upd_same]) (by simp [Ctx.reg, Ctx.setLim]) (by omega) ?_
    have : ((k.setLim w.heap.size 0).reg w.heap.size).ω k.nx = w.heap.size := by simp [Ctx.reg, Ctx.setLim, upd_same]
    rw [this]
    exact ⟨_, el, heap_alloc_new (w := ({ w with drawn := w.drawn + 1 } : World)), by rw [hsz]; omega⟩
  · obtain ⟨c, e', hblk, hcl, hcr⟩ := h.objCells hg
    have hlive := H.get_some hg
    obtain ⟨hidl, hlt, hlim0, _⟩ := h.wr.obj id _ hlive
    have hx' : VR k w (.ref id 0 len sz) X := hx
    cases hx' with
    | ref _ _ _ _ cap b hbb hid hlc hcap =>
      subst hbb
      have hcl' : len * sz ≤ c.size := by rw [← hol]; exact hcl
      have hcapc : cap * sz ≤ c.size := by
        obtain ⟨c2, e2, h2, h3⟩ := hcap
        rw [hblk] at h2
        simp only [Option.some.injEq, Obj.cells.injEq] at h2
        obtain ⟨rfl, _, _⟩ := h2
        omega
      have hold : CRs k w oldv (c.toList.take oldv.length) := hcr
      have holl : (c.toList.take oldv.length).length = len * sz := by rw [hold.1, hol]
      have hocell' : ∀ w1 : World, w1.heap = w.heap → (Builtin.firstCells sz len (.slice (some ⟨k.ω id, 0, none⟩) len cap)).run P w1 = .ok (c.toList.take oldv.length).toArray w1 := by
        intro w1 hw1
        exact run_firstCells_list holl (fun j x hj => by
          rw [addr_mk, Nat.zero_add]
          have : w1.cell? ⟨k.ω id, j, none⟩ = w.cell? ⟨k.ω id, j, none⟩ := by simp [World.cell?, hw1]
          rw [this, cell_of_heap hblk]
          simpa using (take_get hj).1)
      obtain ⟨happ1, happ2⟩ := run_append (P := P) (w := w) (ty := ty) (len := len) (cap := cap) (base := some ⟨k.ω id, 0, none⟩) (old := c.toList.take oldv.length) (z := []) c0 c1 hu hu1 hn hb hz hzl ⟨yb, yc, rfl⟩ hnrun
      have hdrop := h.dropObj id
      have hnobj : ∀ id2 q, (upd st.h.objs id none) id2 = some q → k.ω id2 ≠ k.ω id := by
        intro id2 q hq heq
        unfold upd at hq
        split at hq
        · simp at hq
        · rename_i hne
          exact hne (h.wr.inj id2 id q _ hq hlive heq)
      have hnβ : ∀ s, A s → β s ≠ k.ω id := fun s hs heq => (h.alloc s hs).2.2.2 id _ hlive heq.symm
      have hsrc : k.ω id < e.w.heap.size → ∃ id0 o0, e.h.objs id0 = some o0 ∧ e.k.ω id0 = k.ω id := fun hlt => h.old.src id _ hlive hlt
      by_cases hin : len + n ≤ cap
      · have hmul : (len + n) * sz ≤ cap * sz := Nat.mul_le_mul_right _ hin
        rw [Nat.add_mul] at hmul
        obtain ⟨w', r1, r2, cb', r3, r4, r5⟩ := run_storeCells (P := P) new w (k.ω id) (len * sz) 0 c e' hblk (by omega) (fun v hv => by
          obtain ⟨j, hj, rfl⟩ := List.mem_iff_getElem.1 hv
          obtain ⟨x, hx, _, h1⟩ := hnew.2 j (cs[j]'(by rw [← hnew.1]; exact hj)) (List.getElem?_eq_getElem _)
          rw [List.getElem?_eq_getElem hj] at hx
          simp only [Option.some.injEq] at hx
          rw [hx]; exact h1)
        have hk : Keeps k k w w' := Keeps.change r2 hlim0 (row_of hblk r3 r4)
        have h2 := hdrop.changeFree (w' := w') (b := k.ω id) r2 hlim0 (row_of hblk r3 r4) hnobj hnβ hsrc
        have h3 := h2.regObj (b := k.ω id) (o := .cells (oldv ++ cs)) (by rw [r2.size]; exact hlt) hlim0 hnobj hnβ hsrc (by
          refine ⟨cb', e', r3, by simp [hol, hlen, r4]; omega, ?_⟩
          have hk2 : Keeps k (k.reg (k.ω id)) w w' := hk.trans (Keeps.reg _ _ _)
          have hcr2 := (hold.mono hk2).append (hnew.mono hk2)
          refine ⟨by simp [hol, hlen, r4]; omega, fun j v hj => ?_⟩
          obtain ⟨y, hy, hr⟩ := hcr2.2 j v hj
          refine ⟨y, ?_, hr⟩
          have hjl : j < (oldv ++ cs).length := by
            rcases Nat.lt_or_ge j (oldv ++ cs).length with h' | h'
            · exact h'
            · rw [List.getElem?_eq_none h'] at hj; simp at hj
          rw [List.getElem?_take, if_pos hjl, Array.getElem?_toList, r5]
          rw [List.getElem?_append] at hy
          split at hy
          · rename_i hlt2
            rw [holl] at hlt2
            rw [if_neg (by omega)]
            simpa using (take_get hy).1
          · rename_i hlt2
            rw [holl] at hlt2 hy
            simp [hol, hlen] at hjl
            rw [if_pos ⟨by omega, by omega⟩]
            exact hy)
        refine ⟨w', .slice (some ⟨k.ω id, 0, none⟩) (len + n) cap, by rw [happ1 hin]; simp only [addr_mk, Nat.zero_add, r1, Result.andThen_ok], ?_⟩
        rw [put_tick]
        refine (h3.tick.put hd (VR.sr ?_)).inv
        rw [← hnx]
        refine .ref k.nx 0 _ _ cap _ (by simp [Ctx.reg, upd_same]) (by simp [Ctx.reg]) hin ?_
        have : (k.reg (k.ω id)).ω k.nx = k.ω id := by simp [Ctx.reg, upd_same]
        rw [this]
        exact ⟨cb', e', r3, by omega⟩
      · obtain ⟨newCap, rest, hge, hrest, hrun⟩ := happ2 (by omega) hm hbt hocell' hncell
        have hku : Keeps k k w ({ w with drawn := w.drawn + 1 } : World) := ⟨Nat.le_refl _, fun _ _ => rfl, fun _ _ => Nat.le_refl _, Nat.le_refl _, fun _ _ h _ => h, fun b c e h => ⟨c, h, rfl⟩⟩
        have hsz : ((c.toList.take oldv.length).toArray ++ new.toArray ++ rest).size = newCap * sz := by
          simp only [Array.size_append, List.size_toArray, hnl, hrest, holl]
          rw [Nat.sub_mul]
          have := Nat.mul_le_mul_right sz hge
          rw [Nat.add_mul] at *
          omega
        have h1 := hdrop.drew.newObj (o := .cells (oldv ++ cs)) (ob := .cells ((c.toList.take oldv.length).toArray ++ new.toArray ++ rest) el) (by
          refine ⟨_, el, rfl, ?_, ?_⟩
          · rw [hsz]; simp only [List.length_append, hol, hlen, ← Nat.add_mul]; exact Nat.mul_le_mul_right _ hge
          · have hk : Keeps k ((k.setLim w.heap.size 0).reg w.heap.size) w ((({ w with drawn := w.drawn + 1 } : World)).alloc (.cells ((c.toList.take oldv.length).toArray ++ new.toArray ++ rest) el)) :=
              (hku.trans (Keeps.alloc (w := ({ w with drawn := w.drawn + 1 } : World)) _ _)).trans (Keeps.reg _ _ _)
            have hcr2 := (hold.mono hk).append (hnew.mono hk)
            have htl : (oldv ++ cs).length = ((c.toList.take oldv.length) ++ new).length := by rw [hcr2.1]
            refine ⟨by rw [List.length_take, Nat.min_eq_left]; rw [htl]; simp only [Array.toList_append, List.length_append]; omega, fun j v hj => ?_⟩
            obtain ⟨y, hy, hr⟩ := hcr2.2 j v hj
            have hjl : j < (oldv ++ cs).length := by
              rcases Nat.lt_or_ge j (oldv ++ cs).length with h' | h'
              · exact h'
              · rw [List.getElem?_eq_none h'] at hj; simp at hj
            refine ⟨y, ?_, hr⟩
            rw [List.getElem?_take, if_pos hjl]
            simp only [Array.toList_append]
            rw [List.getElem?_append_left (by rw [← htl]; exact hjl)]
            exact hy)
        refine ⟨_, _, hrun, ?_⟩
        rw [put_tick]
        refine (h1.tick.put hd (VR.sr ?_)).inv
        rw [← hnx]
        refine .ref k.nx 0 _ _ newCap _ (by simp [Ctx.reg, Ctx.setLim, upd_same]) (by simp [Ctx.reg, Ctx.setLim]) (by omega) ?_
        have : ((k.setLim w.heap.size 0).reg w.heap.size).ω k.nx = w.heap.size := by simp [Ctx.reg, Ctx.setLim, upd_same]
        rw [this]
        exact ⟨_, el, heap_alloc_new (w := ({ w with drawn := w.drawn + 1 } : World)), by rw [hsz]; omega⟩

end
end Go.Ab
