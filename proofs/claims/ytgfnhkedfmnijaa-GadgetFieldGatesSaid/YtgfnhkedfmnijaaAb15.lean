/- What the operations of the layer Ab that change the store do is what the model's operations do (5): boxes, makes, calls, panics. -/
import Derived.Test.YtgfnhkedfmnijaaAb14
set_option linter.unusedVariables false
set_option linter.unusedSimpArgs false
namespace Go.Ab

section
variable {G : List (Nat × List V)} {N : Nat} {e : Entry} {k : Ctx} {β : Nat → Nat} {A : Nat → Prop} {st : S} {a : Act} {w : World} {P : Program} {u : List Nat} {hs : Hints} {o : Oper} {K : Ex → S → Prop}

/-- A new local box. -/
theorem FW.newBox (h : FW G N e k β A st a w) {cs : List V} {xs : Array Value} {t : TypeId} (hd : ∀ t, o.dst = some t → t < N) (hl : xs.size = cs.length)
    (hc : ∀ (j : Nat) (v : V), cs[j]? = some v → ∃ x, xs[j]? = some x ∧ SR1 k w β A st.u v x ∧ x.oneCell' = true) :
    Inv G N e ({ (st.put o.dst (.lptr st.n cs.length 0)) with m := upd st.m st.n (some cs) } : S).tick (a.put o.dst (.pointer (some ⟨w.heap.size, 0, none⟩))) (w.alloc (.cells xs t)) := by
  have hk := Keeps.alloc (k := k) (w := w) (.cells xs t) 0
  have h1 := h.alloc' (.cells xs t) 0
  obtain ⟨hst, h2⟩ := h1.stampNew (b := w.heap.size) h.old.keeps.size (by simp) (fun id q hq => Nat.ne_of_lt (h.wr.obj id q hq).2.1) (fun s hs => Nat.ne_of_lt (h.alloc s hs).2.2.1)
  have hst0 : Stays k (k.setLim w.heap.size 0) w (w.alloc (.cells xs t)) β β A A st.u st.u := Stays.of hk (fun s hs => by simp [Ctx.setLim, upd_ne _ _ (Nat.ne_of_lt (h.alloc s hs).2.2.1)])
  have hb : (w.alloc (.cells xs t)).heap[upd β st.n w.heap.size st.n]? = some (.cells xs t (0, 0)) := by rw [upd_same]; exact heap_alloc_new
  have h3 := h2.setBox (s := st.n) (cs := cs) (w' := w.alloc (.cells xs t)) (.inr rfl) (by rw [upd_same]; simp [Ctx.setLim, upd_same]) (.refl _ _) (fun c e hc => ⟨c, hc, rfl⟩)
    (fun _ => ⟨xs, t, hb, hl, fun j v hj => let ⟨x, p, q, r⟩ := hc j v hj; ⟨x, p, (q.mono hst0).mono hst, r⟩⟩)
  have h4 := h3.put (d := o.dst) (v := .lptr st.n cs.length 0) (x := .pointer (some ⟨w.heap.size, 0, none⟩)) hd ⟨by rw [upd_same], .inr rfl, by rw [upd_same]; simp [Ctx.setLim, upd_same], xs, t, hb, hl⟩
  have : ({ (st.put o.dst (.lptr st.n cs.length 0)) with m := upd st.m st.n (some cs) } : S).tick = ({ st.tick with m := upd st.m st.n (some cs) } : S).put o.dst (.lptr st.n cs.length 0) := by cases o.dst <;> rfl
  rw [this]
  exact h4.inv

/-- A box without a content that is told. -/
theorem FW.bareBox (h : FW G N e k β A st a w) {xs : Array Value} {t : TypeId} {z : Nat} (hd : ∀ t, o.dst = some t → t < N) (hl : xs.size = z) :
    Inv G N e (st.put o.dst (.lptr st.n z 0)).tick (a.put o.dst (.pointer (some ⟨w.heap.size, 0, none⟩))) (w.alloc (.cells xs t)) := by
  have h1 := h.alloc' (.cells xs t) 0
  obtain ⟨hst, h2⟩ := h1.stampNew (b := w.heap.size) h.old.keeps.size (by simp) (fun id q hq => Nat.ne_of_lt (h.wr.obj id q hq).2.1) (fun s hs => Nat.ne_of_lt (h.alloc s hs).2.2.1)
  have hb : (w.alloc (.cells xs t)).heap[upd β st.n w.heap.size st.n]? = some (.cells xs t (0, 0)) := by rw [upd_same]; exact heap_alloc_new
  rw [put_tick]
  exact (h2.put (d := o.dst) (v := .lptr st.n z 0) (x := .pointer (some ⟨w.heap.size, 0, none⟩)) hd ⟨by rw [upd_same], .inr rfl, by rw [upd_same]; simp [Ctx.setLim, upd_same], xs, t, hb, hl⟩).inv

/-- A new object of cells. -/
theorem FW.newCells (h : FW G N e k β A st a w) {cs : List V} {xs : Array Value} {t : TypeId} (hd : ∀ t, o.dst = some t → t < N) (hc : CRs k w cs xs.toList) {v : V} {x : Value}
    (hv : VR ((k.setLim w.heap.size 0).reg w.heap.size) (w.alloc (.cells xs t)) v x) :
    Inv G N e ((st.withH (st.h.new (.cells cs))).put o.dst v).tick (a.put o.dst x) (w.alloc (.cells xs t)) := by
  have hk : Keeps k ((k.setLim w.heap.size 0).reg w.heap.size) w (w.alloc (.cells xs t)) := (Keeps.alloc _ _).trans (Keeps.reg _ _ _)
  have h1 := h.newObj (o := .cells cs) (ob := .cells xs t) ⟨xs, t, rfl, by rw [← hc.1]; simp, by
    have := hc.mono hk
    have hx : xs.toList.take cs.length = xs.toList := List.take_of_length_le (by rw [hc.1]; exact Nat.le_refl _)
    rw [hx]; exact this⟩
  rw [put_tick]
  exact (h1.tick.put hd hv.sr).inv

theorem reg_nx (k : Ctx) (b c : Nat) : ((k.setLim b 0).reg c).ω k.nx = c := by simp [Ctx.reg, Ctx.setLim, upd_same]
theorem reg_lt (k : Ctx) (b c : Nat) : k.nx < ((k.setLim b 0).reg c).nx := by simp [Ctx.reg, Ctx.setLim]

theorem VR.newPtr (h : FW G N e k β A st a w) (ob : Obj) : VR ((k.setLim w.heap.size 0).reg w.heap.size) (w.alloc ob) (.ptr st.h.next 0) (.pointer (some ⟨w.heap.size, 0, none⟩)) := by
  rw [← h.wr.nx]
  exact .ptr k.nx 0 _ (reg_nx _ _ _).symm (reg_lt _ _ _)

theorem eff_box (h : FW G N e k β A st a w) (hG : ∀ g cells, (g, cells) ∈ hs.glob → (g, cells) ∈ G) {t : TypeId} {x : Operand} {x' : Arg} (hop : o.op = .box t x) (hx : trArg hs x = some x') (hd : ∀ t, o.dst = some t → t < N) {call : CallT} {ob : Bool}
    (he : eff call st.n st o.dst (.box x' ob) K) : EffOK P G N e o a w K := by
  have hsr := h.arg hx hG
  have hrun : (execOp a.eval o).run P w = .ok (.value (.pointer (some ⟨w.heap.size, 0, none⟩))) (w.alloc (.cells (a.eval x).cells t)) := by
    simp only [execOp, hop]
    exact exec_value (by simp [Instr.box, newVar, newRow])
  cases ob with
  | false =>
    have key : (∀ s z o, evA st.ρ x' ≠ .lptr s z o) → (∀ i, evA st.ρ x' ≠ .itr i) → (∀ vs, evA st.ρ x' ≠ .tuple vs) → evA st.ρ x' ≠ .undef →
        K .normal { (st.put o.dst (.lptr st.n (evA st.ρ x').cells.length 0)) with m := upd st.m st.n (some (evA st.ρ x').cells) } → EffOK P G N e o a w K := by
      intro n1 n2 n3 n4 hk
      obtain ⟨c1, c2⟩ := hsr.cells1 n1 n2 n3 n4
      exact eff_value hrun hk (h.newBox hd c1 c2)
    simp only [eff] at he
    split at he
    · exact he.elim
    · exact he.elim
    · exact he.elim
    · exact he.elim
    · rename_i m1 m2 m3 m4
      exact key (fun s z o hh => m1 s z o hh) (fun i hh => m2 i hh) (fun vs hh => m3 vs hh) m4 he
  | true =>
    simp only [eff] at he
    split at he
    · rename_i v hv
      have hvr := hsr.out hv
      exact eff_value hrun he (h.newCells hd hvr.cells (VR.newPtr h _))
    · exact he.elim

theorem eff_allocz (h : FW G N e k β A st a w) {t : TypeId} {z : List V} (hop : o.op = .alloc t) (hz : zeroT P t = some z) (hd : ∀ t, o.dst = some t → t < N) {call : CallT} {ob : Bool}
    (he : eff call st.n st o.dst (.allocz z ob) K) : EffOK P G N e o a w K := by
  obtain ⟨zx, hzr, hzc⟩ := zeroT_sound (P := P) (w := w) (k := k) hz
  have hrun : (execOp a.eval o).run P w = .ok (.value (.pointer (some ⟨w.heap.size, 0, none⟩))) (w.alloc (.cells zx.cells t)) := by
    simp only [execOp, hop]
    exact exec_value (by simp [Instr.alloc, hzr, newVar, newRow])
  cases ob with
  | false =>
    simp only [eff] at he
    exact eff_value hrun he (h.newBox hd (by simpa using hzc.1) (fun j v hj => let ⟨x, p, q, r⟩ := hzc.2 j v hj; ⟨x, by simpa using p, q.sr1, r⟩))
  | true =>
    simp only [eff] at he
    exact eff_value hrun he (h.newCells hd hzc (VR.newPtr h _))

theorem eff_bare (h : FW G N e k β A st a w) {t : TypeId} {z : List V} (hop : o.op = .alloc t) (hz : zeroT P t = some z) (hd : ∀ t, o.dst = some t → t < N)
    (he : K .normal (st.put o.dst (.lptr st.n z.length 0))) : EffOK P G N e o a w K := by
  obtain ⟨zx, hzr, hzc⟩ := zeroT_sound (P := P) (w := w) (k := k) hz
  have hrun : (execOp a.eval o).run P w = .ok (.value (.pointer (some ⟨w.heap.size, 0, none⟩))) (w.alloc (.cells zx.cells t)) := by
    simp only [execOp, hop]
    exact exec_value (by simp [Instr.alloc, hzr, newVar, newRow])
  exact eff_value hrun he (h.bareBox hd (by simpa using hzc.1))

theorem VR.newRef (h : FW G N e k β A st a w) {xs : Array Value} {t : TypeId} {len sz : Nat} (hl : xs.size = len * sz) :
    VR ((k.setLim w.heap.size 0).reg w.heap.size) (w.alloc (.cells xs t)) (.ref st.h.next 0 len sz) (.slice (some ⟨w.heap.size, 0, none⟩) len len) := by
  rw [← h.wr.nx]
  refine .ref k.nx 0 len sz len _ (reg_nx _ _ _).symm (reg_lt _ _ _) (Nat.le_refl _) ?_
  rw [reg_nx]
  exact ⟨xs, t, heap_alloc_new, by omega⟩

theorem eff_bslO (h : FW G N e k β A st a w) (hG : ∀ g cells, (g, cells) ∈ hs.glob → (g, cells) ∈ G) {t el : TypeId} {len n : Nat} {z : List V} {parts : Array (Nat × Operand)} {l : List (Nat × Nat × Arg)} (hop : o.op = .buildSlice t len parts)
    (ht : P.underlying t = some (.slice el)) (hn : sizeT P el = some n) (hz : zeroT P el = some z) (hl : trParts hs (fun i => some (i * n, n)) parts.toList = some l)
    (hle : len * n ≤ 16777216) (h0 : 0 < n) (hzl : z.length = n) (hd : ∀ t, o.dst = some t → t < N) {call : CallT} (he : eff call st.n st o.dst (.bslO len n z l) K) : EffOK P G N e o a w K := by
  simp only [eff] at he
  split at he
  · rename_i cs hf
    obtain ⟨ys, g1, g2, g3⟩ := run_buildSlice h hG ht hn hz hl hle h0 hzl hf
    have hmap : (parts.map fun (i, x) => (i, a.eval x)) = ((parts.toList.map fun (i, x) => (i, a.eval x)).toArray) := Array.ext' (by rw [Array.toList_map])
    refine eff_value (x := .slice (some ⟨w.heap.size, 0, none⟩) len len) (w' := w.alloc (.cells ys el)) ?_ he (h.newCells hd g2 (VR.newRef h (by have := g2.1; simp at this; omega)))
    simp only [execOp, hop, hmap]
    exact exec_value g1
  · exact he.elim

theorem flat_rep {ag : Bool} {sz : Nat} {z : List V} (hz : z.length = sz) : ∀ (n : Nat), chunk ag sz n (List.replicate n z).flatten = List.replicate n (mkEl ag z)
  | 0 => rfl
  | n + 1 => by
    simp only [chunk, List.replicate_succ, List.flatten_cons]
    rw [List.take_append_of_le_length (by omega), List.drop_append_of_le_length (by omega), List.take_of_length_le (by omega), List.drop_of_length_le (by omega), List.nil_append, flat_rep hz n]

theorem eff_mks (h : FW G N e k β A st a w) (hG : ∀ g cells, (g, cells) ∈ hs.glob → (g, cells) ∈ G) {t el : TypeId} {lo co : Operand} {l c : Arg} {n bytes : Nat} {ag : Bool} {z : List V} (hop : o.op = .makeSlice t lo co)
    (hl : trArg hs lo = some l) (hc : trArg hs co = some c) (ht : P.underlying t = some (.slice el)) (hn : sizeT P el = some n) (hb : bytesT P el = some bytes) (hz : zeroT P el = some z) (h0 : 0 < n) (hzl : z.length = n) (ho : oneT n ag = true)
    (hd : ∀ t, o.dst = some t → t < N) {call : CallT} {ob : Bool} (he : eff call st.n st o.dst (.mks l c n bytes ag z ob) K) : EffOK P G N e o a w K := by
  simp only [eff] at he
  split at he
  · rename_i lv cv hlv hcv
    split at he
    · rename_i hcond
      obtain ⟨hl0, hlc, hlm, hbm, hn0⟩ := hcond
      subst hlc
      obtain ⟨i1, _, hX⟩ := sr_isInt (h.arg hl hG) hlv
      obtain ⟨i2, _, hY⟩ := sr_isInt (h.arg hc hG) hcv
      obtain ⟨i, hi, hib⟩ := run_bytesOf (P := P) (w := w) hb
      obtain ⟨zx, hzr, hzc⟩ := zeroT_sound (P := P) (w := w) (k := k) hz
      have hwrap : IntKind.i64.wrap lv = lv := by
        have : most = 4294967296 := rfl
        exact IntWalk.i64_in _ (by omega)
      have hbn : (bytes : Int) * lv ≤ 17592186044416 := by
        have h1 : (lv.toNat : Int) = lv := Int.toNat_of_nonneg hl0
        have h2 : bytes * lv.toNat ≤ 4096 * 4294967296 := Nat.mul_le_mul hbm (by have : most = 4294967296 := rfl; omega)
        have h3 : ((bytes * lv.toNat : Nat) : Int) ≤ ((17592186044416 : Nat) : Int) := Int.ofNat_le.2 (by omega)
        rw [Int.natCast_mul, h1] at h3
        exact h3
      have hnl : ¬ (lv < 0 ∨ (i.bytes : Int) * lv > 2 ^ 48) := by rw [hib]; omega
      have hmk : ∀ (zz : Array Value), zz = (if lv.toNat * n = 0 then #[] else zx.cells) → ∃ ys : Array Value, ys = (Array.range (lv.toNat * n)).map (zz[· % zz.size]!) ∧ CRs k w (List.replicate lv.toNat z).flatten ys.toList := by
        intro zz hzz
        refine ⟨_, rfl, ?_⟩
        by_cases hz0 : lv.toNat * n = 0
        · have : lv.toNat = 0 := by
            rcases Nat.mul_eq_zero.1 hz0 with h1 | h1
            · exact h1
            · omega
          rw [this]
          simp [CRs]
        · rw [if_neg hz0] at hzz
          rw [hzz]
          exact zeros_sound hzc hzl h0
      obtain ⟨ys, hys, hcr⟩ := hmk _ rfl
      have hrun : (Instr.makeSlice t (a.eval lo) (a.eval co)).run P w = .ok (.slice (some ⟨w.heap.size, 0, none⟩) lv.toNat lv.toNat) (w.alloc (.cells ys el)) := by
        have c1 : (decide (lv < 0) || decide ((i.bytes : Int) * lv > 2 ^ 48)) = false := by
          rw [Bool.or_eq_false_iff]; exact ⟨decide_eq_false (by omega), decide_eq_false (by omega)⟩
        have c2 : ¬ ((decide (lv < 0) || decide ((i.bytes : Int) * lv > 2 ^ 48) || decide (lv < 0) || decide (lv > lv)) = true) := by
          intro hh
          simp only [c1, Bool.false_or, Bool.or_eq_true, decide_eq_true_eq] at hh
          omega
        by_cases hz0 : lv.toNat * n = 0
        · rw [if_pos hz0] at hys
          simp only [Instr.makeSlice, Sem.run_bind, run_underlying ht, Result.andThen_ok, hX, hY, asInt, asIntOf, Sem.run_pure, hi, hwrap, if_neg c2, run_askRoom, run_sizeOf hn, if_pos hz0, newRow, run_newObj]
          rw [hys]; rfl
        · rw [if_neg hz0] at hys
          simp only [Instr.makeSlice, Sem.run_bind, run_underlying ht, Result.andThen_ok, hX, hY, asInt, asIntOf, Sem.run_pure, hi, hwrap, if_neg c2, run_askRoom, run_sizeOf hn, if_neg hz0, hzr, newRow, run_newObj]
          rw [hys]; rfl
      have hrun' : (execOp a.eval o).run P w = .ok (.value (.slice (some ⟨w.heap.size, 0, none⟩) lv.toNat lv.toNat)) (w.alloc (.cells ys el)) := by
        simp only [execOp, hop]
        exact exec_value hrun
      have hfl : (List.replicate lv.toNat z).flatten.length = lv.toNat * n := by rw [flat_rep_len, hzl]
      cases ob with
      | true =>
        simp only [if_true] at he
        exact eff_value hrun' he (h.newCells hd hcr (VR.newRef h (by have := hcr.1; simp at this; simp at hfl; omega)))
      | false =>
        simp only [Bool.false_eq_true, if_false] at he
        refine eff_value hrun' he ?_
        have h1 := h.alloc' (.cells ys el) (lv.toNat * n)
        rw [put_tick]
        refine (h1.tick.put hd (VR.sr ?_)).inv
        rw [← flat_rep (ag := ag) hzl]
        exact vec_of_cells (off := 0) (hcr.mono (Keeps.alloc _ _)) hfl ho rfl (fun j x hj => by rw [cell_of_heap heap_alloc_new]; simpa using hj) (by simp [Ctx.setLim, upd_same]) (Nat.le_refl _) (fun _ => rfl)
    · exact he.elim
  · exact he.elim

theorem eff_mkM (h : FW G N e k β A st a w) {t : TypeId} (hop : o.op = .makeMap t none) (hd : ∀ t, o.dst = some t → t < N) {call : CallT} (he : eff call st.n st o.dst .mkM K) : EffOK P G N e o a w K := by
  simp only [eff] at he
  have hrun : (execOp a.eval o).run P w = .ok (.value (.map (some w.heap.size))) (w.alloc (.map #[] 0)) := by
    simp only [execOp, hop]
    exact exec_value (by simp [Instr.makeMap])
  refine eff_value hrun he ?_
  have h1 := h.newObj (o := .map [] 0) (ob := .map #[] 0) ⟨#[], 0, rfl, rfl, by simp, by simp, by simp⟩
  rw [put_tick]
  refine (h1.tick.put hd (VR.sr ?_)).inv
  rw [← h.wr.nx]
  exact .map k.nx _ (reg_nx _ _ _).symm (reg_lt _ _ _)

theorem eff_pan (h : FW G N e k β A st a w) (hG : ∀ g cells, (g, cells) ∈ hs.glob → (g, cells) ∈ G) {x : Operand} {x' : Arg} (hop : o.op = .panic x) (hx : trArg hs x = some x') {call : CallT} (he : eff call st.n st o.dst (.pan x') K) :
    EffOK P G N e o a w K := by
  simp only [eff] at he
  split at he
  · rename_i t v ho
    have hvr := (h.arg hx hG).out ho
    unfold EffOK Oper.wp
    have hrun : (execOp a.eval o).run P w = .halt (.panic (a.eval x)) w := by
      simp only [execOp, hop]
      cases hX : a.eval x <;> rw [hX] at hvr <;> cases hvr
      simp [Instr.panic]
    rw [hrun]
    exact ⟨_, _, he, h.defers, a.eval x, k, rfl, h.wr, h.old, hvr⟩
  · exact he.elim

/-- A call, from the point where the callee is entered. -/
theorem eff_enter (h : FW G N e k β A st a w) {call : CallT} (hc : CallOK P G call) {f : FuncId} {vs : List V} {xs : Array Value} (hrun : GoodFn P f → (execOp a.eval o).run P w = .ok (.enter f xs) w) (hd : ∀ t, o.dst = some t → t < N)
    (hargs : ArgsOK k w vs xs) (he : call f vs st.h fun ou h' => match ou with
      | .ret v => K .normal ((st.withH h').put o.dst (landV st.n v))
      | .pan v => K (.pan v) (.blank h')) : EffOK P G N e o a w K := by
  obtain ⟨hgood, hcalls⟩ := hc f vs st.h _ he
  unfold EffOK Oper.wp
  rw [hrun hgood]
  refine (hcalls k w xs h.wr hargs).mono ?_
  rintro en w' ⟨ou, h', hK, k', hw, ho, hres⟩
  cases ou with
  | pan v =>
    obtain ⟨x, rfl, hvr⟩ := hres
    refine ⟨v, h', hK, h.defers, x, k', rfl, hw, ?_, hvr⟩
    have := (h.call hw ho).old
    exact this
  | ret v =>
    obtain ⟨x, b, rfl, hfr, hrr⟩ := hres
    refine ⟨_, hK, ?_⟩
    have h1 := h.call hw ho
    rw [put_tick]
    by_cases hown : hasOwn v = true
    · obtain ⟨f1, f2, f3⟩ := hfr hown
      obtain ⟨hst, h2⟩ := h1.stampNew (b := b) (Nat.le_trans h.old.keeps.size f1) f2 f3 (fun s hs => Nat.ne_of_lt (Nat.lt_of_lt_of_le (h.alloc s hs).2.2.1 f1))
      refine (h2.put hd ?_).inv
      have one : ∀ (v : V) (x : Value), RR1 k' w' b v x → SR1 k' w' (upd β st.n b) (fun s => A s ∨ s = st.n) st.u (stampV st.n v) x := by
        intro v x hr
        have hsame : upd β (st.withH h').n b (st.withH h').n = b := upd_same _ _ _
        cases v with
        | vec xs c =>
          cases c with
          | own s =>
            refine ⟨hr.1, fun hu => ?_⟩
            obtain ⟨_, ad, cap, sz, q1, q2, q3, q4, q5, q6, q7, q8⟩ := hr.2
            refine ⟨.inr rfl, ad, cap, sz, q1, ?_, q3, q4, q5, q6, ?_, ?_⟩
            · rw [upd_same]; exact q2
            · rw [upd_same]; exact q7
            · rw [upd_same]; exact q8
          | any => exact VR.sr1 (show VR k' w' (.vec xs .any) x from hr)
          | full => exact VR.sr1 (show VR k' w' (.vec xs .full) x from hr)
        | _ => exact VR.sr1 (show VR k' w' _ x from hr)
      cases v with
      | tuple vs =>
        obtain ⟨xs, hx, hsz, hall⟩ := hrr
        refine ⟨xs, hx, by simp [landV, hsz], fun j v hj => ?_⟩
        simp only [List.getElem?_map, Option.map_eq_some_iff] at hj
        obtain ⟨v0, hv0, rfl⟩ := hj
        obtain ⟨y, hy, hr⟩ := hall j v0 hv0
        exact ⟨y, hy, one v0 y hr⟩
      | vec xs c =>
        have := one _ _ (show RR1 k' w' b (.vec xs c) x from hrr)
        cases c <;> exact this
      | _ => simp [hasOwn, isOwn] at hown
    · have h2 := h1.tick
      refine (h2.put hd ?_).inv
      have one : ∀ (v : V) (x : Value), isOwn v = false → RR1 k' w' b v x → VR k' w' v x ∧ stampV st.n v = v := by
        intro v x ho hr
        cases v with
        | vec xs c =>
          cases c with
          | own s => simp [isOwn] at ho
          | any => exact ⟨hr, rfl⟩
          | full => exact ⟨hr, rfl⟩
        | _ => exact ⟨hr, rfl⟩
      cases v with
      | tuple vs =>
        obtain ⟨xs, hx, hsz, hall⟩ := hrr
        refine ⟨xs, hx, by simp [landV, hsz], fun j v hj => ?_⟩
        simp only [List.getElem?_map, Option.map_eq_some_iff] at hj
        obtain ⟨v0, hv0, rfl⟩ := hj
        obtain ⟨y, hy, hr⟩ := hall j v0 hv0
        have hno : isOwn v0 = false := by
          simp only [hasOwn, Bool.not_eq_true] at hown
          rw [List.any_eq_false] at hown
          simpa using hown v0 (List.mem_of_getElem? hv0)
        obtain ⟨p1, p2⟩ := one v0 y hno hr
        exact ⟨y, hy, by rw [p2]; exact p1.sr1⟩
      | _ =>
        have hno := by simpa [hasOwn] using hown
        obtain ⟨p1, p2⟩ := one _ _ hno hrr
        simp only [landV]
        rw [p2]; exact p1.sr

theorem run_callFunc {f : FuncId} (hf : GoodFn P f) (xs : Array Value) : (callFunc f xs).run P w = .ok (.enter f xs) w := by
  obtain ⟨fn, h1, h2, h3⟩ := hf
  have hn : (fn.name == "runtime.NumGoroutine") = false := by simpa using h3
  have hb : fn.body.isNone = false := by
    cases hb : fn.body with
    | none => simp [hb] at h2
    | some _ => rfl
  simp only [callFunc, Sem.run_bind, run_program, Result.andThen_ok, h1, hn, hb, Bool.false_eq_true, if_false, Sem.run_pure]

theorem eff_call (h : FW G N e k β A st a w) (hG : ∀ g cells, (g, cells) ∈ hs.glob → (g, cells) ∈ G) {call : CallT} (hc : CallOK P G call) {f : FuncId} {cargs : Array Operand} {ctypes : Array TypeId} {args : List Arg}
    (hop : o.op = .call { callee := .value (.func f), args := cargs, argTypes := ctypes }) (hargs : trArgs hs cargs.toList = some args) (hd : ∀ t, o.dst = some t → t < N) (he : eff call st.n st o.dst (.call f args) K) : EffOK P G N e o a w K := by
  simp only [eff] at he
  split at he
  · rename_i vs hvs
    obtain ⟨h1, h2⟩ := outs_args h hG hargs hvs
    refine eff_enter h hc (xs := cargs.map a.eval) (fun hgood => ?_) hd ⟨by simpa using h1, fun j v hj => by
      obtain ⟨x, hx, hr⟩ := h2 j v hj
      exact ⟨x, by simpa using hx, hr⟩⟩ he
    have : execOp a.eval o = callFunc f (cargs.map a.eval) := by
      simp [execOp, hop, resolve, Deferred.ofValue, Act.eval, invoke]
    rw [this]
    exact run_callFunc hgood _
  · exact he.elim

theorem eff_callv (h : FW G N e k β A st a w) (hG : ∀ g cells, (g, cells) ∈ hs.glob → (g, cells) ∈ G) {call : CallT} (hc : CallOK P G call) {fo : Operand} {f : Arg} {cargs : Array Operand} {ctypes : Array TypeId} {args : List Arg}
    (hop : o.op = .call { callee := .value fo, args := cargs, argTypes := ctypes }) (hf : trArg hs fo = some f) (hargs : trArgs hs cargs.toList = some args) (hd : ∀ t, o.dst = some t → t < N)
    (he : eff call st.n st o.dst (.callv f args) K) : EffOK P G N e o a w K := by
  simp only [eff] at he
  have hsr := h.arg hf hG
  split at he
  · rename_i g p q hfv
    rw [hfv] at hsr
    split at he
    · rename_i vs hvs
      obtain ⟨h1, h2⟩ := outs_args h hG hargs hvs
      have hvr : VR k w (.func (.func g) p q) (a.eval fo) := hsr
      cases hX : a.eval fo <;> rw [hX] at hvr <;> cases hvr
      rename_i p' q' vp vq hpv hqv hp hpx hq hqx
      refine eff_enter h hc (xs := p' ++ cargs.map a.eval ++ q') (fun hgood => ?_) hd ⟨by simp at h1; simp [hp, hq, h1], fun j v hj => ?_⟩ he
      · have : execOp a.eval o = callFunc g (p' ++ cargs.map a.eval ++ q') := by
          simp [execOp, hop, resolve, Deferred.ofValue, hX, invoke]
        rw [this]
        exact run_callFunc hgood _
      · rw [List.append_assoc, List.getElem?_append] at hj
        rw [Array.append_assoc]
        split at hj
        · rename_i hlt
          exact ⟨vp j, by rw [Array.getElem?_append_left (by rw [hp]; exact hlt)]; exact hpx j v hj, hpv j v hj⟩
        · rename_i hlt
          rw [Array.getElem?_append_right (by rw [hp]; omega), hp]
          rw [List.getElem?_append] at hj
          have hcl : (cargs.map a.eval).size = vs.length := by simpa using h1
          split at hj
          · rename_i hlt2
            rw [Array.getElem?_append_left (by rw [hcl]; exact hlt2)]
            obtain ⟨x, hx, hr⟩ := h2 _ v hj
            exact ⟨x, by simpa using hx, hr⟩
          · rename_i hlt2
            rw [Array.getElem?_append_right (by rw [hcl]; omega), hcl]
            exact ⟨vq _, hqx _ v hj, hqv _ v hj⟩
    · exact he.elim
  · exact he.elim

end
end Go.Ab
