/- What the readings of the layer Ab yield is what the model's operations yield (3): parts put together, tuples, lengths, slices, lookups. -/
import Derived.Test.YtgfnhkedfmnijaaAb5
set_option linter.unusedVariables false
set_option linter.unusedSimpArgs false
namespace Go.Ab

section
variable {G : List (Nat × List V)} {N : Nat} {e : Entry} {k : Ctx} {β : Nat → Nat} {A : Nat → Prop} {st : S} {a : Act} {w : World} {P : Program} {u : List Nat}

theorem un_sound {op : UnOp} {x v : V} {X : Value} (hx : SR k w β A u x X) (hv : unV op x = some v) : ∃ z, (Op.unary op X).run P w = .ok z w ∧ SR k w β A u v z := by
  unfold unV at hv
  split at hv
  · simp only [Option.some.injEq] at hv; subst hv
    cases sr_int hx
    exact ⟨_, rfl, VR.sr (.int _ _)⟩
  · cases sr_int hx
    exact bits2_sound (P := P) (w := w) hv
  · simp only [Option.some.injEq] at hv; subst hv
    cases sr_bool hx
    exact ⟨_, rfl, VR.sr (.bool _)⟩
  · simp at hv

theorem over_get (cs part : List V) (off j : Nat) (h : off + part.length ≤ cs.length) :
    (over cs off part)[j]? = if off ≤ j ∧ j < off + part.length then part[j - off]? else cs[j]? := by
  unfold over
  rw [List.append_assoc, List.getElem?_append]
  by_cases h1 : j < off
  · rw [if_pos (by simp; omega), if_neg (by omega), List.getElem?_take, if_pos h1]
  · rw [if_neg (by simp; omega), List.getElem?_append]
    have e1 : j - (cs.take off).length = j - off := by simp; omega
    rw [e1]
    by_cases h2 : j < off + part.length
    · rw [if_pos (by omega), if_pos ⟨by omega, h2⟩]
    · rw [if_neg (by omega), if_neg (by omega), List.getElem?_drop]
      congr 1; omega

theorem over_length (cs part : List V) (off : Nat) (h : off + part.length ≤ cs.length) : (over cs off part).length = cs.length := by
  unfold over; simp; omega

theorem foldl_set_get (off : Nat) : ∀ (l : List Value) (i : Nat) (cs : Array Value) (k : Nat),
    ((l.zipIdx i).foldl (fun cs (x : Value × Nat) => cs.setIfInBounds (off + x.2) x.1) cs).size = cs.size ∧
    ((l.zipIdx i).foldl (fun cs (x : Value × Nat) => cs.setIfInBounds (off + x.2) x.1) cs)[k]? = if off + i ≤ k ∧ k < off + i + l.length ∧ k < cs.size then l[k - (off + i)]? else cs[k]?
  | [], i, cs, k => by
    refine ⟨rfl, ?_⟩
    rw [if_neg (by simp only [List.length_nil]; omega)]; rfl
  | x :: l, i, cs, k => by
    obtain ⟨h1, h2⟩ := foldl_set_get off l (i + 1) (cs.setIfInBounds (off + i) x) k
    simp only [List.zipIdx_cons, List.foldl_cons]
    refine ⟨by rw [h1]; simp, ?_⟩
    rw [h2]
    simp only [Array.size_setIfInBounds, Array.getElem?_setIfInBounds, List.length_cons]
    by_cases hk : off + i = k
    · subst hk
      rw [if_neg (by omega)]
      by_cases hs : off + i < cs.size
      · rw [if_pos rfl, if_pos hs, if_pos (by omega)]; simp
      · rw [if_pos rfl, if_neg hs, if_neg (by omega)]
        simp [Array.getElem?_eq_none (Nat.le_of_not_lt hs)]
    · rw [if_neg hk]
      by_cases hin : off + i ≤ k ∧ k < off + i + (l.length + 1) ∧ k < cs.size
      · rw [if_pos hin, if_pos (by omega)]
        have : k - (off + i) = (k - (off + (i + 1))) + 1 := by omega
        rw [this, List.getElem?_cons_succ]
      · rw [if_neg hin, if_neg (by omega)]

/-- Parts put into cells. -/
theorem fill_sound {hs : Hints} (h : FW G N e k β A st a w) (hG : ∀ g cells, (g, cells) ∈ hs.glob → (g, cells) ∈ G) {place : Nat → Option (Nat × Nat)} :
    ∀ {ps : List (Nat × Operand)} {l : List (Nat × Nat × Arg)} {cs r : List V} {xs : Array Value}, trParts hs place ps = some l → CRs k w cs xs.toList → fillV st.ρ cs l = some r →
      ∃ ys, Instr.fill place xs (ps.map fun (i, x) => (i, a.eval x)) = some ys ∧ CRs k w r ys.toList
  | [], l, cs, r, xs, hl, hc, hr => by
    simp [trParts] at hl; subst hl
    simp [fillV] at hr; subst hr
    exact ⟨xs, rfl, hc⟩
  | (i, x) :: ps, l, cs, r, xs, hl, hc, hr => by
    simp only [trParts] at hl
    split at hl
    · rename_i off n ar tl hp ha htl
      simp only [Option.some.injEq] at hl; subst hl
      simp only [fillV] at hr
      split at hr
      · rename_i v hv
        split at hr
        · rename_i hle
          have hsr := (h.arg ha hG).out hv
          obtain ⟨c1, c2⟩ := hsr.cells
          have hsize : (a.eval x).cells.size = n := by rw [← hle.1, ← c1]; simp
          have hcl : xs.size = cs.length := by simpa using hc.1
          obtain ⟨hsz, _⟩ := foldl_set_get off (a.eval x).cells.toList 0 xs 0
          have hnew : CRs k w (over cs off v.cells) ((((a.eval x).cells.toList.zipIdx 0).foldl (fun cs (x : Value × Nat) => cs.setIfInBounds (off + x.2) x.1) xs).toList) := by
            refine ⟨by rw [over_length _ _ _ (by omega)]; simpa using hsz.trans hcl, fun j y hj => ?_⟩
            rw [over_get _ _ _ _ (by omega)] at hj
            obtain ⟨_, hget⟩ := foldl_set_get off (a.eval x).cells.toList 0 xs j
            rw [Array.getElem?_toList, hget]
            split at hj
            · rename_i hin
              rw [if_pos ⟨by omega, by simp [hsize]; omega, by omega⟩]
              simpa using c2 _ y hj
            · rename_i hin
              rw [if_neg (by simp [hsize]; omega)]
              simpa using hc.2 _ y hj
          obtain ⟨ys, h1, h2⟩ := fill_sound h hG htl hnew hr
          refine ⟨ys, ?_, h2⟩
          simp only [List.map_cons]
          unfold Instr.fill
          simp only [hp]
          rw [if_neg (by simp [hsize]; omega)]
          rw [← h1]
          congr 1
          rw [← Array.foldl_toList, Array.toList_zipIdx]
        · simp at hr
      · simp at hr
    · simp at hl

theorem maxV_sound : ∀ {vs : List V} {xs : List Value} {x r : V} {X : Value}, VR k w x X → xs.length = vs.length → (∀ (j : Nat) (v : V), vs[j]? = some v → ∃ y, xs[j]? = some y ∧ SR k w β A u v y) →
    maxV x vs = some r → ∃ z, (xs.foldlM Builtin.max2 X : Sem Value).run P w = .ok z w ∧ VR k w r z
  | [], xs, x, r, X, hx, hl, _, hr => by
    simp [maxV] at hr; subst hr
    have : xs = [] := by simpa using hl
    subst this
    exact ⟨X, rfl, hx⟩
  | v :: vs, xs, x, r, X, hx, hl, hv, hr => by
    cases xs with
    | nil => simp at hl
    | cons y ys =>
      unfold maxV at hr
      split at hr
      · rename_i heq; simp at heq
      · rename_i i p j q r' heq
        simp only [List.cons.injEq] at heq
        obtain ⟨rfl, rfl⟩ := heq
        obtain ⟨y', hy', hsr⟩ := hv 0 (.int j q) (by simp)
        simp at hy'; subst hy'
        cases sr_int hsr
        cases hx
        obtain ⟨z, hz, hrz⟩ := maxV_sound (.int i (if q > p then q else p)) (by simpa using hl) (fun j v hj => by simpa using hv (j + 1) v (by simpa using hj)) hr
        refine ⟨z, ?_, hrz⟩
        simp only [List.foldlM_cons, Builtin.max2, Sem.run_bind, Sem.run_pure, Result.andThen_ok]
        exact hz
      · simp at hr

theorem minV_sound : ∀ {vs : List V} {xs : List Value} {x r : V} {X : Value}, VR k w x X → xs.length = vs.length → (∀ (j : Nat) (v : V), vs[j]? = some v → ∃ y, xs[j]? = some y ∧ SR k w β A u v y) →
    minV x vs = some r → ∃ z, (xs.foldlM Builtin.min2 X : Sem Value).run P w = .ok z w ∧ VR k w r z
  | [], xs, x, r, X, hx, hl, _, hr => by
    simp [minV] at hr; subst hr
    have : xs = [] := by simpa using hl
    subst this
    exact ⟨X, rfl, hx⟩
  | v :: vs, xs, x, r, X, hx, hl, hv, hr => by
    cases xs with
    | nil => simp at hl
    | cons y ys =>
      unfold minV at hr
      split at hr
      · rename_i heq; simp at heq
      · rename_i i p j q r' heq
        simp only [List.cons.injEq] at heq
        obtain ⟨rfl, rfl⟩ := heq
        obtain ⟨y', hy', hsr⟩ := hv 0 (.int j q) (by simp)
        simp at hy'; subst hy'
        cases sr_int hsr
        cases hx
        obtain ⟨z, hz, hrz⟩ := minV_sound (.int i (if q < p then q else p)) (by simpa using hl) (fun j v hj => by simpa using hv (j + 1) v (by simpa using hj)) hr
        refine ⟨z, ?_, hrz⟩
        simp only [List.foldlM_cons, Builtin.min2, Sem.run_bind, Sem.run_pure, Result.andThen_ok]
        exact hz
      · simp at hr

/-- The elements of a slice's relation, from another place on. -/
theorem vec_sub {xs : List V} {c c' : Cap} {x : Value} (h : VR k w (.vec xs c) x) {lo hi : Nat} (hlo : lo ≤ hi) (hhi : hi ≤ xs.length) (hc : c'.shared = true) {base : Option Addr} {len cap : Nat}
    (hx : x = .slice base len cap) {el : TypeId} {sz m : Nat} (hm : hi ≤ m) (hmc : m ≤ cap) (hfull : c' = .full → m = hi) (hsz : lo = 0 ∨ ∀ e ∈ xs, e.cells.length = sz) :
    VR k w (.vec ((xs.take hi).drop lo) c') (.slice (if m = lo then base else base.map (·.add (lo * sz))) (hi - lo) (m - lo)) := by
  subst hx
  cases h with
  | vecNil _ _ =>
    have : m = 0 := by omega
    subst this
    have h1 : hi = 0 := by simpa using hhi
    subst h1
    have h2 : lo = 0 := by omega
    subst h2
    simp
    exact .vecNil _ hc
  | vec _ _ ad _ _ sz' val hcs hlen hcap hf hs hcell hval =>
    by_cases hml : m = lo
    · rw [if_pos hml]
      have h1 : hi = lo := by omega
      subst h1
      have h2 : (xs.take hi).drop hi = [] := by simp
      rw [h2]
      exact .vec [] c' ad _ _ sz' val hc (by simp) (by omega) (fun _ => by omega) (by simp) (by simp) (by simp)
    · rw [if_neg hml]
      simp only [Option.map_some]
      have hls : lo * sz = lo * sz' ∨ xs = [] := by
        rcases hsz with h0 | h0
        · subst h0; simp
        · cases xs with
          | nil => exact .inr rfl
          | cons e r => exact .inl (by rw [← h0 e (by simp), hs 0 e (by simp)])
      have hls : ad.add (lo * sz) = ad.add (lo * sz') := by
        rcases hls with h0 | h0
        · rw [h0]
        · subst h0
          have : lo = 0 := by simp at hhi; omega
          subst this; simp
      rw [hls]
      refine .vec _ c' (ad.add (lo * sz')) _ _ sz' (fun i j => val (lo + i) j) hc (by simp; omega) (by omega) (fun hx => by have := hfull hx; omega) ?_ ?_ ?_
      · intro i e he
        rw [List.getElem?_drop] at he
        exact hs _ _ (take_get he).1
      · intro i e j v he hj
        rw [List.getElem?_drop] at he
        have h1 := (take_get he).1
        have h2 := hcell _ _ _ _ h1 hj
        have e1 : (ad.add (lo * sz')).add (i * sz' + j) = ad.add ((lo + i) * sz' + j) := by
          rw [addr_add_add, Nat.add_mul, Nat.add_assoc]
        rw [e1, addr_add_block]
        exact h2
      · intro i e j v he hj
        rw [List.getElem?_drop] at he
        exact hval _ _ _ _ (take_get he).1 hj


/-- A bound that is given. -/
theorem bound_some {v : V} {d cap n : Nat} (h : bound (some v) d cap = some n) : ∃ i m, v = .int i m ∧ 0 ≤ m ∧ m ≤ cap ∧ n = m.toNat := by
  unfold bound at h
  split at h
  · rename_i heq; simp at heq
  · rename_i i m heq
    simp only [Option.some.injEq] at heq
    split at h
    · rename_i hc
      simp only [Option.some.injEq] at h
      exact ⟨i, m, heq, hc.1, hc.2, h.symm⟩
    · simp at h
  · simp at h

theorem bound_le {v : Option V} {d cap n : Nat} (h : bound v d cap = some n) (hd : d ≤ cap) : n ≤ cap := by
  cases v with
  | none => simp [bound] at h; omega
  | some v =>
    obtain ⟨i, m, _, h0, h1, rfl⟩ := bound_some h
    omega

/-- One bound, as the model reads it. -/
theorem run_bound {v : V} {X : Value} {d cap n : Nat} (hx : SR k w β A u v X) (h : bound (some v) d cap = some n) {y : Nat} (hy : cap ≤ y) (code : BoundsCode) :
    (Instr.sliceBound X y code).run P w = .ok n w := by
  obtain ⟨i, m, rfl, h0, h1, rfl⟩ := bound_some h
  cases sr_int hx
  have hc : 0 ≤ m ∧ m ≤ (y : Int) := ⟨h0, by omega⟩
  simp [Instr.sliceBound, asIntOf, hc]

/-- Optional operands and their values go together. -/
def OptSR (k : Ctx) (w : World) (β : Nat → Nat) (A : Nat → Prop) (u : List Nat) : Option V → Option Value → Prop
  | none, none => True
  | some v, some x => SR k w β A u v x
  | _, _ => False

def LowOK (P : Program) (w : World) (L : Option Value) (y n : Nat) : Prop :=
  match L with
  | some v => ∀ code, (Instr.sliceBound v y code).run P w = .ok n w
  | none => n = 0

theorem lowOK {lo : Option V} {L : Option Value} (hl : OptSR k w β A u lo L) {n y : Nat} (h : bound lo 0 y = some n) : LowOK P w L y n := by
  cases lo with
  | none => cases L with
    | none => simp [bound] at h; exact h.symm
    | some _ => exact hl.elim
  | some v => cases L with
    | none => exact hl.elim
    | some X => exact fun code => run_bound hl h (Nat.le_refl _) code

/-- The three bounds of a slice, read in the model's order: the highest first. -/
theorem run_sliceAt3 {t el : TypeId} {sz : Nat} (hu : P.underlying t = some (.slice el)) (hs : sizeT P el = some sz) {base : Option Addr} {len cap l h m : Nat} {L Hh M : Option Value}
    (hm : (match M with | some v => (Instr.sliceBound v cap .slice3Acap).run P w = .ok m w | none => m = cap))
    (hh : (match Hh, M with | some v, some _ => (Instr.sliceBound v m .slice3B).run P w = .ok h w | some v, none => (Instr.sliceBound v m .sliceAcap).run P w = .ok h w | none, none => h = len | none, some _ => False))
    (hl : LowOK P w L h l) :
    (Instr.sliceAt t (.slice base len cap) L Hh M).run P w = .ok (.slice (if m = l then base else base.map (·.add (l * sz))) (h - l) (m - l)) w := by
  cases M <;> cases Hh <;> cases L <;> simp only [LowOK] at hm hh hl <;> first | exact hh.elim | skip
  all_goals
    first | (subst hm) | skip
    first | (subst hh) | skip
    first | (subst hl) | skip
    simp [Instr.sliceAt, Instr.slice, Instr.sliceBounds, run_underlying hu, run_sizeOf hs, *]

theorem slc_vec {xs : List V} {c : Cap} {v : V} {X : Value} {lo hi mx : Option V} {L Hh M : Option Value} (hx : SR k w β A u (.vec xs c) X) (hl : OptSR k w β A u lo L) (hh : OptSR k w β A u hi Hh)
    (hm : OptSR k w β A u mx M) {t el : TypeId} {sz : Nat} (hu : P.underlying t = some (.slice el)) (hs : sizeT P el = some sz) (hv : slcV (.vec xs c) lo hi mx sz = some v) :
    ∃ z, (Instr.sliceAt t X L Hh M).run P w = .ok z w ∧ SR k w β A u v z := by
  have hx' := hx.vec
  obtain ⟨base, len, cap, rfl, hle, hcap, hf⟩ : ∃ base len cap, X = .slice base len cap ∧ len = xs.length ∧ len ≤ cap ∧ (c = .full → cap = len) := by
    cases hx' with
    | vecNil _ _ => exact ⟨none, 0, 0, rfl, rfl, Nat.le_refl _, fun _ => rfl⟩
    | vec _ _ ad len cap sz' val hc hlen hcap hf hs hcell hval => exact ⟨some ad, len, cap, rfl, hlen, hcap, fun h => hf (capOut_full h)⟩
  simp only [slcV] at hv
  cases mx with
  | none =>
    cases M with
    | some _ => exact hm.elim
    | none =>
      simp only at hv
      split at hv
      · rename_i b hbd
        split at hv
        · rename_i a' had
          split at hv
          · rename_i hsz
            simp only [Option.some.injEq] at hv; subst hv
            have hble := bound_le hbd (Nat.le_refl _)
            have hale := bound_le had (Nat.zero_le _)
            refine ⟨_, run_sliceAt3 hu hs (m := cap) (h := b) (l := a') rfl ?_ (lowOK hl had), VR.sr (vec_sub hx' hale hble ?_ rfl (el := el) (m := cap) (by omega) (Nat.le_refl _) ?_ hsz)⟩
            · cases hi with
              | none => cases Hh with
                | none => simp [bound] at hbd; simp only []; omega
                | some _ => exact hh.elim
              | some v => cases Hh with
                | none => exact hh.elim
                | some X => exact run_bound hh hbd (by omega) _
            · split <;> rfl
            · intro h
              split at h
              · rename_i hc; rw [hf hc.1, hle]; exact hc.2.symm
              · simp at h
          · simp at hv
        · simp at hv
      · simp at hv
  | some m0 =>
    cases M with
    | none => exact hm.elim
    | some M0 =>
      simp only at hv
      split at hv
      · rename_i m hmd
        split at hv
        · rename_i b hbd
          split at hv
          · rename_i a' had
            split at hv
            · rename_i hsz
              simp only [Option.some.injEq] at hv; subst hv
              have hmle := bound_le hmd (Nat.zero_le _)
              have hbd' : bound hi 0 m = some b := by
                split at hbd
                · exact hbd
                · simp at hbd
              have hble := bound_le hbd' (Nat.zero_le _)
              have hale := bound_le had (Nat.zero_le _)
              cases hi with
              | none => cases Hh with
                | none => simp at hbd
                | some _ => exact hh.elim
              | some v => cases Hh with
                | none => exact hh.elim
                | some X =>
                  refine ⟨_, run_sliceAt3 hu hs (m := m) (h := b) (l := a') (run_bound hm hmd (by omega) _) (run_bound hh (by simpa using hbd) (Nat.le_refl _) _) (lowOK hl had), VR.sr (vec_sub hx' hale (by omega) ?_ rfl (el := el) (m := m) (by omega) (by omega) ?_ hsz)⟩
                  · split <;> rfl
                  · intro h
                    split at h
                    · rename_i hc; exact hc.symm
                    · simp at h
            · simp at hv
          · simp at hv
        · simp at hv
      · simp at hv

theorem slc_ref {id off len z : Nat} {v : V} {X : Value} {lo hi mx : Option V} {L Hh M : Option Value} (hx : SR k w β A u (.ref id off len z) X) (hl : OptSR k w β A u lo L) (hh : OptSR k w β A u hi Hh)
    (hm : OptSR k w β A u mx M) {t el : TypeId} {sz : Nat} (hu : P.underlying t = some (.slice el)) (hs : sizeT P el = some sz) (hv : slcV (.ref id off len z) lo hi mx sz = some v) :
    ∃ y, (Instr.sliceAt t X L Hh M).run P w = .ok y w ∧ SR k w β A u v y := by
  cases (show VR k w (.ref id off len z) X from hx) with
  | ref _ _ _ _ cap b hb hid hlc hcap =>
    cases mx with
    | some _ => simp [slcV] at hv
    | none =>
      cases M with
      | some _ => exact hm.elim
      | none =>
        simp only [slcV] at hv
        split at hv
        · rename_i hz
          subst hz
          split at hv
          · rename_i h' hbd
            split at hv
            · rename_i a' had
              have hble := bound_le hbd (Nat.le_refl _)
              have hale := bound_le had (Nat.zero_le _)
              refine ⟨_, run_sliceAt3 hu hs (m := cap) (h := h') (l := a') rfl ?_ (lowOK hl had), VR.sr ?_⟩
              · cases hi with
                | none => cases Hh with
                  | none => simp [bound] at hbd; simp only []; omega
                  | some _ => exact hh.elim
                | some v => cases Hh with
                  | none => exact hh.elim
                  | some X => exact run_bound hh hbd (by omega) _
              · split at hv
                · rename_i hlt
                  simp only [Option.some.injEq] at hv; subst hv
                  rw [if_neg (by omega)]
                  simp only [Option.map_some, addr_mk]
                  refine .ref id _ _ _ _ b hb hid (by omega) ?_
                  have : off + a' * z + (cap - a') * z = off + cap * z := by
                    rw [Nat.sub_mul]
                    have := Nat.mul_le_mul_right z (show a' ≤ cap by omega)
                    omega
                  rw [this]; exact hcap
                · rename_i hlt
                  simp only [Option.some.injEq] at hv; subst hv
                  have h0 : h' - a' = 0 := by omega
                  rw [h0]
                  have e1 : (if cap = a' then (some ⟨b, off, none⟩ : Option Addr) else (some (⟨b, off, none⟩ : Addr)).map (·.add (a' * z))) = some ⟨b, (if cap = a' then off else off + a' * z), none⟩ := by
                    split <;> simp [addr_mk]
                  rw [e1]
                  exact .vec [] .any _ 0 _ 0 (fun _ _ => undef) rfl rfl (by omega) (by simp) (by simp) (by simp) (by simp)
            · simp at hv
          · simp at hv
        · simp at hv

theorem slc_str {s : ByteArray} {v : V} {X : Value} {lo hi mx : Option V} {L Hh M : Option Value} (hx : SR k w β A u (.str s) X) (hl : OptSR k w β A u lo L) (hh : OptSR k w β A u hi Hh)
    (hm : OptSR k w β A u mx M) {t : TypeId} (hu : P.underlying t = some .string) (hv : slcSV (.str s) lo hi mx = some v) :
    ∃ y, (Instr.sliceAt t X L Hh M).run P w = .ok y w ∧ SR k w β A u v y := by
  cases sr_str hx
  cases mx with
  | some _ => simp [slcSV] at hv
  | none =>
    cases M with
    | some _ => exact hm.elim
    | none =>
      simp only [slcSV] at hv
      split at hv
      · rename_i b _ hbd
        split at hv
        · rename_i a' had
          simp only [Option.some.injEq] at hv; subst hv
          refine ⟨.string (s.extract a' b), ?_, VR.sr (.str _)⟩
          have h1 : (match Hh with | some v => ∀ code, (Instr.sliceBound v s.size code).run P w = .ok b w | none => b = s.size) := by
            cases hi with
            | none => cases Hh with
              | none => simp [bound] at hbd; exact hbd.symm
              | some _ => exact hh.elim
            | some v => cases Hh with
              | none => exact hh.elim
              | some X => exact fun code => run_bound hh hbd (Nat.le_refl _) code
          have h2 : (match L with | some v => ∀ code, (Instr.sliceBound v b code).run P w = .ok a' w | none => a' = 0) := by
            cases lo with
            | none => cases L with
              | none => simp [bound] at had; exact had.symm
              | some _ => exact hl.elim
            | some v => cases L with
              | none => exact hl.elim
              | some X => exact fun code => run_bound hl had (Nat.le_refl _) code
          cases Hh <;> cases L <;> simp only [] at h1 h2
          all_goals
            first | (subst h1) | skip
            first | (subst h2) | skip
            simp [Instr.sliceAt, Instr.slice, Instr.sliceBounds, run_underlying hu, *]
        · simp at hv
      · simp at hv

end
end Go.Ab
