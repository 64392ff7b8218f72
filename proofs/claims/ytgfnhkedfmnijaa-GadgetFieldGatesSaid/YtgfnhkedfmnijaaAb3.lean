/- The relation between a running function of the layer Ab (slots, local boxes, rights to append, the store) and the model's frame and world; how it is kept by one new value, one new block, one changed block. -/
import Derived.Test.YtgfnhkedfmnijaaAb2
set_option linter.unusedVariables false
set_option linter.unusedSimpArgs false
namespace Go.Ab

/-- The right to append in place, with stamp 's'. -/
def OwnOK (k : Ctx) (w : World) (β : Nat → Nat) (A : Nat → Prop) (s : Nat) (xs : List V) (x : Value) : Prop :=
  A s ∧ ∃ (a : Addr) (cap sz : Nat), x = .slice (some a) xs.length cap ∧ a.block = β s ∧ a.spot = none ∧ 0 < sz ∧ xs ≠ [] ∧
    (∀ e ∈ xs, e.cells.length = sz) ∧ a.off + xs.length * sz = k.lim (β s) ∧ capOK w (β s) (a.off + cap * sz)

def SR1 (k : Ctx) (w : World) (β : Nat → Nat) (A : Nat → Prop) (u : List Nat) : V → Value → Prop
  | .vec xs (.own s), x => VR k w (.vec xs .any) x ∧ (s ∉ u → OwnOK k w β A s xs x)
  | .lptr s z o, x => x = .pointer (some ⟨β s, o, none⟩) ∧ A s ∧ k.lim (β s) = 0 ∧ ∃ c e, w.heap[β s]? = some (.cells c e (0, 0)) ∧ c.size = z
  | .itr id, x => x = .pointer (some ⟨k.ω id, 0, none⟩) ∧ id < k.nx
  | .undef, _ => True
  | v, x => VR k w v x

def SR (k : Ctx) (w : World) (β : Nat → Nat) (A : Nat → Prop) (u : List Nat) : V → Value → Prop
  | .tuple vs, x => ∃ xs : Array Value, x = .tuple xs ∧ xs.size = vs.length ∧ ∀ (j : Nat) (v : V), vs[j]? = some v → ∃ y, xs[j]? = some y ∧ SR1 k w β A u v y
  | v, x => SR1 k w β A u v x

theorem SR.eq1 {k : Ctx} {w : World} {β : Nat → Nat} {A : Nat → Prop} {u : List Nat} {v : V} {x : Value} (hv : ∀ vs, v ≠ .tuple vs) : SR k w β A u v x = SR1 k w β A u v x := by
  cases v <;> first | rfl | exact absurd rfl (hv _)

/-- A value that is as good in the store as in a frame. -/
def V.plain : V → Bool
  | .vec _ (.own _) | .lptr .. | .itr _ | .undef | .tuple _ => false
  | _ => true

theorem SR1.of_plain {k : Ctx} {w : World} {β : Nat → Nat} {A : Nat → Prop} {u : List Nat} {v : V} {x : Value} (hp : v.plain = true) : SR1 k w β A u v x = VR k w v x := by
  cases v with
  | vec xs c => cases c <;> first | rfl | simp [V.plain] at hp
  | undef => simp [V.plain] at hp
  | lptr => simp [V.plain] at hp
  | itr => simp [V.plain] at hp
  | _ => rfl

theorem SR.of_plain {k : Ctx} {w : World} {β : Nat → Nat} {A : Nat → Prop} {u : List Nat} {v : V} {x : Value} (hp : v.plain = true) : SR k w β A u v x = VR k w v x := by
  cases v with
  | tuple vs => simp [V.plain] at hp
  | _ => rw [SR.eq1 (by simp)]; exact SR1.of_plain hp

theorem VR.plain {k : Ctx} {w : World} {v : V} {x : Value} (h : VR k w v x) : v.plain = true := by
  cases h <;> first | rfl | (rename_i c hc; cases c <;> first | rfl | simp [Cap.shared] at hc) | (rename_i hc _ _ _ _ _ _; revert hc; cases ‹Cap› <;> simp [Cap.shared, V.plain])

theorem VR.sr {k : Ctx} {w : World} {β : Nat → Nat} {A : Nat → Prop} {u : List Nat} {v : V} {x : Value} (h : VR k w v x) : SR k w β A u v x := by
  rw [SR.of_plain h.plain]; exact h
theorem VR.sr1 {k : Ctx} {w : World} {β : Nat → Nat} {A : Nat → Prop} {u : List Nat} {v : V} {x : Value} (h : VR k w v x) : SR1 k w β A u v x := by
  rw [SR1.of_plain h.plain]; exact h

theorem VR.any {k : Ctx} {w : World} {xs : List V} {c : Cap} {x : Value} (h : VR k w (.vec xs c) x) : VR k w (.vec xs .any) x := by
  cases h with
  | vecNil c hc => exact .vecNil .any rfl
  | vec xs c a len cap sz val hc hlen hcap hfull hsz hcell hval => exact .vec xs .any a len cap sz val rfl hlen hcap (by simp) hsz hcell hval

/-- What leaves the frame. -/
theorem SR1.out {k : Ctx} {w : World} {β : Nat → Nat} {A : Nat → Prop} {u : List Nat} {v v' : V} {x : Value} (h : SR1 k w β A u v x) (ho : v.out = some v') : VR k w v' x := by
  cases v with
  | vec xs c =>
    cases c with
    | own s => simp [V.out] at ho; subst ho; exact h.1
    | any => simp [V.out] at ho; subst ho; exact h
    | full => simp [V.out] at ho; subst ho; exact h
  | undef => simp [V.out] at ho
  | lptr => simp [V.out] at ho
  | itr => simp [V.out] at ho
  | tuple => simp [V.out] at ho
  | _ => simp [V.out] at ho; subst ho; exact h

theorem SR.out {k : Ctx} {w : World} {β : Nat → Nat} {A : Nat → Prop} {u : List Nat} {v v' : V} {x : Value} (h : SR k w β A u v x) (ho : v.out = some v') : VR k w v' x := by
  by_cases hv : ∀ vs, v ≠ .tuple vs
  · rw [SR.eq1 hv] at h; exact h.out ho
  · cases v with
    | tuple => simp [V.out] at ho
    | _ => exact absurd (fun vs => by simp) hv

def capOut : Cap → Cap
  | .own _ => .any
  | c => c

theorem capOut_full {c : Cap} (h : c = .full) : capOut c = .full := by subst h; rfl

theorem SR.vec {k : Ctx} {w : World} {β : Nat → Nat} {A : Nat → Prop} {u : List Nat} {xs : List V} {c : Cap} {x : Value} (h : SR k w β A u (.vec xs c) x) : VR k w (.vec xs (capOut c)) x :=
  SR.out h (by cases c <;> rfl)

/-- The state at a function's entry; 'res': stamps that are kept for boxes which a region in no set order has still to make. -/
structure Entry where
  k : Ctx
  h : H
  w : World
  res : Nat → Prop

def ORel (k : Ctx) (w : World) (h : H) : O → Option Obj → Prop
  | .cells cs, o => ∃ c e, o = some (.cells c e (0, 0)) ∧ cs.length ≤ c.size ∧ CRs k w cs (c.toList.take cs.length)
  | .map es ver, o => ∃ en clock, o = some (.map en clock) ∧ en.size = es.length ∧
      (∀ (j : Nat) (a v : V), es[j]? = some (a, v) → ∃ e, en[j]? = some e ∧ VR k w a e.key ∧ VR k w v e.val) ∧
      (∀ (i j : Nat) (a b : MapEntry), en[i]? = some a → en[j]? = some b → i < j → a.born < b.born) ∧ (∀ (i : Nat) (a : MapEntry), en[i]? = some a → a.born < clock)
  | .iter m ver seen, o => ∃ since sb stepped, o = some (.mapIter (some (k.ω m)) since sb stepped) ∧ m < k.nx ∧
      ∀ es ver' en clock, h.objs m = some (.map es ver') → w.heap[k.ω m]? = some (.map en clock) →
        ver ≤ ver' ∧ (ver = ver' → since = clock ∧ stepped = clock ∧ seen.Nodup ∧ (∀ j ∈ seen, j < es.length) ∧ sb.toList = seen.reverse.map fun j => (en.getD j default).born)

structure WR (k : Ctx) (h : H) (w : World) (G : List (Nat × List V)) : Prop where
  nx : k.nx = h.next
  obj : ∀ (id : Nat) (o : O), h.objs id = some o → id < h.next ∧ k.ω id < w.heap.size ∧ k.lim (k.ω id) = 0 ∧ ORel k w h o w.heap[k.ω id]?
  inj : ∀ (id id' : Nat) (o o' : O), h.objs id = some o → h.objs id' = some o' → k.ω id = k.ω id' → id = id'
  glob : ∀ g cells, (g, cells) ∈ G → VR k w (.iptr cells) (.pointer (some ⟨g, 0, none⟩))

structure Old (e : Entry) (k : Ctx) (h : H) (w : World) : Prop where
  keeps : Keeps e.k k e.w w
  lim : ∀ (b : Nat), b < e.w.heap.size → k.lim b = e.k.lim b
  same : ∀ (b : Nat), b < e.w.heap.size → (∀ id o, e.h.objs id = some o → e.k.ω id ≠ b) → w.heap[b]? = e.w.heap[b]?
  src : ∀ (id : Nat) (o : O), h.objs id = some o → k.ω id < e.w.heap.size → ∃ id0 o0, e.h.objs id0 = some o0 ∧ e.k.ω id0 = k.ω id
  misc : w.tape = e.w.tape ∧ w.os = e.w.os ∧ w.output = e.w.output

structure FW (G : List (Nat × List V)) (N : Nat) (e : Entry) (k : Ctx) (β : Nat → Nat) (A : Nat → Prop) (st : S) (a : Act) (w : World) : Prop where
  slot : ∀ (t : Nat), SR k w β A st.u (st.ρ t) (a.tmps.getD t undef)
  size : a.tmps.size = N
  defers : a.defers = []
  mem : ∀ (s : Nat) (cs : List V), st.m s = some cs → A s ∧ k.lim (β s) = 0 ∧ ∃ c e, w.heap[β s]? = some (.cells c e (0, 0)) ∧ c.size = cs.length ∧
    ∀ (j : Nat) (v : V), cs[j]? = some v → ∃ x, c[j]? = some x ∧ SR1 k w β A st.u v x ∧ x.oneCell' = true
  alloc : ∀ (s : Nat), A s → s < st.n ∧ e.w.heap.size ≤ β s ∧ β s < w.heap.size ∧ ∀ id o, st.h.objs id = some o → k.ω id ≠ β s
  ainj : ∀ (s s' : Nat), A s → A s' → β s = β s' → s = s'
  res : ∀ (s : Nat), e.res s → s < st.n ∧ ¬ A s
  wr : WR k st.h w G
  old : Old e k st.h w

def Inv (G : List (Nat × List V)) (N : Nat) (e : Entry) (st : S) (a : Act) (w : World) : Prop := ∃ k β A, FW G N e k β A st a w

/-- What a frame's values need of a later state: 'Keeps', and that the stamps' blocks stay what they are. -/
structure Stays (k k' : Ctx) (w w' : World) (β β' : Nat → Nat) (A A' : Nat → Prop) (u u' : List Nat) : Prop where
  keeps : Keeps k k' w w'
  beta : ∀ s, A s → A' s ∨ s ∈ u'
  same : ∀ s, A s → β' s = β s
  used : ∀ s, s ∈ u → s ∈ u'
  lim : ∀ s, A s → s ∉ u' → k'.lim (β s) = k.lim (β s)
  lim0 : ∀ s, A s → k.lim (β s) = 0 → A' s ∧ k'.lim (β s) = 0

theorem SR1.mono {k k' : Ctx} {w w' : World} {β β' : Nat → Nat} {A A' : Nat → Prop} {u u' : List Nat} {v : V} {x : Value}
    (h : SR1 k w β A u v x) (hs : Stays k k' w w' β β' A A' u u') : SR1 k' w' β' A' u' v x := by
  cases v with
  | vec xs c =>
    cases c with
    | own s =>
      refine ⟨VR.mono h.1 hs.keeps, fun hu => ?_⟩
      have hu0 : s ∉ u := fun hx => hu (hs.used s hx)
      obtain ⟨hA, a, cap, sz, hx, hb, hsp, hsz, hne, hall, hend, hc⟩ := h.2 hu0
      have hA' : A' s := (hs.beta s hA).resolve_right hu
      refine ⟨hA', a, cap, sz, hx, by rw [hs.same s hA]; exact hb, hsp, hsz, hne, hall, ?_, ?_⟩
      · rw [hs.same s hA, hs.lim s hA hu]; exact hend
      · rw [hs.same s hA]; exact hc.mono hs.keeps
    | any => exact VR.mono h hs.keeps
    | full => exact VR.mono h hs.keeps
  | lptr s z o =>
    obtain ⟨hx, hA, hl, c, e, hc, hz⟩ := h
    obtain ⟨hA', hl'⟩ := hs.lim0 s hA hl
    obtain ⟨c', hc', hz'⟩ := hs.keeps.rows _ c e hc
    exact ⟨by rw [hs.same s hA]; exact hx, hA', by rw [hs.same s hA]; exact hl', c', e, by rw [hs.same s hA]; exact hc', by omega⟩
  | itr id => exact ⟨by rw [hs.keeps.om id h.2]; exact h.1, Nat.lt_of_lt_of_le h.2 hs.keeps.nx⟩
  | undef => trivial
  | tuple vs => exact VR.mono (h : VR k w (.tuple vs) x) hs.keeps
  | bool | int | str | ref | iptr | ptr | nilptr | map | nilmap | func | nilfunc | iface | niliface | agg => exact VR.mono h hs.keeps

theorem SR.mono {k k' : Ctx} {w w' : World} {β β' : Nat → Nat} {A A' : Nat → Prop} {u u' : List Nat} {v : V} {x : Value}
    (h : SR k w β A u v x) (hs : Stays k k' w w' β β' A A' u u') : SR k' w' β' A' u' v x := by
  cases v with
  | tuple vs =>
    obtain ⟨xs, hx, hsz, hall⟩ := h
    exact ⟨xs, hx, hsz, fun j v hj => let ⟨y, hy, hr⟩ := hall j v hj; ⟨y, hy, hr.mono hs⟩⟩
  | _ => rw [SR.eq1 (by simp)] at h ⊢; exact h.mono hs

theorem ofVal0_sound {k : Ctx} {w : World} {v : Value} {u : V} (hu : ofVal0 v = some u) : VR k w u v := by
  unfold ofVal0 at hu
  split at hu
  case h_9 f p q =>
    split at hu
    · rename_i hpq
      simp only [Option.some.injEq] at hu
      subst hu
      exact .func _ [] [] p q (fun _ => undef) (fun _ => undef) hpq.1 hpq.2 (by simp) (by simp) (by simp) (by simp)
    · simp at hu
  all_goals (simp only [Option.some.injEq, reduceCtorEq] at hu <;> subst hu)
  all_goals first | exact .vecNil _ rfl | constructor

theorem ofVals_sound {k : Ctx} {w : World} : ∀ {cs : List Value} {l : List V}, ofVals cs = some l → CRs k w l cs
  | [], l, hl => by simp [ofVals] at hl; subst hl; exact ⟨rfl, by simp⟩
  | c :: cs, l, hl => by
    simp only [ofVals] at hl
    split at hl
    · rename_i p q hp hq
      simp at hl; subst hl
      obtain ⟨h1, h2⟩ := ofVals_sound hq
      have hr : VR k w p c := ofVal0_sound hp
      refine ⟨by simp [h1], fun j v hj => ?_⟩
      cases j with
      | zero =>
        simp at hj; subst hj
        refine ⟨c, by simp, hr, hr.one (fun l hl => ?_)⟩
        subst hl
        unfold ofVal0 at hp
        split at hp
        case h_9 => split at hp <;> simp at hp
        all_goals simp at hp
      | succ j => simpa using h2 j v (by simpa using hj)
    · simp at hl

theorem ofVal_sound {k : Ctx} {w : World} {v : Value} {u : V} (hu : ofVal v = some u) : VR k w u v := by
  unfold ofVal at hu
  split at hu
  · rename_i cs
    simp only [Option.map_eq_some_iff] at hu
    obtain ⟨l, hl, rfl⟩ := hu
    exact VR.of_cells (ofVals_sound hl)
  · exact ofVal0_sound hu

theorem getD_set (xs : Array Value) (d t : Nat) (v : Value) (hd : d < xs.size) : (xs.setIfInBounds d v).getD t undef = if t = d then v else xs.getD t undef := by
  simp only [Array.getD_eq_getD_getElem?, Array.getElem?_setIfInBounds]
  by_cases h : d = t
  · subst h; simp [hd]
  · have h' : ¬ t = d := fun x => h x.symm
    simp [h, h']

section
variable {G : List (Nat × List V)} {N : Nat} {e : Entry} {k : Ctx} {β : Nat → Nat} {A : Nat → Prop} {st : S} {a : Act} {w : World}

/-- One new value in a slot. -/
theorem FW.put (h : FW G N e k β A st a w) {d : Option Nat} {v : V} {x : Value} (hd : ∀ t, d = some t → t < N) (hv : SR k w β A st.u v x) :
    FW G N e k β A (st.put d v) (a.put d x) w := by
  cases d with
  | none => exact h
  | some d =>
    have hd' : d < a.tmps.size := by rw [h.size]; exact hd d rfl
    refine { h with slot := fun t => ?_, size := ?_, defers := h.defers }
    · simp only [S.put, Act.put, upd]
      rw [getD_set _ _ _ _ hd']
      split <;> rename_i ht
      · exact hv
      · exact h.slot t
    · simp [Act.put, h.size]

theorem FW.tick (h : FW G N e k β A st a w) : FW G N e k β A st.tick a w :=
  { h with alloc := fun s hs => let ⟨x, y⟩ := h.alloc s hs; ⟨Nat.lt_succ_of_lt x, y⟩, res := fun s hs => ⟨Nat.lt_succ_of_lt (h.res s hs).1, (h.res s hs).2⟩ }

theorem FW.arg (h : FW G N e k β A st a w) {x : Arg} {o : Operand} {hs : Hints} (ht : trArg hs o = some x) (hG : ∀ g cells, (g, cells) ∈ hs.glob → (g, cells) ∈ G) :
    SR k w β A st.u (evA st.ρ x) (a.eval o) := by
  cases o with
  | tmp t => simp [trArg] at ht; subst ht; exact h.slot t
  | const v =>
    simp only [trArg, Option.map_eq_some_iff] at ht
    obtain ⟨u, hu, rfl⟩ := ht
    exact VR.sr (ofVal_sound hu)
  | global g =>
    simp only [trArg, Option.map_eq_some_iff] at ht
    obtain ⟨cells, ⟨p, hp, rfl⟩, rfl⟩ := ht
    have h1 := List.mem_of_find?_eq_some hp
    have h2 := List.find?_some hp
    have h3 : p.1 = g := by simpa using h2
    refine VR.sr (h.wr.glob g p.2 (hG _ _ ?_))
    rw [← h3]; exact h1
  | func f =>
    simp [trArg] at ht; subst ht
    exact VR.sr (.func _ [] [] #[] #[] (fun _ => undef) (fun _ => undef) rfl rfl (by simp) (by simp) (by simp) (by simp))

theorem FW.args (h : FW G N e k β A st a w) {hs : Hints} (hG : ∀ g cells, (g, cells) ∈ hs.glob → (g, cells) ∈ G) :
    ∀ {os : List Operand} {xs : List Arg}, trArgs hs os = some xs → xs.length = os.length ∧ ∀ (j : Nat) (x : Arg), xs[j]? = some x → ∃ o, os[j]? = some o ∧ SR k w β A st.u (evA st.ρ x) (a.eval o)
  | [], xs, ht => by simp [trArgs] at ht; subst ht; simp
  | o :: os, xs, ht => by
    simp only [trArgs] at ht
    split at ht
    · rename_i p q hp hq
      simp at ht; subst ht
      obtain ⟨h1, h2⟩ := FW.args h hG hq
      refine ⟨by simp [h1], fun j x hj => ?_⟩
      cases j with
      | zero => simp at hj; subst hj; exact ⟨o, by simp, h.arg hp hG⟩
      | succ j => simpa using h2 j x (by simpa using hj)
    · simp at ht
end

end Go.Ab
