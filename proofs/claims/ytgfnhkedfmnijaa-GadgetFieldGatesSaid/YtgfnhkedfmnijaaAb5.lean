/- What the readings of the layer Ab yield is what the model's operations yield (2): arithmetic, comparisons, conversions, parts, slices, lookups. -/
import Derived.Test.YtgfnhkedfmnijaaAb4
import Derived.Laws.StructEq
import Derived.Laws.Strings
import Derived.Laws.Slices
import Derived.MapKept
set_option linter.unusedVariables false
set_option linter.unusedSimpArgs false
namespace Go.Ab

section
variable {G : List (Nat × List V)} {N : Nat} {e : Entry} {k : Ctx} {β : Nat → Nat} {A : Nat → Prop} {st : S} {a : Act} {w : World} {P : Program} {u : List Nat}

theorem sr_int {i : IntKind} {n : Int} {x : Value} (h : SR k w β A u (.int i n) x) : x = .int i n := by
  cases (show VR k w (.int i n) x from h); rfl
theorem sr_bool {b : Bool} {x : Value} (h : SR k w β A u (.bool b) x) : x = .bool b := by
  cases (show VR k w (.bool b) x from h); rfl
theorem sr_str {s : ByteArray} {x : Value} (h : SR k w β A u (.str s) x) : x = .string s := by
  cases (show VR k w (.str s) x from h); rfl
theorem sr_agg {cs : List V} {x : Value} (h : SR k w β A u (.agg cs) x) : ∃ xs, x = .agg xs ∧ VR k w (.agg cs) (.agg xs) := by
  have h' : VR k w (.agg cs) x := h
  cases h' with
  | agg _ xs val hs hx hv => exact ⟨xs, rfl, .agg _ xs val hs hx hv⟩
theorem sr_asB {v : V} {x : Value} {b : Bool} (h : SR k w β A u v x) (hb : asB v = some b) : x = .bool b := by
  cases v <;> simp [asB] at hb
  subst hb; exact sr_bool h
theorem sr_isInt {v : V} {x : Value} {n : Int} (h : SR k w β A u v x) (hb : isInt v = some n) : ∃ i, v = .int i n ∧ x = .int i n := by
  cases v <;> simp [isInt] at hb
  subst hb; exact ⟨_, rfl, sr_int h⟩

theorem str_get (s : ByteArray) (i : Nat) : (s[i]? : Option UInt8) = s.data.toList[i]? := by
  rw [Array.getElem?_toList]
  by_cases h : i < s.size
  · have h' : i < s.data.size := h
    rw [getElem?_pos s i h, getElem?_pos s.data i h']; rfl
  · have h' : ¬ i < s.data.size := h
    rw [getElem?_neg s i h, getElem?_neg s.data i h']

theorem cmpI_sound {op : BinOp} {x y : Int} {v : V} (hv : cmpI op x y = some v) : ∃ z, (Op.intCmp op x y).run P w = .ok z w ∧ SR k w β A u v z := by
  cases op <;> simp [cmpI] at hv <;> subst hv <;> exact ⟨_, rfl, VR.sr (.bool _)⟩

theorem bits2_sound {op : BinOp} {i : IntKind} {x y : Int} {v : V} (hv : bits2 op i x y = some v) : ∃ z, (Op.intBits op i x y).run P w = .ok z w ∧ SR k w β A u v z := by
  cases op <;> simp only [bits2, Option.some.injEq, reduceCtorEq] at hv <;> subst hv <;> exact ⟨_, rfl, VR.sr (.int _ _)⟩

theorem binI_sound {op : BinOp} {t : TypeId} {i i' : IntKind} {x y : Int} {v : V} (hv : binI op i x i' y = some v) :
    ∃ z, (binOp op t (.int i x) (.int i' y)).run P w = .ok z w ∧ SR k w β A u v z := by
  cases op
  case shl =>
    simp only [binI] at hv
    split at hv
    · simp at hv
    · rename_i hy
      simp only [Option.some.injEq] at hv; subst hv
      exact ⟨_, by simp [binOp, Op.shift, hy], VR.sr (.int _ _)⟩
  case shr =>
    simp only [binI] at hv
    split at hv
    · simp at hv
    · rename_i hy
      simp only [Option.some.injEq] at hv; subst hv
      exact ⟨_, by simp [binOp, Op.shift, hy], VR.sr (.int _ _)⟩
  case quo =>
    simp only [binI] at hv
    split at hv
    · rename_i hk
      split at hv
      · simp at hv
      · rename_i hy
        simp only [Option.some.injEq] at hv; subst hv
        exact ⟨_, by simp [binOp, hk, Op.intDiv, hy], VR.sr (.int _ _)⟩
    · simp at hv
  case rem =>
    simp only [binI] at hv
    split at hv
    · rename_i hk
      split at hv
      · simp at hv
      · rename_i hy
        simp only [Option.some.injEq] at hv; subst hv
        exact ⟨_, by simp [binOp, hk, Op.intDiv, hy], VR.sr (.int _ _)⟩
    · simp at hv
  all_goals
    simp only [binI] at hv
    split at hv
    · rename_i hk
      subst hk
      simp only [binOp, ne_eq, not_true_eq_false, if_false]
      first
        | (simp only [Option.some.injEq] at hv; subst hv; exact ⟨_, rfl, VR.sr (.int _ _)⟩)
        | exact bits2_sound hv
        | exact cmpI_sound hv
    · simp at hv

theorem binS_sound {op : BinOp} {t : TypeId} {x y : ByteArray} {v : V} (hv : binS op x y = some v) :
    ∃ z, (binOp op t (.string x) (.string y)).run P w = .ok z w ∧ SR k w β A u v z := by
  cases op <;> simp only [binS, reduceCtorEq] at hv
  case add =>
    split at hv
    · rename_i hle
      simp only [Option.some.injEq] at hv; subst hv
      have hn : ¬ ((x.size + y.size : Nat) : Int) > IntKind.i64.max := by
        have : IntKind.i64.max = 9223372036854775807 := by decide
        rw [this]; omega
      exact ⟨.string (x ++ y), by simp only [binOp, Op.stringOp]; rw [if_neg hn]; rfl, VR.sr (.str _)⟩
    · simp at hv
  all_goals
    simp only [Option.some.injEq] at hv; subst hv
    refine ⟨_, rfl, ?_⟩
    first
      | (rw [bne, beq_toListBytes]; exact VR.sr (.bool _))
      | (rw [beq_toListBytes]; exact VR.sr (.bool _))
      | exact VR.sr (.bool _)

theorem eqC_sound {q : KK} {v v' : V} {x x' : Value} {b : Bool} {t : TypeId} (h : VR k w v x) (h' : VR k w v' x') (hb : eqC q v v' = some b) (ht : kindT P t = some q) (d : Nat) :
    (Op.equalIn (d + 1) t x x').run P w = .ok b w := by
  unfold kindT at ht
  cases q
  · have hu : ∃ i, P.underlying t = some (.int i) := by
      split at ht <;> simp at ht
      exact ⟨_, by assumption⟩
    obtain ⟨i, hu⟩ := hu
    cases h <;> cases h' <;> simp [eqC] at hb
    obtain ⟨h1, h2⟩ := hb
    subst h1; subst h2
    exact run_equalIn_int w d t _ i _ _ hu
  · have hu : P.underlying t = some .string := by
      split at ht <;> simp at ht
      assumption
    cases h <;> cases h' <;> simp [eqC] at hb
    subst hb
    rw [run_equalIn_string w d t _ _ hu, beq_toListBytes]
  · have hu : P.underlying t = some .bool := by
      split at ht <;> simp at ht
      assumption
    cases h <;> cases h' <;> simp [eqC] at hb
    subst hb
    exact run_equalIn_bool w d t _ _ hu

theorem part_one {cs : List V} {xs : Array Value} (h : VR k w (.agg cs) (.agg xs)) {t : TypeId} {off : Nat} {v : V} {q : KK} (ht : kindT P t = some q) (hv : cs[off]? = some v) :
    ∃ y, (part t xs off).run P w = .ok y w ∧ VR k w v y := by
  obtain ⟨y, hy, hr, _⟩ := h.cells.nth hv
  have hy' : xs[off]? = some y := by simpa [Value.cells] using hy
  have ha : aggT P t = some false := by
    unfold kindT at ht
    unfold aggT
    split at ht <;> simp at ht <;> simp [*]
  exact ⟨y, by simp [part, run_isAgg ha, hy'], hr⟩

theorem eqCs_sound {cs cs' : List V} {xs ys : Array Value} (h : VR k w (.agg cs) (.agg xs)) (h' : VR k w (.agg cs') (.agg ys)) (d : Nat) :
    ∀ {fs : List Field} {l : List (Nat × KK)} {b : Bool}, eqFields P fs = some l → eqCs l cs cs' = some b → (Op.eqFields (d + 1) xs ys fs).run P w = .ok b w
  | [], l, b, hl, hb => by
    simp [eqFields] at hl; subst hl
    simp [eqCs] at hb; subst hb
    rfl
  | f :: fs, l, b, hl, hb => by
    simp only [eqFields] at hl
    split at hl
    · rename_i q r hq hr
      split at hl
      · rename_i hn
        simp only [Option.some.injEq] at hl; subst hl
        simp only [eqCs] at hb
        split at hb
        · rename_i v v' hv hv'
          obtain ⟨y, hy, hry⟩ := part_one (P := P) h hq hv
          obtain ⟨y', hy', hry'⟩ := part_one (P := P) h' hq hv'
          split at hb
          · rename_i he
            have := eqC_sound (P := P) hry hry' he hq d
            simp only [Op.eqFields, if_pos hn, Sem.run_bind, hy, hy', this, Result.andThen_ok]
            exact eqCs_sound h h' d hr hb
          · rename_i he
            have := eqC_sound (P := P) hry hry' he hq d
            simp only [Option.some.injEq] at hb; subst hb
            simp [Op.eqFields, if_pos hn, hy, hy', this]
          · simp at hb
        · simp at hb
      · simp at hl
    · simp at hl

theorem eqKT_agg {t : TypeId} {l : List (Nat × KK)} (h : eqKT P t = some (.agg l)) :
    P.underlying t = some (.struct (P.fieldsOf t)) ∧ P.stoodInHeld t = false ∧ P.eqGuardType P.depth t = false ∧ eqFields P (P.fieldsOf t).toList = some l := by
  unfold eqKT at h
  split at h <;> simp at h
  rename_i fs hu
  have hf : P.fieldsOf t = fs := by simp [Program.fieldsOf, hu]
  rw [hf]
  exact ⟨hu, h.1.1, h.1.2, h.2⟩

theorem eqKT_bool {t : TypeId} (h : eqKT P t = some .bool) : P.underlying t = some .bool := by
  unfold eqKT at h
  split at h <;> simp at h
  assumption

theorem run_eqIn_map (d : Nat) {t p q : TypeId} (hu : P.underlying t = some (.map p q)) :
    (∀ m, (Op.equalIn (d + 1) t (.map none) (.map m)).run P w = .ok m.isNone w) ∧ (∀ m, (Op.equalIn (d + 1) t (.map (some m)) (.map none)).run P w = .ok false w) :=
  ⟨fun m => by simp only [Op.equalIn, Sem.run_bind, run_underlying hu, Result.andThen_ok, Sem.run_pure],
   fun m => by simp only [Op.equalIn, Sem.run_bind, run_underlying hu, Result.andThen_ok, Sem.run_pure]⟩

theorem run_eqIn_iface (d : Nat) {t : TypeId} {ms : Array (String × TypeId)} (hu : P.underlying t = some (.interface ms)) :
    ((Op.equalIn (d + 1) t .nilIface .nilIface).run P w = .ok true w) ∧ (∀ p x, (Op.equalIn (d + 1) t .nilIface (.iface p x)).run P w = .ok false w) ∧ (∀ p x, (Op.equalIn (d + 1) t (.iface p x) .nilIface).run P w = .ok false w) :=
  ⟨by simp only [Op.equalIn, Sem.run_bind, run_underlying hu, Result.andThen_ok, Sem.run_pure],
   fun p x => by simp only [Op.equalIn, Sem.run_bind, run_underlying hu, Result.andThen_ok, Sem.run_pure],
   fun p x => by simp only [Op.equalIn, Sem.run_bind, run_underlying hu, Result.andThen_ok, Sem.run_pure]⟩

/-- '==' and '!=' of values that are neither whole numbers nor strings. -/
theorem eqV_sound {t : TypeId} {ek : EqK} {x y : V} {X Y : Value} {b : Bool} {ox oy : Operand} (hk : eqKT P t = some ek) (hx : SR k w β A u x X) (hy : SR k w β A u y Y)
    (hn : ek = .nilI → (isCst ox || isCst oy) = true) (hb : eqV ek x y = some b) :
    (∀ o, (o = .eql ∨ o = .neq) → (eqGuard o t ox oy X Y).run P w = .ok () w) ∧
    (binOp .eql t X Y).run P w = .ok (.bool b) w ∧ (binOp .neq t X Y).run P w = .ok (.bool (!b)) w := by
  cases ek with
  | plain => simp [eqV] at hb
  | bool =>
    cases x <;> cases y <;> simp [eqV] at hb
    subst hb
    cases sr_bool hx; cases sr_bool hy
    have he := fun a b => run_equalIn_bool (P := P) w 9999 t a b (eqKT_bool hk)
    refine ⟨fun o ho => by rcases ho with rfl | rfl <;> simp [eqGuard], ?_, ?_⟩
    all_goals
      simp only [binOp, Op.equal, Op.maxDepth, Sem.run_bind, Sem.run_map, he, Result.andThen_ok, Sem.run_pure]
  | agg l =>
    cases x <;> cases y <;> simp [eqV] at hb
    obtain ⟨xs, rfl, hvx⟩ := sr_agg hx
    obtain ⟨ys, rfl, hvy⟩ := sr_agg hy
    obtain ⟨h1, h2, h3, h4⟩ := eqKT_agg hk
    have he := run_equalIn_struct (P := P) w 9999 t xs ys h1 h2
    rw [eqCs_sound hvx hvy 9998 h4 hb] at he
    refine ⟨fun o ho => run_eqGuard_agg w o t ox oy xs ys h3, ?_, ?_⟩
    all_goals
      simp only [binOp, Op.equal, Op.maxDepth, Sem.run_bind, Sem.run_map, he, Result.andThen_ok, Sem.run_pure]
  | nilM =>
    have hu : ∃ a b, P.underlying t = some (.map a b) := by
      unfold eqKT at hk
      split at hk <;> simp at hk
      exact ⟨_, _, by assumption⟩
    obtain ⟨a, b', hu⟩ := hu
    obtain ⟨e1, e2⟩ := run_eqIn_map (P := P) (w := w) 9999 hu
    cases x <;> cases y <;> simp [eqV, nils, isNilM] at hb
    all_goals
      subst hb
      cases (show VR k w _ X from hx)
      cases (show VR k w _ Y from hy)
      refine ⟨fun o ho => by rcases ho with rfl | rfl <;> simp [eqGuard], ?_, ?_⟩
      all_goals
        simp only [binOp, Op.equal, Op.maxDepth, Sem.run_bind, Sem.run_map, e1, e2, Result.andThen_ok, Sem.run_pure, Option.isNone]
        try rfl
  | nilI =>
    have hu : ∃ m, P.underlying t = some (.interface m) := by
      unfold eqKT at hk
      split at hk <;> simp at hk
      exact ⟨_, by assumption⟩
    obtain ⟨m, hu⟩ := hu
    obtain ⟨e1, e2, e3⟩ := run_eqIn_iface (P := P) (w := w) 9999 hu
    have hc := hn rfl
    have hg : ∀ o, (o = .eql ∨ o = .neq) → (eqGuard o t ox oy .nilIface .nilIface).run P w = .ok () w := by
      intro o ho
      rcases ho with rfl | rfl <;> cases ox <;> cases oy <;> simp [isCst] at hc <;> simp [eqGuard]
    cases x <;> cases y <;> simp [eqV, nils, isNilI] at hb
    all_goals
      subst hb
      cases (show VR k w _ X from hx)
      cases (show VR k w _ Y from hy)
      refine ⟨fun o ho => by first | exact hg o ho | (rcases ho with rfl | rfl <;> simp [eqGuard]), ?_, ?_⟩
      all_goals
        simp only [binOp, Op.equal, Op.maxDepth, Sem.run_bind, Sem.run_map, e1, e2, e3, Result.andThen_ok, Sem.run_pure]
        try rfl

theorem bin_sound {op : BinOp} {t : TypeId} {ek : EqK} {x y : V} {X Y : Value} {ox oy : Operand} {v : V} (hk : eqKT P t = some ek) (hx : SR k w β A u x X) (hy : SR k w β A u y Y)
    (hn : ek = .nilI → (isCst ox || isCst oy) = true) (hv : binV op ek x y = some v) :
    ∃ z, (do eqGuard op t ox oy X Y; binOp op t X Y : Sem Value).run P w = .ok z w ∧ SR k w β A u v z := by
  unfold binV at hv
  split at hv
  · cases sr_int hx; cases sr_int hy
    obtain ⟨z, h1, h2⟩ := binI_sound (P := P) (w := w) (k := k) (β := β) (A := A) (u := u) (t := t) hv
    refine ⟨z, ?_, h2⟩
    have hg : ∀ (i j : IntKind) (a b : Int), (eqGuard op t ox oy (.int i a) (.int j b)).run P w = .ok () w := by
      intro i j a b; cases op <;> simp [eqGuard]
    simp only [Sem.run_bind, hg, Result.andThen_ok, h1]
  · cases sr_str hx; cases sr_str hy
    obtain ⟨z, h1, h2⟩ := binS_sound (P := P) (w := w) (k := k) (β := β) (A := A) (u := u) (t := t) hv
    refine ⟨z, ?_, h2⟩
    have hg : ∀ (a b : ByteArray), (eqGuard op t ox oy (.string a) (.string b)).run P w = .ok () w := by
      intro a b; cases op <;> simp [eqGuard]
    simp only [Sem.run_bind, hg, Result.andThen_ok, h1]
  · split at hv <;> first | (simp at hv; done) | skip
    · rename_i b hb
      simp only [Option.some.injEq] at hv; subst hv
      obtain ⟨h3, h4, _⟩ := eqV_sound hk hx hy hn hb
      exact ⟨_, by simp only [Sem.run_bind, h3 .eql (.inl rfl), Result.andThen_ok, h4], VR.sr (.bool _)⟩
    · rename_i b hb
      simp only [Option.some.injEq] at hv; subst hv
      obtain ⟨h3, _, h4⟩ := eqV_sound hk hx hy hn hb
      exact ⟨_, by simp only [Sem.run_bind, h3 .neq (.inr rfl), Result.andThen_ok, h4], VR.sr (.bool _)⟩

end
end Go.Ab
