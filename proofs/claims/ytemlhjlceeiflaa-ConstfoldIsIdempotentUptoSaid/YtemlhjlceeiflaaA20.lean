/- A folded program's text is no longer. -/
import Derived.Test.YtemlhjlceeiflaaA12
set_option linter.unusedVariables false
set_option linter.unusedSimpArgs false
namespace Go.Ab

theorem prec_lo {k o : Int} : 1 ≤ precE k o := by unfold precE; repeat' split
                                                  all_goals omega
theorem prec_hi {k o : Int} : precE k o ≤ 9 := by unfold precE; repeat' split
                                                  all_goals omega
theorem dlen_one {n : Nat} : 1 ≤ dlen n := by
  by_cases h : n < 10
  · rw [dlen_small h]; exact Nat.le_refl _
  · rw [dlen_big h]; omega
theorem dlen_pow : ∀ n : Nat, n < 10 ^ dlen n := by
  intro n
  induction n using Nat.strongRecOn with
  | _ n ih =>
    by_cases h : n < 10
    · rw [dlen_small h]; omega
    · rw [dlen_big h, Nat.pow_add]
      have := ih (n / 10) (by omega)
      omega
theorem dlen_of {n k : Nat} (h : n < 10 ^ k) (hk : 1 ≤ k) : dlen n ≤ k := by
  have := dlen_le h; omega
theorem dlen_mul {a b : Nat} : dlen (a * b) ≤ dlen a + dlen b := by
  refine dlen_of ?_ (by have := @dlen_one a; omega)
  rw [Nat.pow_add]
  exact Nat.mul_lt_mul'' (dlen_pow a) (dlen_pow b)
theorem dlen_add {a b : Nat} : dlen (a + b) ≤ dlen a + dlen b := by
  refine dlen_of ?_ (by have := @dlen_one a; omega)
  have h1 := dlen_pow a
  have h2 := dlen_pow b
  have g : ∀ {k : Nat}, 1 ≤ k → 10 ≤ 10 ^ k := fun {k} h => by
    have := Nat.pow_le_pow_right (show 0 < 10 by decide) h
    simpa using this
  have h3 := g (@dlen_one a)
  have h4 := g (@dlen_one b)
  rw [Nat.pow_add]
  generalize 10 ^ dlen a = x at *
  generalize 10 ^ dlen b = y at *
  have h5 : x * 10 ≤ x * y := Nat.mul_le_mul_left x h4
  have h6 : 10 * y ≤ x * y := Nat.mul_le_mul_right y h3
  omega
theorem dlen_mono {a b : Nat} (h : a ≤ b) : dlen a ≤ dlen b := dlen_of (Nat.lt_of_le_of_lt h (dlen_pow b)) dlen_one
theorem dlen_bN {b : Bool} : dlen (bN b) = 1 := by cases b <;> exact dlen_small (by decide)
theorem held_ge {x : Int × Nat} {m : Int} : x.2 ≤ held x m := by unfold held; split <;> omega
theorem dlen_zero : dlen 0 = 1 := dlen_small (by decide)

theorem tlen_one (e : Exp) : ∀ lv, VE e lv → 1 ≤ tlen e := by
  intro lv hv
  obtain ⟨k, o, n, s, ks⟩ := e
  obtain ⟨v1, v2, v3, v4, v5, v6, v7, v8, v9⟩ := VE_mk.1 hv
  rw [tlen_mk]
  unfold tlenOf
  have d := @dlen_one n
  split
  · exact d
  · split
    · exact (v3 (by omega)).1
    · repeat' split
      all_goals omega

/-- A constant's value is written no longer than the constant. -/
theorem val_len (e : Exp) : ∀ lv, VE e lv → dlen (constE e).1 ≤ tlen e := by
  induction e using Exp.ind with
  | h k o n s ks ih =>
    intro lv hv
    have h1 := tlen_one _ _ hv
    obtain ⟨v1, v2, v3, v4, v5, v6, v7, v8, v9⟩ := VE_mk.1 hv
    rw [constE_mk]
    unfold constOf
    split
    · show dlen 0 ≤ _; rw [dlen_zero]; exact h1
    rcases kidsN_cases v2 with rfl | rfl | rfl | rfl | rfl | rfl
    · rw [tlen_mk]; exact Nat.le_refl _
    · show dlen 0 ≤ _; rw [dlen_zero]; exact h1
    · show dlen 0 ≤ _; rw [dlen_zero]; exact h1
    · obtain ⟨a, b, rfl⟩ := len2 (show ks.length = 2 by have : kidsN 4 = 2 := rfl; omega)
      show dlen (opOf o (constE a) (constE b)).1 ≤ _
      have ha := ih a (by simp) _ (v9 a (by simp))
      have hb := ih b (by simp) _ (v9 b (by simp))
      have ht : dlen (constE a).1 + dlen (constE b).1 ≤ tlen (.mk 4 o n s [a, b]) := by
        rw [tlen_mk]
        show _ ≤ held (tl a) (precE 4 o) + 1 + (if o = 5 then 2 else 1) + 1 + held (tl b) (precE 4 o + 1)
        have g1 := held_ge (x := tl a) (m := precE 4 o)
        have g2 := held_ge (x := tl b) (m := precE 4 o + 1)
        have g3 : (tl a).2 = tlen a := rfl
        have g4 : (tl b).2 = tlen b := rfl
        split <;> omega
      unfold opOf opDo
      have one := @dlen_one (constE a).1
      have add := @dlen_add (constE a).1 (constE b).1
      have mul := @dlen_mul (constE a).1 (constE b).1
      have sub := dlen_mono (Nat.sub_le (constE a).1 (constE b).1)
      have nk : ∀ m, dlen (numK m).1 ≤ dlen m := fun m => by
        unfold numK
        split
        · exact Nat.le_refl _
        · show dlen 0 ≤ _; rw [dlen_zero]; exact dlen_one
      have tk : ∀ b, dlen (truK b).1 = 1 := fun b => dlen_bN
      have n1 := nk ((constE a).1 + (constE b).1)
      have n3 := nk ((constE a).1 * (constE b).1)
      split
      · split
        · omega
        · split
          · show dlen ((constE a).1 - (constE b).1) ≤ _; omega
          · split
            · omega
            · repeat' split
              all_goals rw [tk]; omega
      · show dlen 0 ≤ _; rw [dlen_zero]; exact h1
    · obtain ⟨a, rfl⟩ := len1 (show ks.length = 1 by have : kidsN 5 = 1 := rfl; omega)
      show dlen (if (constE a).2 = 2 then truK (decide ((constE a).1 = 0)) else (0, 0)).1 ≤ _
      split
      · show dlen (bN _) ≤ _; rw [dlen_bN]; exact h1
      · show dlen 0 ≤ _; rw [dlen_zero]; exact h1
    · obtain ⟨a, b, c, rfl⟩ := len3 (show ks.length = 3 by have : kidsN 6 = 3 := rfl; omega)
      show dlen (if (constE a).2 = 2 ∧ (constE b).2 = (constE c).2 then (if (constE a).1 = 1 then constE b else constE c) else (0, 0)).1 ≤ _
      have hb := ih b (by simp) _ (v9 b (by simp))
      have hc := ih c (by simp) _ (v9 c (by simp))
      have ht : tlen b + tlen c ≤ tlen (.mk 6 o n s [a, b, c]) := by
        rw [tlen_mk]
        show _ ≤ held (tl a) 2 + 3 + (tl b).2 + 3 + (tl c).2
        have g3 : (tl b).2 = tlen b := rfl
        have g4 : (tl c).2 = tlen c := rfl
        omega
      split
      · split <;> omega
      · show dlen 0 ≤ _; rw [dlen_zero]; exact h1

theorem nth_map {l : List Exp} {f : Exp → Exp} (h : ∀ x ∈ l, ∀ m, held (tl (f x)) m ≤ held (tl x) m) (h2 : ∀ x ∈ l, tlen (f x) ≤ tlen x) (i : Nat) : (∀ m, held (nth ((l.map f).map tl) i) m ≤ held (nth (l.map tl) i) m) ∧ (nth ((l.map f).map tl) i).2 ≤ (nth (l.map tl) i).2 := by
  unfold nth
  rw [List.getD_eq_getElem?_getD, List.getD_eq_getElem?_getD, List.getElem?_map, List.getElem?_map, List.getElem?_map]
  cases hx : l[i]? with
  | none => exact ⟨fun m => Nat.le_refl _, Nat.le_refl _⟩
  | some x => exact ⟨h x (List.mem_of_getElem? hx), h2 x (List.mem_of_getElem? hx)⟩

theorem held_tl {e : Exp} : held (tl e) 0 = tlen e := by
  unfold held
  rw [if_neg]
  · rfl
  · show ¬ precE e.kind e.op < 0
    have := @prec_lo e.kind e.op; omega

theorem text_fold (e : Exp) : ∀ lv, VE e lv → ∀ m, held (tl (foldE e)) m ≤ held (tl e) m := by
  induction e using Exp.ind with
  | h k o n s ks ih =>
    intro lv hv m
    obtain ⟨v1, v2, v3, v4, v5, v6, v7, v8, v9⟩ := VE_mk.1 hv
    have hv' : VE (.mk k o n s (ks.map foldE)) lv := VE_kids hv fun x hx => VE_fold x _ (v9 x hx)
    have ih' : ∀ x ∈ ks, ∀ m, held (tl (foldE x)) m ≤ held (tl x) m := fun x hx => ih x hx _ (v9 x hx)
    have ih2 : ∀ x ∈ ks, tlen (foldE x) ≤ tlen x := fun x hx => by
      have := ih' x hx 0
      rwa [held_tl, held_tl] at this
    have g := nth_map ih' ih2
    have hmid : tlen (.mk k o n s (ks.map foldE)) ≤ tlen (.mk k o n s ks) := by
      rw [tlen_mk, tlen_mk]
      have g0 := (g 0).2
      have g1 := (g 1).2
      have g2 := (g 2).2
      have a1 := (g 0).1 8
      have a2 := (g 0).1 2
      have a3 := (g 0).1 (precE k o)
      have a4 := (g 1).1 (precE k o + 1)
      unfold tlenOf
      repeat' split
      all_goals omega
    have hm : held (tl (.mk k o n s (ks.map foldE))) m ≤ held (tl (.mk k o n s ks)) m := by
      unfold held
      show (if precE k o < m then tlen (.mk k o n s (ks.map foldE)) + 2 else tlen (.mk k o n s (ks.map foldE))) ≤ (if precE k o < m then tlen (.mk k o n s ks) + 2 else tlen (.mk k o n s ks))
      split <;> omega
    refine Nat.le_trans ?_ hm
    rw [foldE_mk]
    unfold foldTop
    split
    · have hl := val_len _ _ hv'
      have e1 : tl (numE (constE (.mk k o n s (ks.map foldE))).1) = (9, dlen (constE (.mk k o n s (ks.map foldE))).1) := by
        unfold tl numE
        rw [tlen_mk]; rfl
      rw [e1]
      unfold held
      show (if (9 : Int) < m then _ + 2 else _) ≤ (if precE k o < m then tlen (.mk k o n s (ks.map foldE)) + 2 else tlen (.mk k o n s (ks.map foldE)))
      have := @prec_hi k o
      split <;> split <;> simp only <;> omega
    · split
      · rename_i hk
        obtain ⟨hk, _⟩ := hk
        subst hk
        obtain ⟨a, b, c, rfl⟩ := len3 (show ks.length = 3 by have : kidsN 6 = 3 := rfl; omega)
        have ht : tlen (foldE b) + tlen (foldE c) + 6 ≤ tlen (.mk 6 o n s ([a, b, c].map foldE)) := by
          rw [tlen_mk]
          show _ ≤ held (tl (foldE a)) 2 + 3 + (tl (foldE b)).2 + 3 + (tl (foldE c)).2
          have g3 : (tl (foldE b)).2 = tlen (foldE b) := rfl
          have g4 : (tl (foldE c)).2 = tlen (foldE c) := rfl
          omega
        have h5 := held_ge (x := tl (.mk 6 o n s ([a, b, c].map foldE))) (m := m)
        have h6 : (tl (.mk 6 o n s ([a, b, c].map foldE))).2 = tlen (.mk 6 o n s ([a, b, c].map foldE)) := rfl
        split
        · have h7 := held_le (x := tl (foldE b)) (m := m)
          have h8 : (tl (foldE b)).2 = tlen (foldE b) := rfl
          show held (tl (foldE b)) m ≤ _
          omega
        · have h7 := held_le (x := tl (foldE c)) (m := m)
          have h8 : (tl (foldE c)).2 = tlen (foldE c) := rfl
          show held (tl (foldE c)) m ≤ _
          omega
      · exact Nat.le_refl _
theorem tlen_fold {e : Exp} {lv : Nat} (hv : VE e lv) : tlen (foldE e) ≤ tlen e := by
  have := text_fold e lv hv 0
  rwa [held_tl, held_tl] at this

-- statements
theorem llenOf_mono {k : Int} {s : ByteArray} {es es' : List Nat} {ta tb ta' tb' nb nb' i i' : Nat} (he : ∀ j, at0 es' j ≤ at0 es j) (ha : ta' ≤ ta) (hb : tb' ≤ tb) (hn : nb = 0 → nb' = 0) (hi : i' ≤ i) : llenOf k s es' ta' tb' nb' i' ≤ llenOf k s es ta tb nb i := by
  have h0 := he 0
  have h1 := he 1
  unfold llenOf
  have hx : (if nb' = 0 then 0 else i' + 9 + tb') ≤ (if nb = 0 then 0 else i + 9 + tb) := by
    split
    · exact Nat.zero_le _
    · rw [if_neg (fun h => by have := hn h; omega)]; omega
  split
  · omega
  · split
    · omega
    · split
      · omega
      · split <;> omega
theorem llenOf_if {s : ByteArray} {es : List Nat} {ta tb nb i : Nat} : llenOf 3 s es ta tb nb i = i + 4 + at0 es 0 + 4 + ta + (if nb = 0 then 0 else i + 9 + tb) + i + 2 := by
  unfold llenOf
  rw [if_neg (by decide), if_neg (by decide), if_neg (by decide), if_pos rfl]
theorem llens_sum : ∀ (l : List Stm) (i : Nat), llens l i = sumL (fun x => llen x i) l
  | [], _ => rfl
  | x :: l, i => by rw [llens, sumL, llens_sum l]
theorem sumL_mono {α : Type} {f g : α → Nat} : ∀ {l : List α}, (∀ x ∈ l, f x ≤ g x) → sumL f l ≤ sumL g l
  | [], _ => Nat.le_refl _
  | x :: l, h => by
    have h1 := h x (by simp)
    have h2 := sumL_mono (l := l) fun y hy => h y (by simp [hy])
    rw [sumL, sumL]; omega
theorem llen_ind (x : Stm) : ∀ i i', i' ≤ i → llen x i' ≤ llen x i := by
  induction x using Stm.ind with
  | h k s e a b iha ihb =>
    intro i i' hi
    rw [llen, llen]
    refine llenOf_mono (fun _ => Nat.le_refl _) ?_ ?_ (fun h => h) hi
    · rw [llens_sum, llens_sum]; exact sumL_mono fun x hx => iha x hx _ _ (by omega)
    · rw [llens_sum, llens_sum]; exact sumL_mono fun x hx => ihb x hx _ _ (by omega)
theorem llens_ind {l : List Stm} {i i' : Nat} (h : i' ≤ i) : llens l i' ≤ llens l i := by
  rw [llens_sum, llens_sum]; exact sumL_mono fun x _ => llen_ind x _ _ h
theorem llens_fold_of : ∀ {l : List Stm} {i : Nat}, (∀ x ∈ l, llens (foldS x) i ≤ llen x i) → llens (foldSs l) i ≤ llens l i
  | [], _, _ => Nat.le_refl _
  | x :: l, i, h => by
    have h1 := h x (by simp)
    have h2 := llens_fold_of (l := l) fun y hy => h y (by simp [hy])
    rw [foldSs, llens_append, llens]; omega
theorem at0_map {l : List Exp} {f : Exp → Exp} (h : ∀ x ∈ l, tlen (f x) ≤ tlen x) (j : Nat) : at0 ((l.map f).map tlen) j ≤ at0 (l.map tlen) j := by
  unfold at0
  rw [List.getD_eq_getElem?_getD, List.getD_eq_getElem?_getD, List.getElem?_map, List.getElem?_map, List.getElem?_map]
  cases hx : l[j]? with
  | none => exact Nat.le_refl _
  | some x => exact h x (List.mem_of_getElem? hx)
theorem llen_fold (x : Stm) : ∀ lv i, VS x lv → llens (foldS x) i ≤ llen x i := by
  induction x using Stm.ind with
  | h k s e a b iha ihb =>
    intro lv i hv
    obtain ⟨v1, v2, v3, v4, v5, v6, v7, v8, v9, v10, v11⟩ := VS_mk.1 hv
    have ha : ∀ i, llens (foldSs a) i ≤ llens a i := fun i => llens_fold_of fun x hx => iha x hx _ i (VSs_all.1 v10 x hx)
    have hb : ∀ i, llens (foldSs b) i ≤ llens b i := fun i => llens_fold_of fun x hx => ihb x hx _ i (VSs_all.1 v11 x hx)
    have hmid : llen (.mk k s (e.map foldE) (foldSs a) (foldSs b)) i ≤ llen (.mk k s e a b) i := by
      rw [llen, llen]
      refine llenOf_mono (at0_map fun x hx => tlen_fold (v9 x hx)) (ha _) (hb _) (fun h => ?_) (Nat.le_refl _)
      have : b = [] := List.length_eq_zero_iff.1 h
      rw [foldSs_nil this]; rfl
    refine Nat.le_trans ?_ hmid
    rw [foldS_mk]
    unfold foldStm
    split
    · rename_i hk
      obtain ⟨hk, _⟩ := hk
      subst hk
      have h1 := llens_ind (l := foldSs a) (i := i + 2) (i' := i) (by omega)
      have h2 := llens_ind (l := foldSs b) (i := i + 2) (i' := i) (by omega)
      rw [llen, llenOf_if]
      split
      · omega
      · by_cases hn : (foldSs b).length = 0
        · have : foldSs b = [] := List.length_eq_zero_iff.1 hn
          rw [this]; exact Nat.zero_le _
        · rw [if_neg hn]; omega
    · split
      · exact Nat.zero_le _
      · rw [llens, llens]; exact Nat.le_refl _
theorem VP_fold {p : Prg} (h : VP p) : VP p.fold := by
  refine ⟨h.ins, h.arrays, VSs_fold h.body, ?_⟩
  have h1 := h.len
  have h2 : llens (foldSs p.body) 0 ≤ llens p.body 0 := llens_fold_of fun x hx => llen_fold x 1 0 (VSs_all.1 h.body x hx)
  unfold flen at *
  simp only [Prg.fold]
  omega
end Go.Ab
