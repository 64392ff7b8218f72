import Derived.Test.YtihmoaibgmhjeaaDoorD4
set_option linter.unusedVariables false
set_option linter.unusedSimpArgs false
namespace Go.Ab
theorem toldT_ok {m : Nat} {k : Kn} {r : Kn × Nat} (h : toldT m k = .ok r) : r.1 = k ∧ (k.kind = 1 → k.w ≤ 60) ∧ (m ≤ 60 → r.2 ≤ 60) ∧ m ≤ r.2 ∧ (k.kind = 1 → k.w ≤ r.2) := by
 unfold toldT at h
 split at h
 ·rename_i hk
  split at h
  ·cases h
  ·cases h
   exact ⟨rfl, fun _ => by omega, fun _ => by show max m k.w ≤ 60; omega, by show m ≤ max m k.w; omega, fun _ => by show k.w ≤ max m k.w; omega⟩
 ·rename_i hk
  cases h
  exact ⟨rfl, fun h => absurd h hk, fun h => h, Nat.le_refl _, fun h => absurd h hk⟩
theorem toldT_max {a m : Nat} {k : Kn} : toldT (max a m) k = andT (toldT m k) fun r => .ok (r.1, max a r.2) := by
 unfold toldT
 split
 ·split
  ·rfl
  ·simp only [andT_ok, Nat.max_assoc]
 ·rfl
structure KMade (r : Kn) : Prop where
 w : r.w ≤ 1000
 num : r.kind = 1 → r.w ≤ 60 → KOk r
 other : r.kind ≠ 1 → KOk r
theorem KMade_of {r : Kn} (h : KOk r) : KMade r := ⟨by have := h.w; omega, fun _ _ => h, fun _ => h⟩
theorem opK_ok {o : Int} {a b r : Kn} (ha : KOk a) (hb : KOk b) (h : opK o a b = .ok r) : KMade r := by
 unfold opK at h
 have haw := ha.w
 have hbw := hb.w
 split at h
 ·cases h
 ·split at h
  ·cases h
   refine ⟨by show max a.w b.w + 1 ≤ 1000; omega, fun _ hw => ⟨.inl rfl, hw, ?_, fun h => absurd (show (1 : Int) = 2 from h) (by decide), fun h => by show (if _ then _ else _) = 0; rw [if_neg (by rw [show (a.is && b.is) = false from h]; decide)]⟩, fun h => absurd rfl h⟩
   show (if _ then a.val + b.val else 0) < 2 ^ (max a.w b.w + 1)
   have h1 : 2 ^ a.w ≤ 2 ^ max a.w b.w := Nat.pow_le_pow_right (by decide) (by omega)
   have h2 : 2 ^ b.w ≤ 2 ^ max a.w b.w := Nat.pow_le_pow_right (by decide) (by omega)
   have h3 := ha.val
   have h4 := hb.val
   rw [Nat.pow_succ]
   split
   ·show a.val + b.val < 2 ^ max a.w b.w * 2; omega
   ·show 0 < 2 ^ max a.w b.w * 2; omega
  ·split at h
   ·cases h
    refine ⟨by show a.w ≤ 1000; omega, fun _ hw => ⟨.inl rfl, hw, ?_, fun h => absurd (show (1 : Int) = 2 from h) (by decide), fun h => by show (if _ then _ else _) = 0; rw [if_neg (by rw [show (a.is && b.is) = false from h]; decide)]⟩, fun h => absurd rfl h⟩
    show (if _ then a.val - b.val else 0) < 2 ^ a.w
    have h3 := ha.val
    split
    ·show a.val - b.val < 2 ^ a.w; omega
    ·show 0 < 2 ^ a.w; omega
   ·split at h
    ·cases h
     refine ⟨by show a.w + b.w ≤ 1000; omega, fun _ hw => ⟨.inl rfl, hw, ?_, fun h => absurd (show (1 : Int) = 2 from h) (by decide), fun h => by show (if _ then _ else _) = 0; rw [if_neg (by rw [show (a.is && b.is) = false from h]; decide)]⟩, fun h => absurd rfl h⟩
     show (if _ then a.val * b.val else 0) < 2 ^ (a.w + b.w)
     rw [Nat.pow_add]
     split
     ·exact Nat.mul_lt_mul'' ha.val hb.val
     ·exact Nat.mul_pos (Nat.two_pow_pos _) (Nat.two_pow_pos _)
    ·cases h
     exact KMade_of KOk_boo
theorem nameT_ok {p : Prg} {σ : TE} {s : ByteArray} {r : Kn} (hp : PV p) (ok : EOkT p σ) (h : nameT p σ s = .ok r) : KOk r := by
 unfold nameT at h
 split at h
 ·rename_i n hn
  cases h
  exact KOk_con (ok.loops s n (findL_mem hn))
 ·split at h
  ·rename_i k w hv
   cases h
   obtain ⟨a, b, c⟩ := ok.vars s k w hv
   exact ⟨a, b, Nat.two_pow_pos _, fun h => ⟨c h, rfl⟩, fun _ => rfl⟩
  ·split at h
   ·rename_i d hd
    split at h
    ·cases h
     have := hp.ins d (inOf_mem hd).1
     exact KOk_num (by omega)
    ·cases h
   ·cases h
theorem indexT_ok {p : Prg} {σ : TE} {s : ByteArray} {k r : Kn} (hp : PV p) (ok : EOkT p σ) (h : indexT p σ s k = .ok r) : KOk r := by
 unfold indexT at h
 split at h
 ·rename_i i hi
  cases hpl : placeT k (p.arrays.getD i ⟨s, 0⟩).size with
  | error e => rw [hpl] at h; cases h
  | ok n =>
   rw [hpl] at h
   cases h
   obtain ⟨d, hd, _, _⟩ := arOf_some hi
   refine KOk_num ?_
   have hl : i < σ.words.length := by rw [ok.wlen]; exact (List.getElem?_eq_some_iff.1 hd).1
   have hw := (ok.words i _ d (List.getElem?_eq_getElem hl) hd).2
   rw [List.getD_eq_getElem?_getD (l := σ.words), List.getElem?_eq_getElem hl]
   show (σ.words[i]).getD n 0 ≤ 60
   rw [List.getD_eq_getElem?_getD]
   cases hg : (σ.words[i])[n]? with
   | none => exact Nat.zero_le _
   | some w => exact hw w (List.mem_of_getElem? hg)
 ·split at h
  ·rename_i d hd
   split at h
   ·cases h
   ·cases hpl : placeT k d.size with
    | error e => rw [hpl] at h; cases h
    | ok n =>
     rw [hpl] at h
     cases h
     have := hp.ins d (inOf_mem hd).1
     exact KOk_num (by omega)
  ·cases h
theorem nthK_ok {l : List Kn} (hl : ∀ k ∈ l, KOk k) (i : Nat) : KOk (nthK l i) := by
 unfold nthK
 rw [List.getD_eq_getElem?_getD]
 cases h : l[i]? with
 | none => exact KOk_boo
 | some k => exact hl k (List.mem_of_getElem? h)
theorem madeT_ok {p : Prg} {σ : TE} {k o : Int} {n : Nat} {s : ByteArray} {l : List Kn} {r : Kn} (hp : PV p) (ok : EOkT p σ) (hn : n ≤ 1152921504606846975) (hl : ∀ k ∈ l, KOk k) (h : madeT p σ k o n s l = .ok r) : KMade r := by
 unfold madeT at h
 split at h
 ·cases h; exact KMade_of (KOk_con (by omega))
 ·split at h
  ·exact KMade_of (nameT_ok hp ok h)
  ·split at h
   ·exact KMade_of (indexT_ok hp ok h)
   ·split at h
    ·exact opK_ok (nthK_ok hl 0) (nthK_ok hl 1) h
    ·split at h
     ·split at h
      ·cases h
      ·cases h; exact KMade_of KOk_boo
     ·split at h
      ·cases h
      ·rename_i hk
       cases h
       have h1 := nthK_ok hl 1
       have h2 := nthK_ok hl 2
       have hk2 : (nthK l 2).kind = (nthK l 1).kind := Decidable.byContradiction fun hh => hk (.inr hh)
       refine KMade_of ⟨h1.kind, ?_, Nat.two_pow_pos _, fun hb => ⟨?_, rfl⟩, fun _ => rfl⟩
       ·show max _ _ ≤ 60
        have := h1.w; have := h2.w; omega
       ·have e1 := (h1.boo hb).1
        have e2 := (h2.boo (hk2.trans hb)).1
        show max _ _ = 0
        omega
theorem exprsT_ok_of {p : Prg} {σ : TE} : ∀ {l : List Exp}, (∀ x ∈ l, ∀ r m, exprT p σ x = .ok (r, m) → KOk r ∧ m ≤ 60) → ∀ ks m, exprsT p σ l = .ok (ks, m) → (∀ k ∈ ks, KOk k) ∧ m ≤ 60 ∧ ks.length = l.length
 | [], _, ks, m, h => by rw [exprsT] at h; cases h; exact ⟨by simp, by decide, rfl⟩
 | e :: es, ih, ks, m, h => by
  rw [exprsT] at h
  cases h1 : exprT p σ e with
  | error er => rw [h1] at h; cases h
  | ok a =>
   obtain ⟨a, ma⟩ := a
   rw [h1, andT_ok] at h
   simp only at h
   cases h2 : exprsT p σ es with
   | error er => rw [h2] at h; cases h
   | ok b =>
    obtain ⟨b, mb⟩ := b
    rw [h2, andT_ok] at h
    cases h
    obtain ⟨p1, p2⟩ := ih e (by simp) a ma h1
    obtain ⟨q1, q2, q3⟩ := exprsT_ok_of (fun x hx => ih x (by simp [hx])) b mb h2
    exact ⟨fun k hk => (List.mem_cons.1 hk).elim (fun h => h ▸ p1) (q1 k), by omega, by simp [q3]⟩
theorem exprT_ok {p : Prg} {σ : TE} (hp : PV p) (ok : EOkT p σ) (e : Exp) : ∀ lv, VE e lv → ∀ r m, exprT p σ e = .ok (r, m) → KOk r ∧ m ≤ 60 := by
 induction e using Exp.ind with
 | h k o n s ks ih =>
  intro lv hv r m h
  obtain ⟨v1, v2, v3, v4, v5, v6, v7, v8, v9⟩ := VE_mk.1 hv
  rw [exprT] at h
  cases h1 : exprsT p σ ks with
  | error er => rw [h1] at h; cases h
  | ok b =>
   obtain ⟨l, ml⟩ := b
   rw [h1, andT_ok] at h
   simp only at h
   obtain ⟨q1, q2, q3⟩ := exprsT_ok_of (fun x hx => ih x hx _ (v9 x hx)) l ml h1
   cases h2 : madeT p σ k o n s l with
   | error er => rw [h2] at h; cases h
   | ok a =>
    rw [h2, andT_ok] at h
    have hm := madeT_ok hp ok v7 q1 h2
    obtain ⟨t1, t2, t3, _⟩ := toldT_ok h
    simp only at t1 t3
    subst t1
    refine ⟨?_, t3 q2⟩
    by_cases c : r.kind = 1
    ·exact hm.num c (t2 c)
    ·exact hm.other c
theorem exprsT_ok {p : Prg} {σ : TE} (hp : PV p) (ok : EOkT p σ) {l : List Exp} {lv : Nat} (hv : ∀ x ∈ l, VE x lv) : ∀ ks m, exprsT p σ l = .ok (ks, m) → (∀ k ∈ ks, KOk k) ∧ m ≤ 60 ∧ ks.length = l.length :=
 exprsT_ok_of fun x hx => exprT_ok hp ok x lv (hv x hx)
theorem exprsT_append {p : Prg} {σ : TE} : ∀ {a b : List Exp}, exprsT p σ (a ++ b) = andT (exprsT p σ a) fun r => andT (exprsT p σ b) fun r' => .ok (r.1 ++ r'.1, max r.2 r'.2)
 | [], b => by
  rw [List.nil_append, exprsT, andT_ok]
  cases exprsT p σ b with
  | error e => rfl
  | ok r => simp
 | e :: es, b => by
  rw [List.cons_append, exprsT, exprsT]
  cases exprT p σ e with
  | error e => rfl
  | ok a =>
   simp only [andT_ok]
   rw [exprsT_append]
   cases exprsT p σ es with
   | error e => rfl
   | ok r =>
    simp only [andT_ok]
    cases exprsT p σ b with
    | error e => rfl
    | ok r' => simp [Nat.max_assoc]
theorem exprsT_one {p : Prg} {σ : TE} {e : Exp} : exprsT p σ [e] = andT (exprT p σ e) fun r => .ok ([r.1], r.2) := by
 rw [exprsT]
 cases exprT p σ e with
 | error e => rfl
 | ok a => simp [exprsT]
theorem exprsT_take {p : Prg} {σ : TE} {l : List Exp} {j : Nat} (hj : j < l.length) {acc : List Kn} {m : Nat} (h : exprsT p σ (l.take j) = .ok (acc, m)) :
  exprsT p σ (l.take (j + 1)) = andT (exprT p σ l[j]) fun r => .ok (acc ++ [r.1], max m r.2) := by
 rw [List.take_add_one, List.getElem?_eq_getElem hj, Option.toList_some, exprsT_append, h, andT_ok, exprsT_one]
 cases exprT p σ l[j] <;> rfl
theorem exprsT_fail {p : Prg} {σ : TE} {l : List Exp} {j : Nat} {e : Int} (h : exprsT p σ (l.take j) = .error e) : exprsT p σ l = .error e := by
 have : l = l.take j ++ l.drop j := (List.take_append_drop j l).symm
 rw [this, exprsT_append, h]; rfl
end Go.Ab
