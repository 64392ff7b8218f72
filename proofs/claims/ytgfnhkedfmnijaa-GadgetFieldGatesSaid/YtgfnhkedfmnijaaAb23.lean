/- Regions that draw their order: what the static conditions say. -/
import Derived.Test.YtgfnhkedfmnijaaAb22
set_option linter.unusedVariables false
set_option linter.unusedSimpArgs false
namespace Go.Ab

/-- 'a' comes ahead of 'i' in every order. -/
def Anc (all : Array Oper) (i a : Nat) : Prop := ((ancs all).getD i 0).testBit a = true

structure Plan (all : Array Oper) (l : Go.Ab.Ord) : Prop where
  num : ∀ {p q : Nat} {x y : IOp × Nat × List Nat}, l[p]? = some x → l[q]? = some y → x.2.1 = y.2.1 → p = q
  lt : ∀ {p : Nat} {x : IOp × Nat × List Nat}, l[p]? = some x → x.2.1 < all.size
  onto : ∀ i, i < all.size → ∃ (p : Nat) (x : IOp × Nat × List Nat), l[p]? = some x ∧ x.2.1 = i
  dst : ∀ {p q : Nat} {x y : IOp × Nat × List Nat} {d : Nat}, l[p]? = some x → l[q]? = some y → x.1.dst = some d → y.1.dst = some d → p = q
  edge : ∀ {i : Nat} {o : Oper}, all[i]? = some o → ∀ e ∈ o.after, Region.binds .any e = true → e.on < i
  anc : ∀ {p : Nat} {x : IOp × Nat × List Nat} {a : Nat}, l[p]? = some x → Anc all x.2.1 a → ∃ (q : Nat) (y : IOp × Nat × List Nat), q < p ∧ l[q]? = some y ∧ y.2.1 = a
  names : ∀ {p q : Nat} {x y : IOp × Nat × List Nat} {d : Nat}, l[p]? = some x → l[q]? = some y → x.1.dst = some d → d ∈ y.1.reads → p = q ∨ Anc all y.2.1 x.2.1 ∨ Anc all x.2.1 y.2.1
  hang : ∀ {p q : Nat} {x y : IOp × Nat × List Nat}, l[p]? = some x → isRd x.1.k = false → l[q]? = some y → p < q → Anc all y.2.1 x.2.1
  mem : ∀ {p q : Nat} {x y : IOp × Nat × List Nat}, l[p]? = some x → isRd x.1.k = false → l[q]? = some y → q < p → readsMem y.1.k = true → Anc all x.2.1 y.2.1 ∨
    (q ∈ x.2.2 ∧ ∀ (t r : Nat) (z : IOp × Nat × List Nat), t ∈ y.1.k.tmps → q ≤ r → r ≤ p → l[r]? = some z → z.1.dst ≠ some t)

theorem filterMap_inj {α β : Type} {f : α → Option β} : ∀ {l : List α}, (l.filterMap f).Nodup → ∀ {p q : Nat} {x y : α} {d : β}, l[p]? = some x → l[q]? = some y → f x = some d → f y = some d → p = q
  | [], _, p, q, x, y, d, hp, _, _, _ => by simp at hp
  | a :: l, hn, p, q, x, y, d, hp, hq, hx, hy => by
    cases ha : f a with
    | none =>
      rw [List.filterMap_cons_none ha] at hn
      cases p with
      | zero => simp at hp; subst hp; rw [ha] at hx; cases hx
      | succ p => cases q with
        | zero => simp at hq; subst hq; rw [ha] at hy; cases hy
        | succ q => rw [filterMap_inj hn (p := p) (q := q) (by simpa using hp) (by simpa using hq) hx hy]
    | some c =>
      rw [List.filterMap_cons_some ha] at hn
      have hmem : ∀ {q : Nat} {y : α}, l[q]? = some y → f y ≠ some c := fun {q y} h1 h2 =>
        (List.nodup_cons.1 hn).1 (List.mem_filterMap.2 ⟨y, List.mem_of_getElem? h1, h2⟩)
      cases p with
      | zero =>
        simp at hp; subst hp
        rw [ha] at hx; cases hx
        cases q with
        | zero => rfl
        | succ q => exact absurd hy (hmem (by simpa using hq))
      | succ p => cases q with
        | zero => simp at hq; subst hq; rw [ha] at hy; cases hy; exact absurd hx (hmem (by simpa using hp))
        | succ q => rw [filterMap_inj (List.nodup_cons.1 hn).2 (p := p) (q := q) (by simpa using hp) (by simpa using hq) hx hy]

theorem map_inj {α β : Type} {f : α → β} {l : List α} (hn : (l.map f).Nodup) {p q : Nat} {x y : α} (hp : l[p]? = some x) (hq : l[q]? = some y) (h : f x = f y) : p = q := by
  have h1 : (l.filterMap fun a => some (f a)).Nodup := by rw [List.filterMap_eq_map']; exact hn
  exact filterMap_inj h1 hp hq (d := f x) rfl (by rw [h])

theorem zip_all {α : Type} {l : List α} {g : α × Nat → Bool} (h : l.zipIdx.all g = true) {p : Nat} {x : α} (hp : l[p]? = some x) : g (x, p) = true := by
  rw [List.all_eq_true] at h
  exact h (x, p) (by rw [List.mem_zipIdx_iff_getElem?]; exact hp)

/-- An operation's elders are those that its edges name, and theirs. -/
def AncGood (all : Array Oper) (acc : List Nat) : Prop :=
  ∀ (j a : Nat), (acc.getD j 0).testBit a = true → ∃ o, all[j]? = some o ∧ ∃ e ∈ o.after, Region.binds .any e = true ∧ (a = e.on ∨ (e.on < j ∧ (acc.getD e.on 0).testBit a = true))

theorem bit_one {n a : Nat} (h : (1 <<< n).testBit a = true) : a = n := by
  rw [Nat.testBit_shiftLeft] at h
  simp only [ge_iff_le, Bool.and_eq_true, decide_eq_true_eq] at h
  obtain ⟨h1, h2⟩ := h
  have := Nat.testBit_one_eq_true_iff_self_eq_zero.1 h2
  omega

theorem ancsGo_good {all : Array Oper} : ∀ (os : List Oper) (acc : List Nat), (∀ (i : Nat), os[i]? = all[acc.length + i]?) → AncGood all acc → AncGood all (ancsGo os acc)
  | [], acc, _, h => h
  | o :: os, acc, ho, h => by
    unfold ancsGo
    have hfold : ∀ (es : List Edge) (l0 a : Nat), ((es.foldl (fun l e => if Region.binds .any e then (1 <<< e.on) ||| acc.getD e.on 0 ||| l else l) l0).testBit a = true) → l0.testBit a = true ∨ ∃ e ∈ es, Region.binds .any e = true ∧ (a = e.on ∨ (acc.getD e.on 0).testBit a = true) := by
      intro es
      induction es with
      | nil => intro l0 a ha; exact .inl ha
      | cons e es ih =>
        intro l0 a ha
        rw [List.foldl_cons] at ha
        rcases ih _ a ha with h1 | ⟨e', he', h1, h2⟩
        · split at h1
          · rename_i hb
            rw [Nat.testBit_or, Nat.testBit_or, Bool.or_eq_true, Bool.or_eq_true] at h1
            rcases h1 with (h1 | h1) | h1
            · exact .inr ⟨e, by simp, hb, .inl (bit_one h1)⟩
            · exact .inr ⟨e, by simp, hb, .inr h1⟩
            · exact .inl h1
          · exact .inl h1
        · exact .inr ⟨e', by simp [he'], h1, h2⟩
    refine ancsGo_good os _ (fun i => ?_) (fun j a ha => ?_)
    · have := ho (i + 1)
      rw [List.length_append, List.length_singleton]
      simpa [Nat.add_assoc, Nat.add_comm 1 i] using this
    · have hget : ∀ (j : Nat), j < acc.length → (acc ++ [o.after.toList.foldl (fun l e => if Region.binds .any e then (1 <<< e.on) ||| acc.getD e.on 0 ||| l else l) 0]).getD j 0 = acc.getD j 0 := by
        intro j hj
        rw [List.getD_eq_getElem?_getD, List.getElem?_append_left hj, List.getD_eq_getElem?_getD]
      rcases Nat.lt_trichotomy j acc.length with hj | hj | hj
      · rw [hget j hj] at ha
        obtain ⟨o', h1, e, h2, h3, h4⟩ := h j a ha
        refine ⟨o', h1, e, h2, h3, ?_⟩
        rcases h4 with h4 | ⟨h4, h5⟩
        · exact .inl h4
        · exact .inr ⟨h4, by rw [hget _ (by omega)]; exact h5⟩
      · subst hj
        have h0 : all[acc.length]? = some o := by have := ho 0; simpa using this.symm
        rw [List.getD_eq_getElem?_getD, List.getElem?_append_right (Nat.le_refl _)] at ha
        simp only [Nat.sub_self, List.getElem?_cons_zero, Option.getD_some] at ha
        rcases hfold o.after.toList 0 a ha with h1 | ⟨e, h1, h2, h3⟩
        · simp at h1
        · refine ⟨o, h0, e, by simpa using h1, h2, ?_⟩
          rcases h3 with h3 | h3
          · exact .inl h3
          · have hlt : e.on < acc.length := by
              rcases Nat.lt_or_ge e.on acc.length with h' | h'
              · exact h'
              · rw [List.getD_eq_getElem?_getD, List.getElem?_eq_none h'] at h3; simp at h3
            exact .inr ⟨hlt, by rw [hget _ hlt]; exact h3⟩
      · rw [List.getD_eq_getElem?_getD, List.getElem?_eq_none (by simp; omega)] at ha
        simp at ha

theorem anc_good (all : Array Oper) : AncGood all (ancs all) := by
  unfold ancs
  refine ancsGo_good _ _ (fun i => by simp) (fun j a ha => ?_)
  simp at ha

theorem anc_lt {all : Array Oper} (hE : ∀ {i : Nat} {o : Oper}, all[i]? = some o → ∀ e ∈ o.after, Region.binds .any e = true → e.on < i) {j a : Nat} (ha : Anc all j a) : a < all.size := by
  induction j using Nat.strongRecOn with
  | _ j ih =>
    obtain ⟨o, h1, e, h2, h3, h4⟩ := anc_good all j a ha
    rcases h4 with h4 | ⟨h4, h5⟩
    · have := hE h1 e h2 h3
      have hj := (Array.getElem?_eq_some_iff.1 h1).1
      omega
    · exact ih _ h4 h5

theorem plan_of {all : Array Oper} {an : List Nat} {l : Go.Ab.Ord} (h : drawOk all an l = true) : Plan all l := by
  unfold drawOk at h
  simp only [Bool.and_eq_true] at h
  obtain ⟨⟨⟨⟨⟨⟨⟨⟨⟨h0, h1⟩, h2⟩, h3⟩, h4⟩, h5⟩, h6⟩, h7⟩, h8⟩, h9⟩ := h
  have h0 : ancs all = an := by simpa using h0
  subst h0
  refine ⟨fun hp hq h => map_inj (of_decide_eq_true h1) hp hq h, fun hp => ?_, fun i hi => ?_, fun hp hq hx hy => filterMap_inj (of_decide_eq_true h5) hp hq hx hy, fun ho e he hb => ?_, fun hp ha => ?_, fun hp hq hd hr => ?_, fun hp hk hq hlt => ?_, fun hp hk hq hlt hmem => ?_⟩
  · rw [List.all_eq_true] at h4
    exact of_decide_eq_true (h4 _ (List.mem_of_getElem? hp))
  · rw [List.all_eq_true] at h3
    have := h3 i (List.mem_range.2 hi)
    rw [List.contains_iff_mem, List.mem_map] at this
    obtain ⟨x, hx, hn⟩ := this
    obtain ⟨p, hp⟩ := List.mem_iff_getElem?.1 hx
    exact ⟨p, x, hp, hn⟩
  · have := zip_all h6 (by simpa using ho)
    rw [List.all_eq_true] at this
    have := this e (by simpa using he)
    simp only [hb, Bool.not_true, Bool.false_or] at this
    exact of_decide_eq_true this
  · rename_i p x b
    have := zip_all h7 hp
    rw [List.all_eq_true] at this
    have hb : b < all.size := by
      refine anc_lt (fun {i o} ho e he hb => ?_) ha
      have := zip_all h6 (by simpa using ho)
      rw [List.all_eq_true] at this
      have := this e (by simpa using he)
      simp only [hb, Bool.not_true, Bool.false_or] at this
      exact of_decide_eq_true this
    have := this b (List.mem_range.2 hb)
    have ha' : ((ancs all).getD x.2.1 0).testBit b = true := ha
    simp only [ha', Bool.not_true, Bool.false_or] at this
    rw [List.contains_iff_mem, List.mem_map] at this
    obtain ⟨y, hy, hn⟩ := this
    obtain ⟨q, hq⟩ := List.mem_iff_getElem?.1 hy
    rw [List.getElem?_take] at hq
    split at hq
    · exact ⟨q, y, by assumption, hq, hn⟩
    · simp at hq
  · rename_i p q x y d
    rw [List.all_eq_true] at h8
    have := h8 _ (List.mem_of_getElem? hp)
    rw [hd] at this
    simp only at this
    rw [List.all_eq_true] at this
    have := this _ (List.mem_of_getElem? hq)
    simp only [Bool.or_eq_true, Bool.not_eq_true', beq_iff_eq] at this
    rcases this with ((h | h) | h) | h
    · rw [← Bool.not_eq_true, List.contains_iff_mem] at h; exact absurd hr h
    · exact .inl (map_inj (of_decide_eq_true h1) hp hq h)
    · exact .inr (.inl h)
    · exact .inr (.inr h)
  · rename_i p q x y
    have := zip_all h9 hp
    simp only [hk, Bool.false_or, Bool.and_eq_true] at this
    have := this.1
    rw [List.all_eq_true] at this
    have hm : y ∈ l.drop (p + 1) := List.mem_iff_getElem?.2 ⟨q - (p + 1), by rw [List.getElem?_drop]; rw [show p + 1 + (q - (p + 1)) = q by omega]; exact hq⟩
    exact this y hm
  · rename_i p q x y
    have := zip_all h9 hp
    simp only [hk, Bool.false_or, Bool.and_eq_true] at this
    have := zip_all this.2 (p := q) (x := y) (by rw [List.getElem?_take, if_pos hlt]; exact hq)
    simp only [hmem, Bool.not_true, Bool.false_or, Bool.or_eq_true, Bool.and_eq_true, List.contains_iff_mem] at this
    rcases this with h | ⟨h, h'⟩
    · exact .inl h
    · refine .inr ⟨h, fun t r z ht hqr hrp hz hd => ?_⟩
      rw [List.all_eq_true] at h'
      have hm : z ∈ (l.take (p + 1)).drop q := List.mem_iff_getElem?.2 ⟨r - q, by rw [List.getElem?_drop, List.getElem?_take, if_pos (by omega), show q + (r - q) = r by omega]; exact hz⟩
      have := h' z hm
      rw [hd] at this
      simp only [Bool.not_eq_true'] at this
      rw [← Bool.not_eq_true, List.contains_iff_mem] at this
      exact this ht

/-- A list of what is done in which nothing stands ahead of what it waits for. -/
def Closed (all : Array Oper) (listed : Array Bool) : Prop :=
  ∀ (i : Nat) (o : Oper), all[i]? = some o → listed.getD i false = true → ∀ e ∈ o.after, Region.binds .any e = true → listed.getD e.on false = true

theorem anc_listed {all : Array Oper} {listed : Array Bool} (hc : Closed all listed) : ∀ (j : Nat) (o : Oper), all[j]? = some o → (∀ e ∈ o.after, Region.binds .any e = true → listed.getD e.on false = true) → ∀ a, Anc all j a → listed.getD a false = true := by
  intro j
  induction j using Nat.strongRecOn with
  | _ j ih =>
    intro o ho he a ha
    obtain ⟨o', h1, e, h2, h3, h4⟩ := anc_good all j a ha
    rw [ho] at h1
    cases h1
    rcases h4 with h4 | ⟨h4, h5⟩
    · rw [h4]; exact he e h2 h3
    · have hl := he e h2 h3
      cases hoo : all[e.on]? with
      | none =>
        obtain ⟨o2, g1, _⟩ := anc_good all e.on a h5
        rw [hoo] at g1; cases g1
      | some o2 => exact ih e.on h4 o2 hoo (hc _ _ hoo hl) a h5

end Go.Ab
