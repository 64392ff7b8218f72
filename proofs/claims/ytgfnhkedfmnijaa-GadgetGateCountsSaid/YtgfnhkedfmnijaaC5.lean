/- Circuits that are built gate by gate, with their values. -/
import Derived.Test.YtgfnhkedfmnijaaC4
set_option linter.unusedVariables false
set_option linter.unusedSimpArgs false
namespace Go.Ab.Ytgfnhkedfmnijaa

/-- The gates so far are right, and 'vs' are their values for the inputs 'ls'. -/
structure Rgt (p q : Nat) (ls : List (List Nat)) (gs : List Gt) (vs : List Nat) : Prop where
  sup : Supp p q
  gate : ∀ (i : Nat) (g : Gt), gs[i]? = some g → GateOK p i g
  vals : Vals p ls gs vs
  bits : BitsOK gs ls

theorem cnt_app {gs : List Gt} {g : Gt} {f : Nat} : cnt (gs ++ [g]) f = cnt gs f + (if g.kind = 1 ∧ g.frm = f then 1 else 0) := by
  unfold cnt
  rw [List.filter_append, List.length_append]
  congr 1
  by_cases h1 : g.kind = 1 <;> by_cases h2 : g.frm = f <;> simp [h1, h2]

section
variable {p q : Nat} {ls : List (List Nat)} {gs : List Gt} {vs : List Nat}

theorem good_nil (hs : Supp p q) : Rgt p q ls [] [] :=
  ⟨hs, fun i g h => by simp at h, ⟨rfl, fun i g h => by simp at h, fun x h => by simp at h⟩, fun i f k h => by simp at h⟩

theorem gval_mono {pre : List Gt} {vs : List Nat} {x : Nat} {g : Gt} {i : Nat} (hi : i ≤ vs.length) (hg : GateOK p i g) : gval p ls pre (vs ++ [x]) g = gval p ls pre vs g := by
  have e : ∀ a : Nat, a < i → (vs ++ [x]).getD a 0 = vs.getD a 0 := by
    intro a ha
    rw [List.getD_eq_getElem?_getD, List.getElem?_append_left (by omega), List.getD_eq_getElem?_getD]
  cases hg with
  | inp => rfl
  | const => rfl
  | add a b h1 h2 =>
    show ((vs ++ [x]).getD a 0 + (vs ++ [x]).getD b 0) % p = (vs.getD a 0 + vs.getD b 0) % p
    rw [e a h1, e b h2]
  | sub a b h1 h2 =>
    show ((vs ++ [x]).getD a 0 + p - (vs ++ [x]).getD b 0) % p = (vs.getD a 0 + p - vs.getD b 0) % p
    rw [e a h1, e b h2]
  | scale k a h h1 =>
    show k * (vs ++ [x]).getD a 0 % p = k * vs.getD a 0 % p
    rw [e a h1]
  | mul a b h1 h2 =>
    show (vs ++ [x]).getD a 0 * (vs ++ [x]).getD b 0 % p = vs.getD a 0 * vs.getD b 0 % p
    rw [e a h1, e b h2]

theorem good_app {g : Gt} {x : Nat} (hg : Rgt p q ls gs vs) (ok : GateOK p gs.length g) (hx : gval p ls gs vs g = x) (hlt : x < p)
    (hbit : ∀ f k : Nat, g = ⟨1, f, 0, 0, k⟩ → k = 1 → ∀ ws, ls[f - 1]? = some ws → ∀ w, ws[cnt gs f]? = some w → w ≤ 1) : Rgt p q ls (gs ++ [g]) (vs ++ [x]) := by
  have hlen := hg.vals.len
  refine ⟨hg.sup, fun i g' h => ?_, ⟨by simp [hlen], fun i g' h => ?_, fun y hy => ?_⟩, fun i f k h hk ws hw w hww => ?_⟩
  · rcases Nat.lt_trichotomy i gs.length with h1 | h1 | h1
    · rw [List.getElem?_append_left h1] at h; exact hg.gate i g' h
    · subst h1; rw [List.getElem?_append_right (Nat.le_refl _)] at h; simp at h; subst h; exact ok
    · rw [List.getElem?_eq_none (by simp; omega)] at h; simp at h
  · rcases Nat.lt_trichotomy i gs.length with h1 | h1 | h1
    · rw [List.getElem?_append_left h1] at h
      rw [List.getElem?_append_left (by omega), List.take_append_of_le_length (by omega), gval_mono (by omega) (hg.gate i g' h)]
      exact hg.vals.val i g' h
    · subst h1; rw [List.getElem?_append_right (Nat.le_refl _)] at h; simp at h; subst h
      rw [List.take_append_of_le_length (Nat.le_refl _), List.take_length, gval_mono (by omega) ok, hx, ← hlen, List.getElem?_append_right (Nat.le_refl _)]
      simp
    · rw [List.getElem?_eq_none (by simp; omega)] at h; simp at h
  · rcases List.mem_append.1 hy with h1 | h1
    · exact hg.vals.lt y h1
    · simp at h1; subst h1; exact hlt
  · rcases Nat.lt_trichotomy i gs.length with h1 | h1 | h1
    · rw [List.getElem?_append_left h1] at h
      rw [List.take_append_of_le_length (by omega)] at hww
      exact hg.bits i f k h hk ws hw w hww
    · subst h1; rw [List.getElem?_append_right (Nat.le_refl _)] at h; simp at h
      rw [List.take_append_of_le_length (Nat.le_refl _), List.take_length] at hww
      exact hbit f k h hk ws hw w hww
    · rw [List.getElem?_eq_none (by simp; omega)] at h; simp at h

/-- How many gates multiply. -/
def muls (gs : List Gt) : Nat := (gs.filter fun g => decide (g.kind = 6)).length
theorem muls_app {gs : List Gt} {g : Gt} : muls (gs ++ [g]) = muls gs + (if g.kind = 6 then 1 else 0) := by
  unfold muls
  rw [List.filter_append, List.length_append]
  congr 1
  by_cases h1 : g.kind = 6 <;> simp [h1]

/-- How many gates are inputs. -/
def nin (gs : List Gt) : Nat := (gs.filter fun g => decide (g.kind = 1)).length
theorem nin_app {gs : List Gt} {g : Gt} : nin (gs ++ [g]) = nin gs + (if g.kind = 1 then 1 else 0) := by
  unfold nin
  rw [List.filter_append, List.length_append]
  congr 1
  by_cases h1 : g.kind = 1 <;> simp [h1]

/-- What is added: 'm' products and 'n' gates, none of them an input; what was there stays. -/
structure Grew (p q : Nat) (ls : List (List Nat)) (gs : List Gt) (vs : List Nat) (m n : Nat) (gs' : List Gt) (vs' : List Nat) : Prop where
  good : Rgt p q ls gs' vs'
  pre : ∀ i, i < gs.length → vs'.getD i 0 = vs.getD i 0
  len : gs'.length = gs.length + n
  mul : muls gs' = muls gs + m
  inp : ∀ f, cnt gs' f = cnt gs f
  nin : nin gs' = nin gs

theorem Grew.refl (hg : Rgt p q ls gs vs) : Grew p q ls gs vs 0 0 gs vs := ⟨hg, fun _ _ => rfl, rfl, rfl, fun _ => rfl, rfl⟩
theorem Grew.trans {m n m' n' : Nat} {gs1 gs2 : List Gt} {vs1 vs2 : List Nat} (a : Grew p q ls gs vs m n gs1 vs1) (b : Grew p q ls gs1 vs1 m' n' gs2 vs2) : Grew p q ls gs vs (m + m') (n + n') gs2 vs2 :=
  ⟨b.good, fun i hi => by rw [b.pre i (by rw [a.len]; omega), a.pre i hi], by rw [b.len, a.len]; omega, by rw [b.mul, a.mul]; omega, fun f => by rw [b.inp, a.inp], by rw [b.nin, a.nin]⟩

theorem grew_one {g : Gt} {x m : Nat} (hg : Rgt p q ls gs vs) (ok : GateOK p gs.length g) (hx : gval p ls gs vs g = x) (hlt : x < p) (hk : g.kind ≠ 1) (hm : (if g.kind = 6 then 1 else 0) = m) :
    Grew p q ls gs vs m 1 (gs ++ [g]) (vs ++ [x]) ∧ (vs ++ [x]).getD gs.length 0 = x := by
  have hlen := hg.vals.len
  refine ⟨⟨good_app hg ok hx hlt (fun f k h => absurd (by rw [h]) hk), fun i hi => ?_, by simp, by rw [muls_app, hm], fun f => by rw [cnt_app, if_neg (fun h => hk h.1)]; rfl, by rw [nin_app, if_neg hk]; rfl⟩, ?_⟩
  · rw [List.getD_eq_getElem?_getD, List.getElem?_append_left (by omega), List.getD_eq_getElem?_getD]
  · rw [← hlen, List.getD_eq_getElem?_getD, List.getElem?_append_right (Nat.le_refl _)]; simp

theorem Rgt.p0 (hg : Rgt p q ls gs vs) : 0 < p ∧ p ≤ 2305843009213693951 := by
  rcases hg.sup with ⟨rfl, _⟩ | ⟨rfl, _⟩ | ⟨rfl, _⟩ | ⟨rfl, _⟩ | ⟨rfl, _⟩ | ⟨rfl, _⟩ | ⟨rfl, _⟩ <;> decide
theorem Rgt.vlt (hg : Rgt p q ls gs vs) (a : Nat) : vs.getD a 0 < p := by
  rw [List.getD_eq_getElem?_getD]
  cases h : vs[a]? with
  | none => exact hg.p0.1
  | some x => exact hg.vals.lt x (List.mem_of_getElem? h)

/-- A circuit that is built fits and is valid. -/
theorem Rgt.circ {outs : List Int} (hg : Rgt p q ls gs vs) (hl : gs.length ≤ 20000) (ho : outs.length ≤ 1000) (hoo : ∀ o ∈ outs, 0 ≤ o ∧ o < gs.length) : Circ p q gs outs := ⟨hg.sup, hl, ho, hg.gate, hoo⟩

end
end Go.Ab.Ytgfnhkedfmnijaa
