import Derived.Test.YtihmoaibgmhjeaaDoorD5
set_option linter.unusedVariables false
set_option linter.unusedSimpArgs false
namespace Go.Ab
theorem andT_inv {α β : Type} {r : TR α} {f : α → TR β} {b : β} (h : andT r f = .ok b) : ∃ a, r = .ok a ∧ f a = .ok b := by
 cases r with
 | ok a => exact ⟨a, rfl, h⟩
 | error e => cases h
structure Keep (p : Prg) (σ σ' : TS) : Prop where
 ok : TOk p σ'
 loops : σ'.env.loops = σ.env.loops
 ifs : σ'.ifs = σ.ifs
 most : σ.most ≤ σ'.most
 steps : σ.steps ≤ σ'.steps
theorem Keep.trans {p : Prg} {σ σ' σ'' : TS} (a : Keep p σ σ') (b : Keep p σ' σ'') : Keep p σ σ'' := ⟨b.ok, b.loops.trans a.loops, b.ifs.trans a.ifs, Nat.le_trans a.most b.most, Nat.le_trans a.steps b.steps⟩
def GoodT (p : Prg) (f : TS → TR TS) : Prop := ∀ σ σ', TOk p σ → f σ = .ok σ' → Keep p σ σ'
theorem stepT_ok {p : Prg} {σ σ' : TS} (ok : TOk p σ) (h : stepT σ = .ok σ') : σ' = { σ with steps := σ.steps + 1 } ∧ Keep p σ σ' := by
 unfold stepT at h
 split at h
 ·cases h
 ·cases h
  exact ⟨rfl, ⟨ok.env, by show σ.steps + 1 ≤ 10000; omega, ok.most⟩, rfl, rfl, Nat.le_refl _, Nat.le_succ _⟩
theorem EOkT.setV {p : Prg} {σ : TE} (ok : EOkT p σ) {s : ByteArray} {v : Option (Int × Nat)} (hv : ∀ k w, v = some (k, w) → (k = 1 ∨ k = 2) ∧ w ≤ 60 ∧ (k = 2 → w = 0)) : EOkT p { σ with vars := Ab.setV σ.vars s v } := by
 refine ⟨fun t k w h => ?_, ok.loops, ok.wlen, ok.words⟩
 simp only [Ab.setV] at h
 split at h
 ·exact hv k w h
 ·exact ok.vars t k w h
theorem setT_ok {p : Prg} {s : ByteArray} {l : List Kn} (hl : ∀ k ∈ l, KOk k) : GoodT p (setT p s l) := by
 intro σ σ' ok h
 unfold setT at h
 split at h
 ·cases h
 ·cases h
  have h0 := nthK_ok hl 0
  exact ⟨⟨ok.env.setV fun k w h => by cases h; exact ⟨h0.kind, h0.w, fun hb => (h0.boo hb).1⟩, ok.steps, ok.most⟩, rfl, rfl, Nat.le_refl _, Nat.le_refl _⟩
theorem setW_len {l : List (List Nat)} {i n w : Nat} : (setW l i n w).length = l.length := by simp [setW]
theorem setW_get {l : List (List Nat)} {i n w j : Nat} : (setW l i n w)[j]? = if j = i then (l[j]?).map (fun x => x.set n w) else l[j]? := by
 unfold setW
 rw [List.getElem?_set]
 by_cases h : i = j
 ·subst h
  rw [if_pos rfl, if_pos rfl, List.getD_eq_getElem?_getD]
  split
  ·rename_i hl; rw [List.getElem?_eq_getElem hl]; rfl
  ·rename_i hl; rw [List.getElem?_eq_none (by omega)]; rfl
 ·rw [if_neg h, if_neg (fun e => h e.symm)]
theorem EOkT.setW {p : Prg} {σ : TE} (ok : EOkT p σ) {i n w : Nat} (hw : w ≤ 60) : EOkT p { σ with words := Ab.setW σ.words i n w } := by
 refine ⟨ok.vars, ok.loops, by show (Ab.setW _ _ _ _).length = _; rw [setW_len]; exact ok.wlen, fun j l d h0 hd => ?_⟩
 have h : (Ab.setW σ.words i n w)[j]? = some l := h0
 clear h0
 rw [setW_get] at h
 split at h
 ·rename_i e
  subst e
  rw [Option.map_eq_some_iff] at h
  obtain ⟨l0, h1, rfl⟩ := h
  obtain ⟨a, b⟩ := ok.words j l0 d h1 hd
  refine ⟨by rw [List.length_set]; exact a, fun x hx => ?_⟩
  rcases List.mem_or_eq_of_mem_set hx with h | h
  ·exact b x h
  ·omega
 ·exact ok.words j l d h hd
theorem storeT_ok {p : Prg} {s : ByteArray} {l : List Kn} (hl : ∀ k ∈ l, KOk k) : GoodT p (storeT p s l) := by
 intro σ σ' ok h
 unfold storeT at h
 split at h
 ·cases h
 ·obtain ⟨n, _, h⟩ := andT_inv h
  split at h
  ·cases h
  ·cases h
   exact ⟨⟨ok.env.setW (nthK_ok hl 1).w, ok.steps, ok.most⟩, rfl, rfl, Nat.le_refl _, Nat.le_refl _⟩
theorem maxW_get {a b : List (List Nat)} {i : Nat} {l : List Nat} (h : (maxW a b)[i]? = some l) : ∃ x y, a[i]? = some x ∧ b[i]? = some y ∧ l = List.zipWith max x y := by
 unfold maxW at h
 rw [List.getElem?_zipWith] at h
 split at h
 ·rename_i x y hx hy
  cases h
  exact ⟨x, y, hx, hy, rfl⟩
 ·cases h
theorem zip_le {a b : List Nat} (ha : ∀ x ∈ a, x ≤ 60) (hb : ∀ x ∈ b, x ≤ 60) : ∀ x ∈ List.zipWith max a b, x ≤ 60 := by
 intro x hx
 obtain ⟨i, hi⟩ := List.mem_iff_getElem?.1 hx
 rw [List.getElem?_zipWith] at hi
 split at hi
 ·rename_i u v hu hv
  cases hi
  have := ha u (List.mem_of_getElem? hu)
  have := hb v (List.mem_of_getElem? hv)
  omega
 ·cases hi
theorem ifT_ok {p : Prg} {l : List Kn} {fa fb : TS → TR TS} (ha : GoodT p fa) (hb : GoodT p fb) : GoodT p (ifT l fa fb) := by
 intro σ σ' ok h
 unfold ifT at h
 split at h
 ·cases h
 ·obtain ⟨σ1, h1, h⟩ := andT_inv h
  obtain ⟨σ2, h2, h⟩ := andT_inv h
  cases h
  have k1 := ha { σ with ifs := σ.ifs + 1 } _ ⟨ok.env, ok.steps, ok.most⟩ h1
  have k2 := hb { σ1 with env := σ.env } _ ⟨ok.env, k1.ok.steps, k1.ok.most⟩ h2
  refine ⟨⟨⟨fun s k w hv => ?_, ok.env.loops, ?_, fun i l d hl hd => ?_⟩, k2.ok.steps, k2.ok.most⟩, rfl, rfl, Nat.le_trans k1.most k2.most, Nat.le_trans k1.steps k2.steps⟩
  ·have hv : bothV σ.env.vars σ1.env.vars σ2.env.vars s = some (k, w) := hv
   unfold bothV at hv
   split at hv
   ·unfold both1 at hv
    split at hv
    ·rename_i k1' w1 k2' w2 e1 e2
     split at hv
     ·rename_i hk
      cases hv
      have a1 := k1.ok.env.vars s _ _ e1
      have a2 := k2.ok.env.vars s _ _ e2
      refine ⟨a1.1, by show max w1 w2 ≤ 60; omega, fun hh => ?_⟩
      have b1 := a1.2.2 hh
      have b2 := a2.2.2 (hk ▸ hh)
      show max w1 w2 = 0
      omega
     ·cases hv
    ·cases hv
   ·cases hv
  ·show (maxW σ2.env.words σ1.env.words).length = _
   unfold maxW
   rw [List.length_zipWith, k1.ok.env.wlen, k2.ok.env.wlen, Nat.min_self]
  ·obtain ⟨x, y, hx, hy, rfl⟩ := maxW_get hl
   obtain ⟨a1, a2⟩ := k2.ok.env.words i x d hx hd
   obtain ⟨b1, b2⟩ := k1.ok.env.words i y d hy hd
   refine ⟨?_, zip_le a2 b2⟩
   rw [List.length_zipWith]
   omega
theorem turnT_ok {p : Prg} {s : ByteArray} {fa : TS → TR TS} (ha : GoodT p fa) {n : Nat} (hn : n < 1152921504606846976) : GoodT p (turnT s fa n) := by
 intro σ σ' ok h
 unfold turnT at h
 obtain ⟨τ, h1, h⟩ := andT_inv h
 obtain ⟨τ', h2, h⟩ := andT_inv h
 cases h
 obtain ⟨rfl, k1⟩ := stepT_ok ok h1
 have k2 := ha { σ with steps := σ.steps + 1, env := { σ.env with loops := σ.env.loops ++ [(s, n)] } } _ ⟨⟨k1.ok.env.vars, fun t m hm => by
  have hm : (t, m) ∈ σ.env.loops ++ [(s, n)] := hm
  rcases List.mem_append.1 hm with hm | hm
  ·exact k1.ok.env.loops t m hm
  ·rw [List.mem_singleton] at hm; cases hm; exact hn, k1.ok.env.wlen, k1.ok.env.words⟩, k1.ok.steps, k1.ok.most⟩ h2
 exact ⟨⟨⟨k2.ok.env.vars, ok.env.loops, k2.ok.env.wlen, k2.ok.env.words⟩, k2.ok.steps, k2.ok.most⟩, rfl, k2.ifs, k2.most, Nat.le_trans k1.steps k2.steps⟩
theorem Keep.refl {p : Prg} {σ : TS} (ok : TOk p σ) : Keep p σ σ := ⟨ok, rfl, rfl, Nat.le_refl _, Nat.le_refl _⟩
theorem iterT_ok {p : Prg} {f : Nat → TS → TR TS} {m : Nat} (hf : ∀ n, n < m → GoodT p (f n)) : ∀ c n, n + c ≤ m → GoodT p (iterT f c n)
 | 0, n, _ => fun σ σ' ok h => by rw [iterT] at h; cases h; exact Keep.refl ok
 | c + 1, n, hm => fun σ σ' ok h => by
  rw [iterT] at h
  obtain ⟨τ, h1, h⟩ := andT_inv h
  have k1 := hf n (by omega) _ _ ok h1
  exact k1.trans (iterT_ok hf c (n + 1) (by omega) _ _ k1.ok h)
theorem forT_ok {p : Prg} {s : ByteArray} {l : List Kn} (hl : ∀ k ∈ l, KOk k) {fa : TS → TR TS} (ha : GoodT p fa) : GoodT p (forT p s l fa) := by
 intro σ σ' ok h
 unfold forT at h
 split at h
 ·cases h
 ·split at h
  ·cases h
  ·have h1 := (nthK_ok hl 1).lt
   have h0 := (nthK_ok hl 0).lt
   have k0 : Keep p σ { σ with env := { σ.env with vars := setV σ.env.vars s none } } := ⟨⟨ok.env.setV (fun k w h => by cases h), ok.steps, ok.most⟩, rfl, rfl, Nat.le_refl _, Nat.le_refl _⟩
   by_cases hle : (nthK l 0).val ≤ (nthK l 1).val
   ·exact k0.trans (iterT_ok (m := (nthK l 1).val + 1) (fun n hn => turnT_ok ha (by omega)) _ _ (by omega) _ _ k0.ok h)
   ·rw [show (nthK l 1).val + 1 - (nthK l 0).val = 0 by omega, iterT] at h
    cases h
    exact k0
theorem stmt1_ok {p : Prg} {k : Int} {s : ByteArray} {l : List Kn} (hl : ∀ k ∈ l, KOk k) {fa fb : TS → TR TS} (ha : GoodT p fa) (hb : GoodT p fb) : GoodT p (stmt1 p k s l fa fb) := by
 intro σ σ' ok h
 unfold stmt1 at h
 split at h
 ·exact setT_ok hl _ _ ok h
 ·split at h
  ·exact storeT_ok hl _ _ ok h
  ·split at h
   ·exact ifT_ok ha hb _ _ ok h
   ·split at h
    ·exact forT_ok hl ha _ _ ok h
    ·split at h
     ·cases h
     ·cases h; exact Keep.refl ok
theorem stmtsT_ok_of {p : Prg} : ∀ {l : List Stm}, (∀ x ∈ l, GoodT p (stmtT p x)) → GoodT p (stmtsT p l)
 | [], _ => fun σ σ' ok h => by rw [stmtsT] at h; cases h; exact Keep.refl ok
 | x :: xs, hl => fun σ σ' ok h => by
  rw [stmtsT] at h
  obtain ⟨τ, h1, h⟩ := andT_inv h
  have k1 := hl x (by simp) _ _ ok h1
  exact k1.trans (stmtsT_ok_of (fun y hy => hl y (by simp [hy])) _ _ k1.ok h)
theorem stmtT_ok {p : Prg} (hp : PV p) (x : Stm) : ∀ lv, VS x lv → GoodT p (stmtT p x) := by
 induction x using Stm.ind with
 | h k s e a b iha ihb =>
  intro lv hv σ σ' ok h
  obtain ⟨v1, v2, v3, v4, v5, v6, v7, v8, v9, v10, v11⟩ := VS_mk.1 hv
  rw [stmtT] at h
  obtain ⟨τ, h1, h⟩ := andT_inv h
  obtain ⟨rfl, k1⟩ := stepT_ok ok h1
  obtain ⟨⟨l, m⟩, h2, h⟩ := andT_inv h
  obtain ⟨hl, hm, _⟩ := exprsT_ok hp k1.ok.env v9 l m h2
  have k2 : Keep p σ { σ with steps := σ.steps + 1, most := max σ.most m } := ⟨⟨ok.env, k1.ok.steps, by have := ok.most; show max σ.most m ≤ 60; omega⟩, rfl, rfl, by show σ.most ≤ max σ.most m; omega, Nat.le_succ _⟩
  exact k2.trans (stmt1_ok hl (stmtsT_ok_of fun y hy => iha y hy _ (VSs_all.1 v10 y hy)) (stmtsT_ok_of fun y hy => ihb y hy _ (VSs_all.1 v11 y hy)) _ _ k2.ok h)
theorem stmtsT_ok {p : Prg} (hp : PV p) {l : List Stm} {lv : Nat} (hv : VSs l lv) : GoodT p (stmtsT p l) := stmtsT_ok_of fun x hx => stmtT_ok hp x lv (VSs_all.1 hv x hx)
end Go.Ab
