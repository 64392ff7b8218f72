/- What folding leaves: no constants; folding again changes nothing. -/
import Derived.Test.YtemlhjlceeiflaaA12
set_option linter.unusedVariables false
set_option linter.unusedSimpArgs false
namespace Go.Ab

inductive NK : Exp → Prop
  | mk {k o : Int} {n : Nat} {s : ByteArray} {ks : List Exp} (h1 : (constE (.mk k o n s ks)).2 = 1 → k = 1) (h2 : k = 6 → ¬ (constE (nthE ks 0)).2 = 2) (h3 : ∀ x ∈ ks, NK x) : NK (.mk k o n s ks)
inductive NL : Stm → Prop
  | mk {k : Int} {s : ByteArray} {e : List Exp} {a b : List Stm} (he : ∀ x ∈ e, NK x) (ha : ∀ x ∈ a, NL x) (hb : ∀ x ∈ b, NL x) (h3 : k = 3 → ¬ (constE (nthE e 0)).2 = 2)
      (h4 : k = 4 → ¬ ((constE (nthE e 0)).2 = 1 ∧ (constE (nthE e 1)).2 = 1 ∧ (constE (nthE e 1)).1 < (constE (nthE e 0)).1)) : NL (.mk k s e a b)
theorem NK_mk {k o : Int} {n : Nat} {s : ByteArray} {ks : List Exp} (h : NK (.mk k o n s ks)) : ((constE (.mk k o n s ks)).2 = 1 → k = 1) ∧ (k = 6 → ¬ (constE (nthE ks 0)).2 = 2) ∧ ∀ x ∈ ks, NK x := by
  cases h with
  | mk a b c => exact ⟨a, b, c⟩
theorem NL_mk {k : Int} {s : ByteArray} {e : List Exp} {a b : List Stm} (h : NL (.mk k s e a b)) : (∀ x ∈ e, NK x) ∧ (∀ x ∈ a, NL x) ∧ (∀ x ∈ b, NL x) ∧ (k = 3 → ¬ (constE (nthE e 0)).2 = 2) ∧
    (k = 4 → ¬ ((constE (nthE e 0)).2 = 1 ∧ (constE (nthE e 1)).2 = 1 ∧ (constE (nthE e 1)).1 < (constE (nthE e 0)).1)) := by
  cases h with
  | mk a b c d e => exact ⟨a, b, c, d, e⟩
theorem NK_num {n : Nat} : NK (numE n) := .mk (fun _ => rfl) (fun h => by omega) (by simp)
theorem nthE_NK {l : List Exp} {i : Nat} (h : ∀ x ∈ l, NK x) : NK (nthE l i) := by
  by_cases hi : i < l.length
  · exact h _ (nthE_mem hi)
  · have e : nthE l i = numE 0 := by
      unfold nthE
      rw [List.getD_eq_getElem?_getD, List.getElem?_eq_none (by omega)]; rfl
    rw [e]; exact NK_num
theorem NK_top {k o : Int} {n : Nat} {s : ByteArray} {ks : List Exp} (h : ∀ x ∈ ks, NK x) : NK (foldTop k o n s ks) := by
  unfold foldTop
  split
  · exact NK_num
  · rename_i h1
    split
    · split
      · exact nthE_NK h
      · exact nthE_NK h
    · rename_i h2
      exact .mk (fun h => absurd h h1) (fun h h' => h2 ⟨h, h'⟩) h
theorem NK_fold (e : Exp) : NK (foldE e) := by
  induction e using Exp.ind with
  | h k o n s ks ih =>
    rw [foldE_mk]
    refine NK_top fun x hx => ?_
    obtain ⟨y, hy, rfl⟩ := List.mem_map.1 hx
    exact ih y hy
theorem NL_of {l : List Stm} (h : ∀ x ∈ l, ∀ y ∈ foldS x, NL y) : ∀ y ∈ foldSs l, NL y := by
  rw [foldSs_flat]
  intro y hy
  obtain ⟨x, hx, hy⟩ := List.mem_flatMap.1 hy
  exact h x hx y hy
theorem NL_foldS (x : Stm) : ∀ y ∈ foldS x, NL y := by
  induction x using Stm.ind with
  | h k s e a b iha ihb =>
    have ga := NL_of iha
    have gb := NL_of ihb
    rw [foldS_mk]
    unfold foldStm
    split
    · split
      · exact ga
      · exact gb
    · rename_i h3
      split
      · simp
      · rename_i h4
        intro y hy
        have : y = .mk k s (e.map foldE) (foldSs a) (foldSs b) := by simpa using hy
        subst this
        refine .mk (fun x hx => ?_) ga gb (fun h h' => h3 ⟨h, h'⟩) (fun h h' => h4 ⟨h, h'⟩)
        obtain ⟨z, hz, rfl⟩ := List.mem_map.1 hx
        exact NK_fold z
theorem NL_fold {l : List Stm} : ∀ y ∈ foldSs l, NL y := NL_of fun x _ => NL_foldS x

theorem map_same {α : Type} {f : α → α} : ∀ {l : List α}, (∀ x ∈ l, f x = x) → l.map f = l
  | [], _ => rfl
  | x :: l, h => by rw [List.map_cons, h x (by simp), map_same fun y hy => h y (by simp [hy])]
theorem fold_same (e : Exp) : ∀ lv, NK e → VE e lv → foldE e = e := by
  induction e using Exp.ind with
  | h k o n s ks ih =>
    intro lv hk hv
    obtain ⟨v1, v2, v3, v4, v5, v6, v7, v8, v9⟩ := VE_mk.1 hv
    obtain ⟨n1, n2, n3⟩ := NK_mk hk
    rw [foldE_mk, map_same fun x hx => ih x hx _ (n3 x hx) (v9 x hx)]
    unfold foldTop
    split
    · rename_i hc
      have h1 := n1 hc
      subst h1
      have h0 : ks = [] := List.length_eq_zero_iff.1 (by have : kidsN 1 = 0 := rfl; omega)
      subst h0
      have ho := v6 (by decide)
      have hs := v4 (by decide)
      subst ho hs
      rfl
    · split
      · rename_i h; exact absurd h.2 (n2 h.1)
      · rfl
theorem foldSs_same_of : ∀ {l : List Stm}, (∀ x ∈ l, foldS x = [x]) → foldSs l = l
  | [], _ => rfl
  | x :: l, h => by rw [foldSs, h x (by simp), foldSs_same_of fun y hy => h y (by simp [hy])]; rfl
theorem foldS_same (x : Stm) : ∀ lv, NL x → VS x lv → foldS x = [x] := by
  induction x using Stm.ind with
  | h k s e a b iha ihb =>
    intro lv hn hv
    obtain ⟨v1, v2, v3, v4, v5, v6, v7, v8, v9, v10, v11⟩ := VS_mk.1 hv
    obtain ⟨ne, na, nb, n3, n4⟩ := NL_mk hn
    rw [foldS_mk, map_same fun x hx => fold_same x _ (ne x hx) (v9 x hx), foldSs_same_of fun x hx => iha x hx _ (na x hx) (VSs_all.1 v10 x hx), foldSs_same_of fun x hx => ihb x hx _ (nb x hx) (VSs_all.1 v11 x hx)]
    unfold foldStm
    split
    · rename_i h; exact absurd h.2 (n3 h.1)
    · split
      · rename_i h; exact absurd h.2 (n4 h.1)
      · rfl
theorem fold_idem {p : Prg} (hv : VSs p.body 1) : p.fold.fold = p.fold := by
  have h : foldSs (foldSs p.body) = foldSs p.body := foldSs_same_of fun x hx => foldS_same x 1 (NL_fold x hx) (VSs_all.1 (VSs_fold hv) x hx)
  simp only [Prg.fold, h]

end Go.Ab
