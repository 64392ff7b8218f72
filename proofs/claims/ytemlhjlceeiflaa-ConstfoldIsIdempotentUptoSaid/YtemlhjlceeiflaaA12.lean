/- Folded programs, as data. -/
import Derived.Test.YtemlhjlceeiflaaA8
set_option linter.unusedVariables false
set_option linter.unusedSimpArgs false
namespace Go.Ab

def numE (n : Nat) : Exp := .mk 1 0 n noName []
def nthE (l : List Exp) (i : Nat) : Exp := l.getD i (numE 0)
def foldTop (k o : Int) (n : Nat) (s : ByteArray) (ks : List Exp) : Exp :=
  if (constE (.mk k o n s ks)).2 = 1 then numE (constE (.mk k o n s ks)).1
  else if k = 6 ∧ (constE (nthE ks 0)).2 = 2 then (if (constE (nthE ks 0)).1 = 1 then nthE ks 1 else nthE ks 2)
  else .mk k o n s ks
mutual
def foldE : Exp → Exp
  | .mk k o n s ks => foldTop k o n s (foldEs ks)
def foldEs : List Exp → List Exp
  | [] => []
  | e :: es => foldE e :: foldEs es
end
theorem foldEs_map : ∀ l : List Exp, foldEs l = l.map foldE
  | [] => rfl
  | e :: es => by rw [foldEs, foldEs_map es]; rfl
theorem foldE_mk {k o : Int} {n : Nat} {s : ByteArray} {ks : List Exp} : foldE (.mk k o n s ks) = foldTop k o n s (ks.map foldE) := by rw [foldE, foldEs_map]

def foldStm (k : Int) (s : ByteArray) (e : List Exp) (a b : List Stm) : List Stm :=
  if k = 3 ∧ (constE (nthE e 0)).2 = 2 then (if (constE (nthE e 0)).1 = 1 then a else b)
  else if k = 4 ∧ ((constE (nthE e 0)).2 = 1 ∧ (constE (nthE e 1)).2 = 1 ∧ (constE (nthE e 1)).1 < (constE (nthE e 0)).1) then []
  else [.mk k s e a b]
mutual
def foldS : Stm → List Stm
  | .mk k s e a b => foldStm k s (e.map foldE) (foldSs a) (foldSs b)
def foldSs : List Stm → List Stm
  | [] => []
  | x :: xs => foldS x ++ foldSs xs
end
theorem foldS_mk {k : Int} {s : ByteArray} {e : List Exp} {a b : List Stm} : foldS (.mk k s e a b) = foldStm k s (e.map foldE) (foldSs a) (foldSs b) := by rw [foldS]
theorem foldSs_append : ∀ a b : List Stm, foldSs (a ++ b) = foldSs a ++ foldSs b
  | [], b => by rw [List.nil_append, foldSs, List.nil_append]
  | x :: a, b => by rw [List.cons_append, foldSs, foldSs, foldSs_append a b, List.append_assoc]
theorem foldSs_take {l : List Stm} {i : Nat} (hi : i < l.length) : foldSs (l.take (i + 1)) = foldSs (l.take i) ++ foldS l[i] := by
  rw [List.take_add_one, List.getElem?_eq_getElem hi, foldSs_append]
  simp [foldSs]
theorem foldSs_flat : ∀ l : List Stm, foldSs l = l.flatMap foldS
  | [] => rfl
  | x :: l => by rw [foldSs, foldSs_flat l, List.flatMap_cons]
def Prg.fold (p : Prg) : Prg := ⟨p.ins, p.arrays, foldSs p.body⟩

-- validity
theorem VE_mono (e : Exp) : ∀ lv lv', VE e lv → lv' ≤ lv → VE e lv' := by
  induction e using Exp.ind with
  | h k o n s ks ih =>
    intro lv lv' hv hl
    obtain ⟨v1, v2, v3, v4, v5, v6, v7, v8, v9⟩ := VE_mk.1 hv
    exact VE_mk.2 ⟨by omega, v2, v3, v4, v5, v6, v7, v8, fun x hx => ih x hx _ _ (v9 x hx) (by omega)⟩
theorem VS_mono (x : Stm) : ∀ lv lv', VS x lv → lv' ≤ lv → VS x lv' := by
  induction x using Stm.ind with
  | h k s e a b iha ihb =>
    intro lv lv' hv hl
    obtain ⟨v1, v2, v3, v4, v5, v6, v7, v8, v9, v10, v11⟩ := VS_mk.1 hv
    exact VS_mk.2 ⟨by omega, v2, v3, v4, v5, v6, v7, v8, fun x hx => VE_mono x _ _ (v9 x hx) (by omega),
      VSs_all.2 fun x hx => iha x hx _ _ (VSs_all.1 v10 x hx) (by omega), VSs_all.2 fun x hx => ihb x hx _ _ (VSs_all.1 v11 x hx) (by omega)⟩
theorem VSs_mono {l : List Stm} {lv lv' : Nat} (h : VSs l lv) (hl : lv' ≤ lv) : VSs l lv' := VSs_all.2 fun x hx => VS_mono x _ _ (VSs_all.1 h x hx) hl

theorem nthE_mem {l : List Exp} {i : Nat} (h : i < l.length) : nthE l i ∈ l := by
  unfold nthE
  rw [List.getD_eq_getElem?_getD, List.getElem?_eq_getElem h]
  exact List.getElem_mem h
theorem VE_num {n lv : Nat} (hn : n < 1152921504606846976) (hl : lv ≤ 24) : VE (numE n) lv :=
  VE_mk.2 ⟨hl, rfl, fun h => by omega, fun _ => rfl, fun h => by omega, fun _ => rfl, by omega, fun h => absurd rfl h, by simp⟩

theorem VE_top {k o : Int} {n : Nat} {s : ByteArray} {ks : List Exp} {lv : Nat} (hv : VE (.mk k o n s ks) lv) : VE (foldTop k o n s ks) lv := by
  obtain ⟨v1, v2, v3, v4, v5, v6, v7, v8, v9⟩ := VE_mk.1 hv
  unfold foldTop
  split
  · rename_i hc
    have := ck_const _ _ hv
    exact VE_num (by rcases this with c | c | c <;> omega) v1
  · split
    · rename_i hk
      have hl : ks.length = 3 := by
        have := hk.1
        subst this
        have : kidsN 6 = 3 := rfl
        omega
      split
      · exact VE_mono _ _ _ (v9 _ (nthE_mem (by omega))) (by omega)
      · exact VE_mono _ _ _ (v9 _ (nthE_mem (by omega))) (by omega)
    · exact hv
theorem VE_kids {k o : Int} {n : Nat} {s : ByteArray} {ks : List Exp} {lv : Nat} {f : Exp → Exp} (hv : VE (.mk k o n s ks) lv) (hf : ∀ x ∈ ks, VE (f x) (lv + 1)) : VE (.mk k o n s (ks.map f)) lv := by
  obtain ⟨v1, v2, v3, v4, v5, v6, v7, v8, v9⟩ := VE_mk.1 hv
  refine VE_mk.2 ⟨v1, by rw [List.length_map]; exact v2, v3, v4, v5, v6, v7, v8, fun x hx => ?_⟩
  obtain ⟨y, hy, rfl⟩ := List.mem_map.1 hx
  exact hf y hy
theorem VE_fold (e : Exp) : ∀ lv, VE e lv → VE (foldE e) lv := by
  induction e using Exp.ind with
  | h k o n s ks ih =>
    intro lv hv
    obtain ⟨v1, v2, v3, v4, v5, v6, v7, v8, v9⟩ := VE_mk.1 hv
    rw [foldE_mk]
    exact VE_top (VE_kids hv fun x hx => ih x hx _ (v9 x hx))

theorem VS_stm {k : Int} {s : ByteArray} {e : List Exp} {a b : List Stm} {lv : Nat} (hv : VS (.mk k s e a b) lv) : VSs (foldStm k s e a b) lv := by
  obtain ⟨v1, v2, v3, v4, v5, v6, v7, v8, v9, v10, v11⟩ := VS_mk.1 hv
  unfold foldStm
  split
  · split
    · exact VSs_mono v10 (by omega)
    · exact VSs_mono v11 (by omega)
  · split
    · exact VSs_all.2 (by simp)
    · exact VSs_all.2 (by simpa using hv)
theorem VSs_of {l : List Stm} {lv : Nat} (h : ∀ x ∈ l, VSs (foldS x) lv) : VSs (foldSs l) lv := by
  rw [foldSs_flat]
  refine VSs_all.2 fun x hx => ?_
  obtain ⟨y, hy, hx⟩ := List.mem_flatMap.1 hx
  exact VSs_all.1 (h y hy) x hx
theorem foldSs_nil {l : List Stm} (h : l = []) : foldSs l = [] := by subst h; rfl
theorem VS_parts {k : Int} {s : ByteArray} {e : List Exp} {a b : List Stm} {lv : Nat} (hv : VS (.mk k s e a b) lv) (ha : VSs (foldSs a) (lv + 1)) (hb : VSs (foldSs b) (lv + 1)) : VS (.mk k s (e.map foldE) (foldSs a) (foldSs b)) lv := by
  obtain ⟨v1, v2, v3, v4, v5, v6, v7, v8, v9, v10, v11⟩ := VS_mk.1 hv
  refine VS_mk.2 ⟨v1, v2, v3, by rw [List.length_map]; exact v4, v5, v6, fun h => foldSs_nil (v7 h), fun h h' => foldSs_nil (v8 h h'), fun x hx => ?_, ha, hb⟩
  obtain ⟨y, hy, rfl⟩ := List.mem_map.1 hx
  exact VE_fold y _ (v9 y hy)
theorem VS_fold (x : Stm) : ∀ lv, VS x lv → VSs (foldS x) lv := by
  induction x using Stm.ind with
  | h k s e a b iha ihb =>
    intro lv hv
    obtain ⟨v1, v2, v3, v4, v5, v6, v7, v8, v9, v10, v11⟩ := VS_mk.1 hv
    rw [foldS_mk]
    exact VS_stm (VS_parts hv (VSs_of fun x hx => iha x hx _ (VSs_all.1 v10 x hx)) (VSs_of fun x hx => ihb x hx _ (VSs_all.1 v11 x hx)))
theorem VSs_fold {l : List Stm} {lv : Nat} (h : VSs l lv) : VSs (foldSs l) lv := VSs_of fun x hx => VS_fold x _ (VSs_all.1 h x hx)

-- bulk
theorem bulks_mem : ∀ {l : List Exp} {x : Exp}, x ∈ l → x.v.bulk ≤ V.bulks (l.map Exp.v)
  | y :: l, x, h => by
    rw [List.map_cons, V.bulks]
    rcases List.mem_cons.1 h with rfl | h
    · omega
    · have := bulks_mem h; omega
theorem exp_six (e : Exp) : 6 ≤ e.v.bulk := by
  obtain ⟨k, o, n, s, ks⟩ := e
  rw [exp_bulk]; omega
theorem bulk_num {n : Nat} : (numE n).v.bulk = 6 := by
  rw [numE, exp_bulk]; rfl
theorem bulk_map {f : Exp → Exp} : ∀ {l : List Exp}, (∀ x ∈ l, (f x).v.bulk ≤ x.v.bulk) → V.bulks ((l.map f).map Exp.v) ≤ V.bulks (l.map Exp.v)
  | [], _ => Nat.le_refl _
  | x :: l, h => by
    rw [List.map_cons, List.map_cons, List.map_cons, V.bulks, V.bulks]
    have h1 := h x (by simp)
    have h2 := bulk_map (l := l) fun y hy => h y (by simp [hy])
    omega
theorem nthE_bulk {l : List Exp} {i : Nat} : (nthE l i).v.bulk ≤ 6 + V.bulks (l.map Exp.v) := by
  by_cases h : i < l.length
  · have := bulks_mem (nthE_mem h); omega
  · have e : nthE l i = numE 0 := by
      unfold nthE
      rw [List.getD_eq_getElem?_getD, List.getElem?_eq_none (by omega)]; rfl
    rw [e, bulk_num]; omega
theorem bulk_foldE (e : Exp) : (foldE e).v.bulk ≤ e.v.bulk := by
  induction e using Exp.ind with
  | h k o n s ks ih =>
    have h1 := bulk_map ih
    rw [foldE_mk, exp_bulk]
    unfold foldTop
    split
    · rw [bulk_num]; omega
    · split
      · split
        · have := nthE_bulk (l := ks.map foldE) (i := 1); omega
        · have := nthE_bulk (l := ks.map foldE) (i := 2); omega
      · rw [exp_bulk]; omega
theorem bulk_of : ∀ {l : List Stm}, (∀ x ∈ l, V.bulks ((foldS x).map Stm.v) ≤ x.v.bulk) → V.bulks ((foldSs l).map Stm.v) ≤ V.bulks (l.map Stm.v)
  | [], _ => Nat.le_refl _
  | x :: l, h => by
    rw [foldSs, List.map_append, bulks_append, List.map_cons, V.bulks]
    have h1 := h x (by simp)
    have h2 := bulk_of (l := l) fun y hy => h y (by simp [hy])
    omega
theorem bulk_foldS (x : Stm) : V.bulks ((foldS x).map Stm.v) ≤ x.v.bulk := by
  induction x using Stm.ind with
  | h k s e a b iha ihb =>
    have h1 := bulk_of iha
    have h2 := bulk_of ihb
    have h3 := bulk_map (l := e) (f := foldE) fun x _ => bulk_foldE x
    rw [foldS_mk, stm_bulk]
    unfold foldStm
    split
    · split <;> omega
    · split
      · exact Nat.zero_le _
      · rw [List.map_cons, List.map_nil, bulks_one, stm_bulk]; omega
theorem bulk_foldSs {l : List Stm} : V.bulks ((foldSs l).map Stm.v) ≤ V.bulks (l.map Stm.v) := bulk_of fun x _ => bulk_foldS x
theorem bulk_fold {p : Prg} : p.fold.v.bulk ≤ p.v.bulk := by
  have := bulk_foldSs (l := p.body)
  rw [prg_bulk, prg_bulk]
  simp only [Prg.fold]
  omega
theorem stm_six (x : Stm) : 6 ≤ x.v.bulk := by
  obtain ⟨k, s, e, a, b⟩ := x
  rw [stm_bulk]; omega
theorem stms_len : ∀ {l : List Stm}, l.length ≤ V.bulks (l.map Stm.v)
  | [] => Nat.le_refl _
  | x :: l => by
    rw [List.map_cons, V.bulks, List.length_cons]
    have := stm_six x
    have := stms_len (l := l)
    omega

-- numbers in range
theorem EOk_top {k o : Int} {n : Nat} {s : ByteArray} {ks : List Exp} {lv : Nat} (hv : VE (.mk k o n s ks) lv) (ok : EOk (.mk k o n s ks)) : EOk (foldTop k o n s ks) := by
  obtain ⟨v1, v2, v3, v4, v5, v6, v7, v8, v9⟩ := VE_mk.1 hv
  obtain ⟨_, _, hn, _, _, hks⟩ := EOk_mk ok
  unfold foldTop
  split
  · rename_i hc
    have := ck_const _ _ hv
    exact .mk ⟨by decide, by decide⟩ ⟨by decide, by decide⟩ (by rcases this with c | c | c <;> omega) (by decide) (by simp) (by simp)
  · split
    · rename_i hk
      have hl : ks.length = 3 := by
        have := hk.1
        subst this
        have : kidsN 6 = 3 := rfl
        omega
      split
      · exact hks _ (nthE_mem (by omega))
      · exact hks _ (nthE_mem (by omega))
    · exact ok
theorem EOk_kids {k o : Int} {n : Nat} {s : ByteArray} {ks : List Exp} {f : Exp → Exp} (ok : EOk (.mk k o n s ks)) (hf : ∀ x ∈ ks, EOk (f x)) : EOk (.mk k o n s (ks.map f)) := by
  obtain ⟨a1, a2, a3, a4, a5, a6⟩ := EOk_mk ok
  refine .mk a1 a2 a3 a4 (by rw [List.length_map]; exact a5) fun x hx => ?_
  obtain ⟨y, hy, rfl⟩ := List.mem_map.1 hx
  exact hf y hy
theorem EOk_fold (e : Exp) : ∀ lv, VE e lv → EOk e → EOk (foldE e) := by
  induction e using Exp.ind with
  | h k o n s ks ih =>
    intro lv hv ok
    obtain ⟨v1, v2, v3, v4, v5, v6, v7, v8, v9⟩ := VE_mk.1 hv
    obtain ⟨_, _, hn, _, _, hks⟩ := EOk_mk ok
    rw [foldE_mk]
    exact EOk_top (VE_kids hv fun x hx => VE_fold x _ (v9 x hx)) (EOk_kids ok fun x hx => ih x hx _ (v9 x hx) (hks x hx))

theorem SOk_of {l : List Stm} (h : ∀ x ∈ l, ∀ y ∈ foldS x, SOk y) : ∀ y ∈ foldSs l, SOk y := by
  rw [foldSs_flat]
  intro y hy
  obtain ⟨x, hx, hy⟩ := List.mem_flatMap.1 hy
  exact h x hx y hy
theorem bulks_memS : ∀ {l : List Stm} {x : Stm}, x ∈ l → x.v.bulk ≤ V.bulks (l.map Stm.v)
  | y :: l, x, h => by
    rw [List.map_cons, V.bulks]
    rcases List.mem_cons.1 h with rfl | h
    · omega
    · have := bulks_memS h; omega
theorem SOk_parts {k : Int} {s : ByteArray} {e : List Exp} {a b : List Stm} {lv : Nat} (hv : VS (.mk k s e a b) lv) (ok : SOk (.mk k s e a b)) (hb : (Stm.mk k s e a b).v.bulk ≤ 20000000) (oka : ∀ y ∈ foldSs a, SOk y) (okb : ∀ y ∈ foldSs b, SOk y) :
    SOk (.mk k s (e.map foldE) (foldSs a) (foldSs b)) := by
  obtain ⟨v1, v2, v3, v4, v5, v6, v7, v8, v9, v10, v11⟩ := VS_mk.1 hv
  obtain ⟨hk, hs, hle, hla, hlb, oke, _, _⟩ := SOk_mk ok
  have hm := maxLen_eq
  rw [stm_bulk] at hb
  have h1 := bulk_foldSs (l := a)
  have h2 := bulk_foldSs (l := b)
  have h3 := stms_len (l := foldSs a)
  have h4 := stms_len (l := foldSs b)
  refine .mk hk hs (by rw [List.length_map]; exact hle) (by omega) (by omega) (fun x hx => ?_) oka okb
  obtain ⟨y, hy, rfl⟩ := List.mem_map.1 hx
  exact EOk_fold y _ (v9 y hy) (oke y hy)
theorem SOk_fold (x : Stm) : ∀ lv, VS x lv → SOk x → x.v.bulk ≤ 20000000 → ∀ y ∈ foldS x, SOk y := by
  induction x using Stm.ind with
  | h k s e a b iha ihb =>
    intro lv hv ok hb
    obtain ⟨v1, v2, v3, v4, v5, v6, v7, v8, v9, v10, v11⟩ := VS_mk.1 hv
    obtain ⟨hk, hs, hle, hla, hlb, oke, oka, okb⟩ := SOk_mk ok
    have hb2 := hb
    rw [stm_bulk] at hb2
    have ga : ∀ y ∈ foldSs a, SOk y := SOk_of fun x hx => iha x hx _ (VSs_all.1 v10 x hx) (oka x hx) (by have := bulks_memS hx; omega)
    have gb : ∀ y ∈ foldSs b, SOk y := SOk_of fun x hx => ihb x hx _ (VSs_all.1 v11 x hx) (okb x hx) (by have := bulks_memS hx; omega)
    rw [foldS_mk]
    unfold foldStm
    split
    · split
      · exact ga
      · exact gb
    · split
      · simp
      · simpa using SOk_parts hv ok hb ga gb
theorem POk_fold {p : Prg} (ok : POk p) (hv : VSs p.body 1) (hb : p.v.bulk ≤ 20000000) : POk p.fold := by
  have hm := maxLen_eq
  have h1 := bulk_foldSs (l := p.body)
  have h2 := stms_len (l := foldSs p.body)
  rw [prg_bulk] at hb
  exact ⟨ok.ins, ok.arrays, SOk_of fun x hx => SOk_fold x _ (VSs_all.1 hv x hx) (ok.body x hx) (by have := bulks_memS hx; omega), ok.li, ok.la, by simp only [Prg.fold]; omega⟩

end Go.Ab
