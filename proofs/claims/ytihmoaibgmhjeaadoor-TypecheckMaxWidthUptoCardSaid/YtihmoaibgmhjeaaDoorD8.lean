import Derived.Test.YtihmoaibgmhjeaaDoorD6
import Derived.Test.YtihmoaibgmhjeaaDoorD7
set_option linter.unusedVariables false
set_option linter.unusedSimpArgs false
namespace Go.Ab
def setE {α : Type} (s : ByteArray) (v : α) : List (ByteArray × α) → List (ByteArray × α)
 | [] => [(s, v)]
 | (a, u) :: es => if a = s then (s, v) :: es else (a, u) :: setE s v es
def delE {α : Type} (s : ByteArray) : List (ByteArray × α) → List (ByteArray × α)
 | [] => []
 | (a, u) :: es => if a = s then es else (a, u) :: delE s es
theorem findL_setE {α : Type} {s t : ByteArray} {v : α} : ∀ {l : List (ByteArray × α)}, findL t (setE s v l) = if t = s then some v else findL t l
 | [] => by
  simp only [setE, findL]
  by_cases h : s = t
  ·rw [if_pos h, if_pos h.symm]
  ·rw [if_neg h, if_neg (fun e => h e.symm)]
 | (a, u) :: es => by
  simp only [setE]
  by_cases h : a = s
  ·rw [if_pos h]
   simp only [findL]
   by_cases g : s = t
   ·rw [if_pos g, if_pos g.symm]
   ·rw [if_neg g, if_neg (fun e => g e.symm), if_neg (fun e => g (h.symm.trans e))]
  ·rw [if_neg h]
   simp only [findL]
   by_cases g : a = t
   ·rw [if_pos g, if_neg (fun e => h (g.trans e)), if_pos g]
   ·rw [if_neg g, findL_setE, if_neg g]
theorem keys_setE {α : Type} {s : ByteArray} {v : α} : ∀ {l : List (ByteArray × α)}, (s ∈ l.map (·.1) → (setE s v l).map (·.1) = l.map (·.1)) ∧ (s ∉ l.map (·.1) → (setE s v l).map (·.1) = l.map (·.1) ++ [s])
 | [] => by simp [setE]
 | (a, u) :: es => by
  simp only [setE]
  by_cases h : a = s
  ·subst h
   rw [if_pos rfl]; simp
  ·rw [if_neg h]
   simp only [List.map_cons, List.mem_cons, not_or]
   obtain ⟨i1, i2⟩ := keys_setE (s := s) (v := v) (l := es)
   exact ⟨fun hh => by rw [i1 (hh.resolve_left fun e => h e.symm)], fun hh => by rw [i2 hh.2]; rfl⟩
theorem nodup_setE {α : Type} {s : ByteArray} {v : α} {l : List (ByteArray × α)} (h : (l.map (·.1)).Nodup) : ((setE s v l).map (·.1)).Nodup := by
 by_cases hs : s ∈ l.map (·.1)
 ·rw [keys_setE.1 hs]; exact h
 ·rw [keys_setE.2 hs]
  exact List.nodup_append.2 ⟨h, by simp, fun a ha b hb e => by rw [List.mem_singleton] at hb; subst hb; subst e; exact hs ha⟩
theorem findL_none {α : Type} {s : ByteArray} : ∀ {l : List (ByteArray × α)}, findL s l = none ↔ s ∉ l.map (·.1)
 | [] => by simp [findL]
 | (a, u) :: es => by
  simp only [findL, List.map_cons, List.mem_cons, not_or]
  by_cases h : a = s
  ·rw [if_pos h]; exact ⟨fun e => (by cases e), fun hh => absurd h.symm hh.1⟩
  ·rw [if_neg h, findL_none]; exact ⟨fun hh => ⟨fun e => h e.symm, hh⟩, fun hh => hh.2⟩
theorem findL_delE {α : Type} {s t : ByteArray} : ∀ {l : List (ByteArray × α)}, (l.map (·.1)).Nodup → findL t (delE s l) = if t = s then none else findL t l
 | [], _ => by simp [delE, findL]
 | (a, u) :: es, hn => by
  have hn' := List.nodup_cons.1 (by simpa using hn : (a :: es.map (·.1)).Nodup)
  simp only [delE]
  by_cases h : a = s
  ·rw [if_pos h]
   simp only [findL]
   by_cases g : t = s
   ·rw [if_pos g]; subst g; subst h; exact findL_none.2 hn'.1
   ·rw [if_neg g, if_neg (fun e => g (e.symm.trans h))]
  ·rw [if_neg h]
   simp only [findL]
   by_cases g : a = t
   ·rw [if_pos g, if_pos g, if_neg (fun e => h (g.trans e))]
   ·rw [if_neg g, if_neg g, findL_delE hn'.2]
theorem sub_delE {α : Type} {s : ByteArray} : ∀ {l : List (ByteArray × α)}, ((delE s l).map (·.1)).Sublist (l.map (·.1))
 | [] => .slnil
 | (a, u) :: es => by
  simp only [delE]
  split
  ·exact .cons _ (List.Sublist.refl _)
  ·exact (sub_delE).cons_cons _
theorem delE_none {α : Type} {s : ByteArray} : ∀ {l : List (ByteArray × α)}, s ∉ l.map (·.1) → delE s l = l
 | [], _ => rfl
 | (a, u) :: es, h => by
  simp only [List.map_cons, List.mem_cons, not_or] at h
  simp only [delE]
  rw [if_neg (fun e => h.1 e.symm), delE_none h.2]
theorem delE_last {α : Type} {s : ByteArray} {v : α} : ∀ {l : List (ByteArray × α)}, s ∉ l.map (·.1) → delE s (l ++ [(s, v)]) = l
 | [], _ => by simp [delE]
 | (a, u) :: es, h => by
  simp only [List.map_cons, List.mem_cons, not_or] at h
  simp only [List.cons_append, delE]
  rw [if_neg (fun e => h.1 e.symm), delE_last h.2]
theorem setE_new {α : Type} {s : ByteArray} {v : α} : ∀ {l : List (ByteArray × α)}, s ∉ l.map (·.1) → setE s v l = l ++ [(s, v)]
 | [], _ => rfl
 | (a, u) :: es, h => by
  simp only [List.map_cons, List.mem_cons, not_or] at h
  simp only [setE]
  rw [if_neg (fun e => h.1 e.symm), setE_new h.2]; rfl
theorem setE_last {α : Type} {s : ByteArray} {u v : α} : ∀ {l : List (ByteArray × α)}, s ∉ l.map (·.1) → setE s v (l ++ [(s, u)]) = l ++ [(s, v)]
 | [], _ => by simp [setE]
 | (a, w) :: es, h => by
  simp only [List.map_cons, List.mem_cons, not_or] at h
  simp only [List.cons_append, setE]
  rw [if_neg (fun e => h.1 e.symm), setE_last h.2]
theorem setE_ix {α : Type} {s : ByteArray} {v : α} : ∀ {l : List (ByteArray × α)} {i : Nat}, setE s v l = match findIx s l i with
  | some (j, _) => l.set (j - i) (s, v)
  | none => l ++ [(s, v)]
 | [], i => rfl
 | (a, u) :: es, i => by
  simp only [setE, findIx]
  by_cases h : a = s
  ·rw [if_pos h, if_pos h]; simp
  ·rw [if_neg h, if_neg h, setE_ix (i := i + 1)]
   cases hf : findIx s es (i + 1) with
   | none => rfl
   | some q =>
    obtain ⟨j, w⟩ := q
    have hj : i + 1 ≤ j := by
     have : ∀ {l : List (ByteArray × α)} {k : Nat}, findIx s l k = some (j, w) → k ≤ j := by
      intro l
      induction l with
      | nil => intro k hk; cases hk
      | cons x xs ih =>
       intro k hk
       obtain ⟨a, b⟩ := x
       simp only [findIx] at hk
       split at hk
       ·cases hk; exact Nat.le_refl _
       ·have := ih hk; omega
     exact this hf
    simp only
    rw [show j - i = (j - (i + 1)) + 1 by omega]; rfl
theorem delE_ix {α : Type} {s : ByteArray} : ∀ {l : List (ByteArray × α)} {i : Nat}, delE s l = match findIx s l i with
  | some (j, _) => l.eraseIdx (j - i)
  | none => l
 | [], i => rfl
 | (a, u) :: es, i => by
  simp only [delE, findIx]
  by_cases h : a = s
  ·rw [if_pos h, if_pos h]; simp
  ·rw [if_neg h, if_neg h, delE_ix (i := i + 1)]
   cases hf : findIx s es (i + 1) with
   | none => rfl
   | some q =>
    obtain ⟨j, w⟩ := q
    have hj : i + 1 ≤ j := by
     have : ∀ {l : List (ByteArray × α)} {k : Nat}, findIx s l k = some (j, w) → k ≤ j := by
      intro l
      induction l with
      | nil => intro k hk; cases hk
      | cons x xs ih =>
       intro k hk
       obtain ⟨a, b⟩ := x
       simp only [findIx] at hk
       split at hk
       ·cases hk; exact Nat.le_refl _
       ·have := ih hk; omega
     exact this hf
    simp only
    rw [show j - i = (j - (i + 1)) + 1 by omega]; rfl
theorem eraseIdx_map' {α β : Type} {f : α → β} : ∀ {l : List α} {i : Nat}, (l.map f).eraseIdx i = (l.eraseIdx i).map f
 | [], _ => rfl
 | a :: l, 0 => rfl
 | a :: l, i + 1 => by simp only [List.map_cons, List.eraseIdx_cons_succ, eraseIdx_map' (l := l)]
theorem mup_ok {α : Type} {f : α → V} {h : H} {id ver : Nat} {l : List (ByteArray × α)} {s : ByteArray} {v : α} (ho : h.objs id = some (.map (mapO f l) ver)) :
  ∃ ver', mupV h .s (.map id) (.str s) (f v) = some (h.set id (.map (mapO f (setE s v l)) ver')) := by
 simp only [mupV, mapAt_of ho, findE_mapO]
 rw [setE_ix (i := 0)]
 cases hf : findIx s l 0 with
 | none => exact ⟨ver + 1, by simp [mapO]⟩
 | some q => exact ⟨ver, by simp [mapO, List.map_set]⟩
theorem mdel_ok {α : Type} {f : α → V} {h : H} {id ver : Nat} {l : List (ByteArray × α)} {s : ByteArray} (ho : h.objs id = some (.map (mapO f l) ver)) :
  ∃ h', mdelV h .s (.map id) (.str s) = some h' ∧ h'.next = h.next ∧ (∀ j, j ≠ id → h'.objs j = h.objs j) ∧ ∃ ver', h'.objs id = some (.map (mapO f (delE s l)) ver') := by
 simp only [mdelV, mapAt_of ho, findE_mapO]
 rw [delE_ix (i := 0)]
 cases hf : findIx s l 0 with
 | none => exact ⟨h, rfl, rfl, fun _ _ => rfl, ver, ho⟩
 | some q =>
  refine ⟨_, rfl, rfl, fun j hj => by simp [set_objs, hj], ver + 1, ?_⟩
  simp only [set_objs, if_pos, Option.map_some, mapO, Nat.sub_zero, eraseIdx_map']
end Go.Ab
