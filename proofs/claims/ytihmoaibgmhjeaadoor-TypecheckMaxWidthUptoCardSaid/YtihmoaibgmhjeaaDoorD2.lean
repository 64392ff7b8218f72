import Derived.Test.YtihmoaibgmhjeaaDoorD1
import Derived.Test.YtihmoaibgmhjeaaDoorG1
set_option linter.unusedVariables false
set_option linter.unusedSimpArgs false
namespace Go.Ab
def mapO {α : Type} (f : α → V) (l : List (ByteArray × α)) : List (V × V) := l.map fun p => (.str p.1, f p.2)
def findIx {α : Type} (s : ByteArray) : List (ByteArray × α) → Nat → Option (Nat × α)
 | [], _ => none
 | (a, v) :: es, i => if a = s then some (i, v) else findIx s es (i + 1)
theorem beqBA {a b : ByteArray} : (a == b) = decide (a = b) := by
 by_cases h : a = b
 ·subst h; rw [decide_eq_true rfl]; exact (MapKept.bytes_beq a a).2 rfl
 ·rw [decide_eq_false h]
  cases hb : (a == b) with
  | false => rfl
  | true => exact absurd ((MapKept.bytes_beq a b).1 hb) h
theorem findE_mapO {α : Type} {f : α → V} {s : ByteArray} : ∀ {l : List (ByteArray × α)} {i : Nat}, findE .s (.str s) (mapO f l) i = some ((findIx s l i).map fun q => (q.1, f q.2))
 | [], i => rfl
 | (a, v) :: es, i => by
  show (match eqC .s (.str s) (.str a) with | some true => _ | some false => _ | none => _) = _
  simp only [eqC, beqBA, findIx]
  by_cases h : a = s
  ·subst h; rw [if_pos rfl, decide_eq_true rfl]; rfl
  ·rw [if_neg h, decide_eq_false (fun e => h e.symm)]
   exact findE_mapO
theorem findIx_findL {α : Type} {s : ByteArray} : ∀ {l : List (ByteArray × α)} {i : Nat}, (findIx s l i).map (·.2) = findL s l
 | [], i => rfl
 | (a, v) :: es, i => by
  simp only [findIx, findL]
  by_cases h : a = s
  ·rw [if_pos h, if_pos h]; rfl
  ·rw [if_neg h, if_neg h]; exact findIx_findL
theorem mapAt_of {h : H} {id ver : Nat} {es : List (V × V)} (ho : h.objs id = some (.map es ver)) : h.mapAt id = some (es, ver) := by unfold H.mapAt; rw [ho]
theorem get_of {h : H} {id : Nat} {cs : List V} (ho : h.objs id = some (.cells cs)) : h.get id = some cs := by unfold H.get; rw [ho]
theorem lkp_two {α : Type} {f : α → V} {h : H} {id ver : Nat} {l : List (ByteArray × α)} {s : ByteArray} {zero : V} (ho : h.objs id = some (.map (mapO f l) ver)) :
  lkpV h .s (.map id) (.str s) zero true = some (.tuple [((findL s l).map f).getD zero, .bool (findL s l).isSome]) := by
 simp only [lkpV, mapAt_of ho, findE_mapO]
 rw [← findIx_findL (i := 0)]
 cases findIx s l 0 <;> rfl
theorem lkp_one {α : Type} {f : α → V} {h : H} {id ver : Nat} {l : List (ByteArray × α)} {s : ByteArray} {zero : V} (ho : h.objs id = some (.map (mapO f l) ver)) :
  lkpV h .s (.map id) (.str s) zero false = some (((findL s l).map f).getD zero) := by
 simp only [lkpV, mapAt_of ho, findE_mapO]
 rw [← findIx_findL (i := 0)]
 cases findIx s l 0 <;> rfl
def insL (p : Prg) : List (ByteArray × InD) := p.ins.map fun d => (d.name, d)
def arsL (p : Prg) : List (ByteArray × Int) := p.arrays.map fun d => (d.name, d.size)
theorem findL_ins {p : Prg} {s : ByteArray} : findL s (insL p) = inOf p s := by
 unfold insL inOf
 induction p.ins with
 | nil => rfl
 | cons d ds ih =>
  simp only [List.map_cons, findL, List.find?_cons]
  by_cases h : d.name = s
  ·rw [if_pos h, decide_eq_true h]
  ·rw [if_neg h, decide_eq_false h]; exact ih
theorem findL_ars {p : Prg} {s : ByteArray} : findL s (arsL p) = (arOf p s).map fun i => (p.arrays.getD i ⟨s, 0⟩).size := by
 unfold arsL arOf
 induction p.arrays with
 | nil => rfl
 | cons d ds ih =>
  simp only [List.map_cons, findL, List.findIdx?_cons]
  by_cases h : d.name = s
  ·rw [if_pos h, decide_eq_true h]; rfl
  ·rw [if_neg h, decide_eq_false h, ih]
   cases List.findIdx? (fun d => decide (d.name = s)) ds <;> rfl
theorem arOf_some {p : Prg} {s : ByteArray} {i : Nat} (h : arOf p s = some i) : ∃ d, p.arrays[i]? = some d ∧ d.name = s ∧ p.arrays.getD i ⟨s, 0⟩ = d := by
 unfold arOf at h
 obtain ⟨hi, h1, _⟩ := List.findIdx?_eq_some_iff_getElem.1 h
 exact ⟨p.arrays[i], List.getElem?_eq_getElem hi, of_decide_eq_true h1, by rw [List.getD_eq_getElem?_getD, List.getElem?_eq_getElem hi]; rfl⟩
structure Lk where
 x : Nat
 i : Nat
 s : Nat
 v : Nat
 w : Nat
 l : Nat
 es : List (ByteArray × Int × Nat)
 ws : List (ByteArray × Nat × Nat)
def Lk.own (L : Lk) : List Nat := [L.x, L.i, L.s, L.v, L.w, L.l] ++ L.ws.map fun r => r.2.1
def Lk.cs (L : Lk) (σ : TS) : List V := [.map L.i, .map L.s, .map L.v, .map L.w, .map L.l, I σ.steps, I σ.most, I σ.ifs]
def vkV (r : Int × Nat) : V := (Kn.mk r.1 r.2 false 0).v
def refV (r : Nat × Nat) : V := .ref r.1 0 r.2 1
def conV (n : Nat) : V := (kcon n).v
def intV (n : Int) : V := I n
def natVs (l : List Nat) : List V := l.map fun n : Nat => I (n : Int)
structure At (p : Prg) (L : Lk) (σ : TS) (h : H) : Prop where
 x : h.objs L.x = some (.cells (L.cs σ))
 i : ∃ ver, h.objs L.i = some (.map (mapO InD.v (insL p)) ver)
 s : ∃ ver, h.objs L.s = some (.map (mapO intV (arsL p)) ver)
 v : ∃ ver, h.objs L.v = some (.map (mapO vkV L.es) ver)
 w : ∃ ver, h.objs L.w = some (.map (mapO refV L.ws) ver)
 l : ∃ ver, h.objs L.l = some (.map (mapO conV σ.env.loops) ver)
 es : ∀ s, findL s L.es = σ.env.vars s
 esn : (L.es.map (·.1)).Nodup
 ws : ∀ (i : Nat) (d : ArD), p.arrays[i]? = some d → ∃ id ws, σ.env.words[i]? = some ws ∧ findL d.name L.ws = some (id, ws.length) ∧ h.objs id = some (.cells (natVs ws))
 wsn : (L.ws.map (·.1)).Nodup
 wk : ∀ r ∈ L.ws, ∃ d : ArD, d ∈ p.arrays ∧ d.name = r.1
 nd : L.own.Nodup
 lt : ∀ id ∈ L.own, id < h.next
structure Fr (L L' : Lk) (h h' : H) : Prop where
 nx : h.next ≤ h'.next
 x : L'.x = L.x
 same : ∀ id, id < h.next → id ∉ L.own → h'.objs id = h.objs id
 own : ∀ id ∈ L'.own, id ∈ L.own ∨ h.next ≤ id
theorem Fr.refl (L : Lk) (h : H) : Fr L L h h := ⟨Nat.le_refl _, rfl, fun _ _ _ => rfl, fun _ hi => .inl hi⟩
theorem Fr.trans {L L' L'' : Lk} {h h' h'' : H} (a : Fr L L' h h') (b : Fr L' L'' h' h'') : Fr L L'' h h'' :=
 ⟨Nat.le_trans a.nx b.nx, b.x.trans a.x, fun id hl hn => by
  rw [b.same id (Nat.lt_of_lt_of_le hl a.nx) (fun hi => (a.own id hi).elim hn (fun hh => absurd hl (Nat.not_lt.2 hh)))]
  exact a.same id hl hn, fun id hi => (b.own id hi).elim (fun hh => a.own id hh) (fun hh => .inr (Nat.le_trans a.nx hh))⟩
theorem set_objs {h : H} {id j : Nat} {o : O} : (h.set id o).objs j = if j = id then some o else h.objs j := rfl
theorem set_next {h : H} {id : Nat} {o : O} : (h.set id o).next = h.next := rfl
theorem new_objs {h : H} {j : Nat} {o : O} : (h.new o).objs j = if j = h.next then some o else h.objs j := rfl
theorem new_next {h : H} {o : O} : (h.new o).next = h.next + 1 := rfl
theorem Lk.x_mem (L : Lk) : L.x ∈ L.own := by simp [Lk.own]
theorem At.ne {p : Prg} {L : Lk} {σ : TS} {h : H} (A : At p L σ h) : L.x ≠ L.i ∧ L.x ≠ L.s ∧ L.x ≠ L.v ∧ L.x ≠ L.w ∧ L.x ≠ L.l := by
 have := A.nd
 simp only [Lk.own, List.cons_append, List.nil_append, List.nodup_cons, List.mem_cons, not_or] at this
 exact ⟨this.1.1, this.1.2.1, this.1.2.2.1, this.1.2.2.2.1, this.1.2.2.2.2.1⟩
theorem findL_mem {α : Type} {s : ByteArray} {v : α} : ∀ {l : List (ByteArray × α)}, findL s l = some v → (s, v) ∈ l
 | (a, u) :: es, h => by
  simp only [findL] at h
  split at h
  ·rename_i e; cases h; subst e; simp
  ·exact List.mem_cons_of_mem _ (findL_mem h)
theorem At.ws_own {p : Prg} {L : Lk} {σ : TS} {h : H} (A : At p L σ h) {s : ByteArray} {id n : Nat} (hf : findL s L.ws = some (id, n)) : id ∈ L.own ∧ id ≠ L.x ∧ id ≠ L.i ∧ id ≠ L.s ∧ id ≠ L.v ∧ id ≠ L.w ∧ id ≠ L.l := by
 have hm : id ∈ L.ws.map fun r => r.2.1 := List.mem_map.2 ⟨_, findL_mem hf, rfl⟩
 have hd := A.nd
 simp only [Lk.own, List.nodup_append] at hd
 refine ⟨by unfold Lk.own; exact List.mem_append_right _ hm, ?_⟩
 have := fun a ha => hd.2.2 a ha id hm
 simp only [List.mem_cons, List.not_mem_nil, or_false, forall_eq_or_imp, forall_eq] at this
 exact ⟨this.1.symm, this.2.1.symm, this.2.2.1.symm, this.2.2.2.1.symm, this.2.2.2.2.1.symm, this.2.2.2.2.2.symm⟩
theorem At.count {p : Prg} {L : Lk} {σ : TS} {h : H} (A : At p L σ h) (σ' : TS) (he : σ'.env = σ.env) : At p L σ' (h.set L.x (.cells (L.cs σ'))) ∧ Fr L L h (h.set L.x (.cells (L.cs σ'))) := by
 obtain ⟨n1, n2, n3, n4, n5⟩ := A.ne
 refine ⟨⟨by simp [set_objs], ?_, ?_, ?_, ?_, ?_, by rw [he]; exact A.es, A.esn, fun i d hd => ?_, A.wsn, A.wk, A.nd, A.lt⟩, ⟨Nat.le_refl _, rfl, fun id _ hn => ?_, fun id hi => .inl hi⟩⟩
 ·simp only [set_objs, if_neg n1.symm]; exact A.i
 ·simp only [set_objs, if_neg n2.symm]; exact A.s
 ·simp only [set_objs, if_neg n3.symm]; exact A.v
 ·simp only [set_objs, if_neg n4.symm]; exact A.w
 ·simp only [set_objs, if_neg n5.symm]; rw [he]; exact A.l
 ·obtain ⟨id, ws, a, b, c⟩ := A.ws i d hd
  refine ⟨id, ws, by rw [he]; exact a, b, ?_⟩
  rw [set_objs, if_neg (A.ws_own b).2.1]; exact c
 ·rw [set_objs, if_neg (fun e => hn (by rw [e]; exact L.x_mem))]
end Go.Ab
