/- The circuit builder: its state in the store, and its gates. -/
import Derived.Test.YtgfnhkedfmnijaaEnv
import Derived.Test.YtgfnhkedfmnijaaG1
set_option linter.unusedVariables false
set_option linter.unusedSimpArgs false
namespace Go.Ab.Ytgfnhkedfmnijaa

structure Gt where
  kind : Int
  frm : Int
  a : Int
  b : Int
  k : Nat

def Gt.cells (g : Gt) : List V := [I g.kind, I g.frm, I g.a, I g.b, W g.k]
def Gt.v (g : Gt) : V := .agg g.cells

structure BuAt (h : H) (id : Nat) (F : Nat → Prop) (p : Nat) (gs : List Gt) (outs : List Int) : Prop where
  ex : ∃ (gv ov : V) (gid oid : Nat), h.get id = some [W p, gv, ov] ∧ Grow h 5 (gs.map Gt.cells) gid gv ∧ Grow h 1 (outs.map fun o => [I o]) oid ov ∧
    (gs ≠ [] → gid < h.next ∧ gid ≠ id) ∧ (outs ≠ [] → oid < h.next ∧ oid ≠ id) ∧ (gs ≠ [] → outs ≠ [] → gid ≠ oid) ∧
    ∀ j, F j ↔ (j = id ∨ (gs ≠ [] ∧ j = gid) ∨ (outs ≠ [] ∧ j = oid))
  idn : id < h.next

theorem BuAt.frame {h h' : H} {id p : Nat} {F : Nat → Prop} {gs : List Gt} {outs : List Int} (b : BuAt h id F p gs outs) (hn : h.next ≤ h'.next) (e : ∀ j, j < h.next → F j → h'.objs j = h.objs j) : BuAt h' id F p gs outs := by
  obtain ⟨⟨gv, ov, gid, oid, h1, h2, h3, h4, h5, h6, h7⟩, hid⟩ := b
  refine ⟨⟨gv, ov, gid, oid, ?_, h2.frame fun hne => ?_, h3.frame fun hne => ?_, fun hg => ⟨Nat.lt_of_lt_of_le (h4 hg).1 hn, (h4 hg).2⟩, fun hg => ⟨Nat.lt_of_lt_of_le (h5 hg).1 hn, (h5 hg).2⟩, h6, h7⟩, Nat.lt_of_lt_of_le hid hn⟩
  · unfold H.get at h1 ⊢
    rw [e id hid ((h7 id).2 (.inl rfl))]; exact h1
  · have hg : gs ≠ [] := fun h => hne (by rw [h]; rfl)
    exact e gid (h4 hg).1 ((h7 gid).2 (.inr (.inl ⟨hg, rfl⟩)))
  · have hg : outs ≠ [] := fun h => hne (by rw [h]; rfl)
    exact e oid (h5 hg).1 ((h7 oid).2 (.inr (.inr ⟨hg, rfl⟩)))

section
variable {h : H} {K : Out → H → Prop} {id p : Nat} {F : Nat → Prop} {gs : List Gt} {outs : List Int}

theorem new12 (hK : ∀ h' F, BuAt h' h.next F p [] [] → (∀ j, j < h.next → h'.objs j = h.objs j ∧ ¬ F j) → h'.next = h.next + 1 → K (.ret (.ptr h.next 0)) h') : R 12 [W p] h K := by
  refine run12 (Nat.le_of_ble_eq_true rfl) ?_
  simp -dsimp -implicitDefEqProofs only [↓STP, STQ, ne_eq, implies_true, forall_const, if_false, if_true, reduceCtorEq, ↓reduceIte, Nat.reduceEqDiff, Nat.reduceAdd, Int.reduceEq, Int.reduceLT, Int.reduceLE, Int.reduceNeg, Int.reduceAdd, Int.reduceSub, Int.reduceMul, Int.reduceToNat, Nat.reduceMul, Nat.reduceSub, Nat.reduceLT, Nat.reduceLeDiff, ir12]
  refine hK _ (fun j => j = h.next) ⟨⟨.vec [] .full, .vec [] .full, 0, 0, ?_, ⟨by simp, .inl ⟨rfl, rfl⟩⟩, ⟨by simp, .inl ⟨rfl, rfl⟩⟩, by simp, by simp, by simp, by simp⟩, ?_⟩ (fun j hj => ⟨?_, Nat.ne_of_lt hj⟩) rfl
  · rw [get_new]
  · exact Nat.lt_succ_self _
  · simp [H.new, upd, Nat.ne_of_lt hj]

theorem gate50 {g : Gt} (hb : BuAt h id F p gs outs) (hl : gs.length < 1000000)
    (hK : ∀ h' F', BuAt h' id F' p (gs ++ [g]) outs → Evo h F h' F' → K (.ret (I gs.length)) h') : R 50 [.ptr id 0, g.v] h K := by
  obtain ⟨⟨gv, ov, gid, oid, h1, h2, h3, h4, h5, h6, h7⟩, hid⟩ := hb
  have hne : ∀ {α : Type} {f : Gt → α}, gs ≠ [] ↔ gs.map f ≠ [] := by intro α f; simp
  obtain ⟨h', e1, e2, e3, e4⟩ := grow_app (el := g.v) (bytes := 40) h2 rfl (by decide) (by decide) (by simpa using hl)
  have hgid : h'.get id = some [W p, gv, ov] := by
    unfold H.get at h1 ⊢
    rw [e4 id hid (fun hg => ((h4 (hne.2 hg)).2).symm)]; exact h1
  have hw : IntKind.i64.wrap (((gs.length + 1 : Nat) : Int) - 1) = (gs.length : Int) := by rw [wrap_i64] <;> omega
  refine run50 (Nat.le_of_ble_eq_true rfl) ?_
  simp -dsimp -implicitDefEqProofs only [↓STP, STQ, ne_eq, implies_true, forall_const, if_false, if_true, reduceCtorEq, ↓reduceIte, Nat.reduceEqDiff, Nat.reduceAdd, Int.reduceEq, Int.reduceLT, Int.reduceLE, Int.reduceNeg, Int.reduceAdd, Int.reduceSub, Int.reduceMul, Int.reduceToNat, Nat.reduceMul, Nat.reduceSub, Nat.reduceLT, Nat.reduceLeDiff, ir50, Gt.v, h1, Gt.cells]
  rw [show (V.agg [I g.kind, I g.frm, I g.a, I g.b, W g.k]) = g.v from rfl, e1 _ _ _ _ rfl]
  simp -dsimp -implicitDefEqProofs only [↓STP, STQ, ne_eq, implies_true, forall_const, if_false, if_true, reduceCtorEq, ↓reduceIte, Nat.reduceEqDiff, Nat.reduceAdd, Int.reduceEq, Int.reduceLT, Int.reduceLE, Int.reduceNeg, Int.reduceAdd, Int.reduceSub, Int.reduceMul, Int.reduceToNat, Nat.reduceMul, Nat.reduceSub, Nat.reduceLT, Nat.reduceLeDiff, storeV, hgid, get_set, List.length_map, hw]
  refine hK _ (fun j => j = id ∨ j = h.next ∨ (outs ≠ [] ∧ j = oid)) ⟨⟨.ref h.next 0 (gs.length + 1) 5, ov, h.next, oid, get_set, ?_, ?_, ?_, ?_, ?_, ?_⟩, ?_⟩ ⟨?_, fun j hj hF => ⟨?_, ?_⟩⟩
  · have e2' : Grow h' 5 ((gs ++ [g]).map Gt.cells) h.next (.ref h.next 0 (gs.length + 1) 5) := by
      rw [List.map_append]; simp only [List.length_map] at e2; exact e2
    exact e2'.frame fun _ => by simp [H.set, upd, Nat.ne_of_gt hid]
  · refine h3.frame fun hne' => ?_
    have ho : outs ≠ [] := fun h => hne' (by rw [h]; rfl)
    have := h5 ho
    rw [show (h'.set id _).objs oid = h'.objs oid by simp [H.set, upd, this.2]]
    exact e4 oid this.1 (fun hg => (h6 (hne.2 hg) ho).symm)
  · intro _; rw [next_set, e3]; exact ⟨Nat.lt_succ_self _, Nat.ne_of_gt hid⟩
  · intro ho; rw [next_set, e3]; exact ⟨Nat.lt_succ_of_lt (h5 ho).1, (h5 ho).2⟩
  · intro _ ho; exact Nat.ne_of_gt (h5 ho).1
  · intro j; simp
  · rw [next_set, e3]; exact Nat.lt_succ_of_lt hid
  · rw [next_set, e3]; exact Nat.le_succ _
  · have hj1 : j ≠ id := fun h => hF ((h7 j).2 (.inl h))
    rw [show (h'.set id _).objs j = h'.objs j by simp [H.set, upd, hj1]]
    exact e4 j hj (fun hg h => hF ((h7 j).2 (.inr (.inl ⟨hne.2 hg, h⟩))))
  · rintro (h | h | h)
    · exact hF ((h7 j).2 (.inl h))
    · omega
    · exact hF ((h7 j).2 (.inr (.inr h)))

/-- What a call on the builder that adds the gate 'g' leaves. -/
abbrev Adds (h : H) (id p : Nat) (F : Nat → Prop) (gs : List Gt) (outs : List Int) (K : Out → H → Prop) (g : Gt) : Prop :=
  ∀ h' F', BuAt h' id F' p (gs ++ [g]) outs → Evo h F h' F' → K (.ret (I gs.length)) h'

theorem input13 {bit : Bool} {f : Int} (hb : BuAt h id F p gs outs) (hl : gs.length < 1000000) (hK : Adds h id p F gs outs K ⟨1, f, 0, 0, if bit then 1 else 0⟩) : R 13 [.ptr id 0, I f, .bool bit] h K := by
  refine run13 (Nat.le_of_ble_eq_true rfl) ?_
  cases bit with
  | true =>
    simp -dsimp -implicitDefEqProofs only [↓STP, STQ, ne_eq, implies_true, forall_const, if_false, if_true, reduceCtorEq, ↓reduceIte, Nat.reduceEqDiff, Nat.reduceAdd, Int.reduceEq, Int.reduceLT, Int.reduceLE, Int.reduceNeg, Int.reduceAdd, Int.reduceSub, Int.reduceMul, Int.reduceToNat, Nat.reduceMul, Nat.reduceSub, Nat.reduceLT, Nat.reduceLeDiff, ir13, storeV]
    refine gate50 (g := ⟨1, f, 0, 0, 1⟩) hb hl fun h' F' b e => ?_
    simp -dsimp -implicitDefEqProofs only [↓STP, STQ, ne_eq, implies_true, forall_const, if_false, if_true, reduceCtorEq, ↓reduceIte, Nat.reduceEqDiff, Nat.reduceAdd, Int.reduceEq, Int.reduceLT, Int.reduceLE, Int.reduceNeg, Int.reduceAdd, Int.reduceSub, Int.reduceMul, Int.reduceToNat, Nat.reduceMul, Nat.reduceSub, Nat.reduceLT, Nat.reduceLeDiff]
    exact hK h' F' b e
  | false =>
    simp -dsimp -implicitDefEqProofs only [↓STP, STQ, ne_eq, implies_true, forall_const, if_false, if_true, reduceCtorEq, ↓reduceIte, Nat.reduceEqDiff, Nat.reduceAdd, Int.reduceEq, Int.reduceLT, Int.reduceLE, Int.reduceNeg, Int.reduceAdd, Int.reduceSub, Int.reduceMul, Int.reduceToNat, Nat.reduceMul, Nat.reduceSub, Nat.reduceLT, Nat.reduceLeDiff, ir13, storeV]
    refine gate50 (g := ⟨1, f, 0, 0, 0⟩) hb hl fun h' F' b e => ?_
    simp -dsimp -implicitDefEqProofs only [↓STP, STQ, ne_eq, implies_true, forall_const, if_false, if_true, reduceCtorEq, ↓reduceIte, Nat.reduceEqDiff, Nat.reduceAdd, Int.reduceEq, Int.reduceLT, Int.reduceLE, Int.reduceNeg, Int.reduceAdd, Int.reduceSub, Int.reduceMul, Int.reduceToNat, Nat.reduceMul, Nat.reduceSub, Nat.reduceLT, Nat.reduceLeDiff]
    exact hK h' F' b e

theorem const19 {k : Nat} (hb : BuAt h id F p gs outs) (hl : gs.length < 1000000) (hK : Adds h id p F gs outs K ⟨2, 0, 0, 0, k⟩) : R 19 [.ptr id 0, W k] h K := by
  refine run19 (Nat.le_of_ble_eq_true rfl) ?_
  simp -dsimp -implicitDefEqProofs only [↓STP, STQ, ne_eq, implies_true, forall_const, if_false, if_true, reduceCtorEq, ↓reduceIte, Nat.reduceEqDiff, Nat.reduceAdd, Int.reduceEq, Int.reduceLT, Int.reduceLE, Int.reduceNeg, Int.reduceAdd, Int.reduceSub, Int.reduceMul, Int.reduceToNat, Nat.reduceMul, Nat.reduceSub, Nat.reduceLT, Nat.reduceLeDiff, ir19]
  refine gate50 (g := ⟨2, 0, 0, 0, k⟩) hb hl fun h' F' b e => ?_
  simp -dsimp -implicitDefEqProofs only [↓STP, STQ, ne_eq, implies_true, forall_const, if_false, if_true, reduceCtorEq, ↓reduceIte, Nat.reduceEqDiff, Nat.reduceAdd, Int.reduceEq, Int.reduceLT, Int.reduceLE, Int.reduceNeg, Int.reduceAdd, Int.reduceSub, Int.reduceMul, Int.reduceToNat, Nat.reduceMul, Nat.reduceSub, Nat.reduceLT, Nat.reduceLeDiff]
  exact hK h' F' b e

theorem add15 {x y : Int} (hb : BuAt h id F p gs outs) (hl : gs.length < 1000000) (hK : Adds h id p F gs outs K ⟨3, 0, x, y, 0⟩) : R 15 [.ptr id 0, I x, I y] h K := by
  refine run15 (Nat.le_of_ble_eq_true rfl) ?_
  simp -dsimp -implicitDefEqProofs only [↓STP, STQ, ne_eq, implies_true, forall_const, if_false, if_true, reduceCtorEq, ↓reduceIte, Nat.reduceEqDiff, Nat.reduceAdd, Int.reduceEq, Int.reduceLT, Int.reduceLE, Int.reduceNeg, Int.reduceAdd, Int.reduceSub, Int.reduceMul, Int.reduceToNat, Nat.reduceMul, Nat.reduceSub, Nat.reduceLT, Nat.reduceLeDiff, ir15]
  refine gate50 (g := ⟨3, 0, x, y, 0⟩) hb hl fun h' F' b e => ?_
  simp -dsimp -implicitDefEqProofs only [↓STP, STQ, ne_eq, implies_true, forall_const, if_false, if_true, reduceCtorEq, ↓reduceIte, Nat.reduceEqDiff, Nat.reduceAdd, Int.reduceEq, Int.reduceLT, Int.reduceLE, Int.reduceNeg, Int.reduceAdd, Int.reduceSub, Int.reduceMul, Int.reduceToNat, Nat.reduceMul, Nat.reduceSub, Nat.reduceLT, Nat.reduceLeDiff]
  exact hK h' F' b e

theorem sub16 {x y : Int} (hb : BuAt h id F p gs outs) (hl : gs.length < 1000000) (hK : Adds h id p F gs outs K ⟨4, 0, x, y, 0⟩) : R 16 [.ptr id 0, I x, I y] h K := by
  refine run16 (Nat.le_of_ble_eq_true rfl) ?_
  simp -dsimp -implicitDefEqProofs only [↓STP, STQ, ne_eq, implies_true, forall_const, if_false, if_true, reduceCtorEq, ↓reduceIte, Nat.reduceEqDiff, Nat.reduceAdd, Int.reduceEq, Int.reduceLT, Int.reduceLE, Int.reduceNeg, Int.reduceAdd, Int.reduceSub, Int.reduceMul, Int.reduceToNat, Nat.reduceMul, Nat.reduceSub, Nat.reduceLT, Nat.reduceLeDiff, ir16]
  refine gate50 (g := ⟨4, 0, x, y, 0⟩) hb hl fun h' F' b e => ?_
  simp -dsimp -implicitDefEqProofs only [↓STP, STQ, ne_eq, implies_true, forall_const, if_false, if_true, reduceCtorEq, ↓reduceIte, Nat.reduceEqDiff, Nat.reduceAdd, Int.reduceEq, Int.reduceLT, Int.reduceLE, Int.reduceNeg, Int.reduceAdd, Int.reduceSub, Int.reduceMul, Int.reduceToNat, Nat.reduceMul, Nat.reduceSub, Nat.reduceLT, Nat.reduceLeDiff]
  exact hK h' F' b e

theorem scale18 {k : Nat} {x : Int} (hb : BuAt h id F p gs outs) (hl : gs.length < 1000000) (hK : Adds h id p F gs outs K ⟨5, 0, x, 0, k⟩) : R 18 [.ptr id 0, W k, I x] h K := by
  refine run18 (Nat.le_of_ble_eq_true rfl) ?_
  simp -dsimp -implicitDefEqProofs only [↓STP, STQ, ne_eq, implies_true, forall_const, if_false, if_true, reduceCtorEq, ↓reduceIte, Nat.reduceEqDiff, Nat.reduceAdd, Int.reduceEq, Int.reduceLT, Int.reduceLE, Int.reduceNeg, Int.reduceAdd, Int.reduceSub, Int.reduceMul, Int.reduceToNat, Nat.reduceMul, Nat.reduceSub, Nat.reduceLT, Nat.reduceLeDiff, ir18]
  refine gate50 (g := ⟨5, 0, x, 0, k⟩) hb hl fun h' F' b e => ?_
  simp -dsimp -implicitDefEqProofs only [↓STP, STQ, ne_eq, implies_true, forall_const, if_false, if_true, reduceCtorEq, ↓reduceIte, Nat.reduceEqDiff, Nat.reduceAdd, Int.reduceEq, Int.reduceLT, Int.reduceLE, Int.reduceNeg, Int.reduceAdd, Int.reduceSub, Int.reduceMul, Int.reduceToNat, Nat.reduceMul, Nat.reduceSub, Nat.reduceLT, Nat.reduceLeDiff]
  exact hK h' F' b e

theorem mul17 {x y : Int} (hb : BuAt h id F p gs outs) (hl : gs.length < 1000000) (hK : Adds h id p F gs outs K ⟨6, 0, x, y, 0⟩) : R 17 [.ptr id 0, I x, I y] h K := by
  refine run17 (Nat.le_of_ble_eq_true rfl) ?_
  simp -dsimp -implicitDefEqProofs only [↓STP, STQ, ne_eq, implies_true, forall_const, if_false, if_true, reduceCtorEq, ↓reduceIte, Nat.reduceEqDiff, Nat.reduceAdd, Int.reduceEq, Int.reduceLT, Int.reduceLE, Int.reduceNeg, Int.reduceAdd, Int.reduceSub, Int.reduceMul, Int.reduceToNat, Nat.reduceMul, Nat.reduceSub, Nat.reduceLT, Nat.reduceLeDiff, ir17]
  refine gate50 (g := ⟨6, 0, x, y, 0⟩) hb hl fun h' F' b e => ?_
  simp -dsimp -implicitDefEqProofs only [↓STP, STQ, ne_eq, implies_true, forall_const, if_false, if_true, reduceCtorEq, ↓reduceIte, Nat.reduceEqDiff, Nat.reduceAdd, Int.reduceEq, Int.reduceLT, Int.reduceLE, Int.reduceNeg, Int.reduceAdd, Int.reduceSub, Int.reduceMul, Int.reduceToNat, Nat.reduceMul, Nat.reduceSub, Nat.reduceLT, Nat.reduceLeDiff]
  exact hK h' F' b e

theorem output14 {x : Int} (hb : BuAt h id F p gs outs) (hl : outs.length < 1000000)
    (hK : ∀ h' F', BuAt h' id F' p gs (outs ++ [x]) → Evo h F h' F' → K (.ret (.tuple [])) h') : R 14 [.ptr id 0, I x] h K := by
  obtain ⟨⟨gv, ov, gid, oid, h1, h2, h3, h4, h5, h6, h7⟩, hid⟩ := hb
  have hne : outs ≠ [] ↔ (outs.map fun o => [I o]) ≠ [] := by simp
  obtain ⟨h', e1, e2, e3, e4⟩ := grow_app (el := I x) (bytes := 8) h3 rfl (by decide) (by decide) (by simpa using hl)
  have hgid : h'.get id = some [W p, gv, ov] := by
    unfold H.get at h1 ⊢
    rw [e4 id hid (fun hg => ((h5 (hne.2 hg)).2).symm)]; exact h1
  refine run14 (Nat.le_of_ble_eq_true rfl) ?_
  simp -dsimp -implicitDefEqProofs only [↓STP, STQ, ne_eq, implies_true, forall_const, if_false, if_true, reduceCtorEq, ↓reduceIte, Nat.reduceEqDiff, Nat.reduceAdd, Int.reduceEq, Int.reduceLT, Int.reduceLE, Int.reduceNeg, Int.reduceAdd, Int.reduceSub, Int.reduceMul, Int.reduceToNat, Nat.reduceMul, Nat.reduceSub, Nat.reduceLT, Nat.reduceLeDiff, ir14, h1]
  rw [e1 _ _ _ _ rfl]
  simp -dsimp -implicitDefEqProofs only [↓STP, STQ, ne_eq, implies_true, forall_const, if_false, if_true, reduceCtorEq, ↓reduceIte, Nat.reduceEqDiff, Nat.reduceAdd, Int.reduceEq, Int.reduceLT, Int.reduceLE, Int.reduceNeg, Int.reduceAdd, Int.reduceSub, Int.reduceMul, Int.reduceToNat, Nat.reduceMul, Nat.reduceSub, Nat.reduceLT, Nat.reduceLeDiff, storeV, hgid, List.length_map]
  refine hK _ (fun j => j = id ∨ (gs ≠ [] ∧ j = gid) ∨ j = h.next) ⟨⟨gv, .ref h.next 0 (outs.length + 1) 1, gid, h.next, get_set, ?_, ?_, ?_, ?_, ?_, ?_⟩, ?_⟩ ⟨?_, fun j hj hF => ⟨?_, ?_⟩⟩
  · refine h2.frame fun hne' => ?_
    have ho : gs ≠ [] := fun h => hne' (by rw [h]; rfl)
    have := h4 ho
    rw [show (h'.set id _).objs gid = h'.objs gid by simp [H.set, upd, this.2]]
    exact e4 gid this.1 (fun hg => h6 ho (hne.2 hg))
  · have e2' : Grow h' 1 ((outs ++ [x]).map fun o => [I o]) h.next (.ref h.next 0 (outs.length + 1) 1) := by
      rw [List.map_append]; simp only [List.length_map] at e2; exact e2
    exact e2'.frame fun _ => by simp [H.set, upd, Nat.ne_of_gt hid]
  · intro ho; rw [next_set, e3]; exact ⟨Nat.lt_succ_of_lt (h4 ho).1, (h4 ho).2⟩
  · intro _; rw [next_set, e3]; exact ⟨Nat.lt_succ_self _, Nat.ne_of_gt hid⟩
  · intro hg _; exact Nat.ne_of_lt (h4 hg).1
  · intro j; simp
  · rw [next_set, e3]; exact Nat.lt_succ_of_lt hid
  · rw [next_set, e3]; exact Nat.le_succ _
  · have hj1 : j ≠ id := fun h => hF ((h7 j).2 (.inl h))
    rw [show (h'.set id _).objs j = h'.objs j by simp [H.set, upd, hj1]]
    exact e4 j hj (fun hg h => hF ((h7 j).2 (.inr (.inr ⟨hne.2 hg, h⟩))))
  · rintro (h | h | h)
    · exact hF ((h7 j).2 (.inl h))
    · exact hF ((h7 j).2 (.inr (.inl h)))
    · omega

/-- A circuit as a value. -/
def circV (p : Nat) (gs : List Gt) (outs : List Int) : V := .agg [W p, .vec (gs.map Gt.v) .any, .vec (outs.map I) .any]
abbrev circF (p : Nat) (gs : List Gt) (outs : List Int) (v : V) : Prop := v = circV p gs outs

theorem clone54 {v : V} (hf : flat h v = some (gs.map Gt.cells).flatten) (hlv : lenV v = some gs.length) (hv : Src v) (hl : gs.length < 1000000) (hK : K (.ret (.vec (gs.map Gt.v) .any)) h) : R 54 [v] h K := by
  have hm : gs.length ≤ most := by unfold most; omega
  have h5 : ∀ c ∈ gs.map Gt.cells, c.length = 5 := by
    intro c hc
    obtain ⟨g, _, rfl⟩ := List.mem_map.1 hc
    rfl
  have hfl : (gs.map Gt.cells).flatten.length = gs.length * 5 := by simpa using flatten_len h5
  have hap : ∀ (st : S) (s : Nat), st.h = h → appV st s (.vec [] .full) v 5 40 true false = some (if gs.length = 0 then (.vec [] .full, st) else (.vec (gs.map Gt.v) (.own s), st)) := by
    intro st s hs
    subst hs
    simp only [appV, hlv, hf]
    rw [if_pos ⟨hfl, by decide, by decide⟩, if_pos ⟨by simpa using hm, by simp⟩]
    have := chunk_flatten (ag := true) (sz := 5) (css := gs.map Gt.cells) h5
    rw [List.length_map] at this
    rw [this, List.map_map, List.nil_append]
    have e : List.map (mkEl true ∘ Gt.cells) gs = gs.map Gt.v := rfl
    rw [e]
    split <;> rfl
  refine run54 (Nat.le_of_ble_eq_true rfl) ?_
  rcases hv with ⟨xs, rfl⟩ | ⟨a, b, c, d, rfl⟩
  · simp -dsimp -implicitDefEqProofs only [↓STP, STQ, ne_eq, implies_true, forall_const, if_false, if_true, reduceCtorEq, ↓reduceIte, Nat.reduceEqDiff, Nat.reduceAdd, Int.reduceEq, Int.reduceLT, Int.reduceLE, Int.reduceNeg, Int.reduceAdd, Int.reduceSub, Int.reduceMul, Int.reduceToNat, Nat.reduceMul, Nat.reduceSub, Nat.reduceLT, Nat.reduceLeDiff, ir54]
    rw [opT_nilS (xs := xs) (c := .any) rfl]
    refine ⟨fun h0 => ?_, ?_⟩
    · subst h0
      have : gs = [] := by simpa [lenV] using hlv.symm
      subst this
      simp -dsimp -implicitDefEqProofs only [↓STP, STQ, ne_eq, implies_true, forall_const, if_false, if_true, reduceCtorEq, ↓reduceIte, Nat.reduceEqDiff, Nat.reduceAdd, Int.reduceEq, Int.reduceLT, Int.reduceLE, Int.reduceNeg, Int.reduceAdd, Int.reduceSub, Int.reduceMul, Int.reduceToNat, Nat.reduceMul, Nat.reduceSub, Nat.reduceLT, Nat.reduceLeDiff]
      exact hK
    · simp -dsimp -implicitDefEqProofs only [↓STP, STQ, ne_eq, implies_true, forall_const, if_false, if_true, reduceCtorEq, ↓reduceIte, Nat.reduceEqDiff, Nat.reduceAdd, Int.reduceEq, Int.reduceLT, Int.reduceLE, Int.reduceNeg, Int.reduceAdd, Int.reduceSub, Int.reduceMul, Int.reduceToNat, Nat.reduceMul, Nat.reduceSub, Nat.reduceLT, Nat.reduceLeDiff]
      rw [hap _ _ rfl]
      by_cases h0 : gs.length = 0
      · have : gs = [] := by simpa using h0
        subst this
        simp -dsimp -implicitDefEqProofs only [↓STP, STQ, ne_eq, implies_true, forall_const, if_false, if_true, reduceCtorEq, ↓reduceIte, Nat.reduceEqDiff, Nat.reduceAdd, Int.reduceEq, Int.reduceLT, Int.reduceLE, Int.reduceNeg, Int.reduceAdd, Int.reduceSub, Int.reduceMul, Int.reduceToNat, Nat.reduceMul, Nat.reduceSub, Nat.reduceLT, Nat.reduceLeDiff]
        exact hK
      · rw [if_neg h0]
        simp -dsimp -implicitDefEqProofs only [↓STP, STQ, ne_eq, implies_true, forall_const, if_false, if_true, reduceCtorEq, ↓reduceIte, Nat.reduceEqDiff, Nat.reduceAdd, Int.reduceEq, Int.reduceLT, Int.reduceLE, Int.reduceNeg, Int.reduceAdd, Int.reduceSub, Int.reduceMul, Int.reduceToNat, Nat.reduceMul, Nat.reduceSub, Nat.reduceLT, Nat.reduceLeDiff]
        exact hK
  · simp -dsimp -implicitDefEqProofs only [↓STP, STQ, ne_eq, implies_true, forall_const, if_false, if_true, reduceCtorEq, ↓reduceIte, Nat.reduceEqDiff, Nat.reduceAdd, Int.reduceEq, Int.reduceLT, Int.reduceLE, Int.reduceNeg, Int.reduceAdd, Int.reduceSub, Int.reduceMul, Int.reduceToNat, Nat.reduceMul, Nat.reduceSub, Nat.reduceLT, Nat.reduceLeDiff, ir54]
    rw [opT_nilS_ref rfl]
    simp -dsimp -implicitDefEqProofs only [↓STP, STQ, ne_eq, implies_true, forall_const, if_false, if_true, reduceCtorEq, ↓reduceIte, Nat.reduceEqDiff, Nat.reduceAdd, Int.reduceEq, Int.reduceLT, Int.reduceLE, Int.reduceNeg, Int.reduceAdd, Int.reduceSub, Int.reduceMul, Int.reduceToNat, Nat.reduceMul, Nat.reduceSub, Nat.reduceLT, Nat.reduceLeDiff]
    rw [hap _ _ rfl]
    by_cases h0 : gs.length = 0
    · have : gs = [] := by simpa using h0
      subst this
      simp -dsimp -implicitDefEqProofs only [↓STP, STQ, ne_eq, implies_true, forall_const, if_false, if_true, reduceCtorEq, ↓reduceIte, Nat.reduceEqDiff, Nat.reduceAdd, Int.reduceEq, Int.reduceLT, Int.reduceLE, Int.reduceNeg, Int.reduceAdd, Int.reduceSub, Int.reduceMul, Int.reduceToNat, Nat.reduceMul, Nat.reduceSub, Nat.reduceLT, Nat.reduceLeDiff]
      exact hK
    · rw [if_neg h0]
      simp -dsimp -implicitDefEqProofs only [↓STP, STQ, ne_eq, implies_true, forall_const, if_false, if_true, reduceCtorEq, ↓reduceIte, Nat.reduceEqDiff, Nat.reduceAdd, Int.reduceEq, Int.reduceLT, Int.reduceLE, Int.reduceNeg, Int.reduceAdd, Int.reduceSub, Int.reduceMul, Int.reduceToNat, Nat.reduceMul, Nat.reduceSub, Nat.reduceLT, Nat.reduceLeDiff]
      exact hK

theorem clone55 {v : V} {l : List Int} (hf : flat h v = some (l.map I)) (hlv : lenV v = some l.length) (hv : Src v) (hl : l.length < 1000000) (hK : K (.ret (.vec (l.map I) (.own 0))) h) : R 55 [v] h K := by
  have hm : l.length ≤ most := by unfold most; omega
  have hap : ∀ (st : S) (s : Nat), st.h = h → appV st s (.vec [] .full) v 1 8 false false = some (if l.length = 0 then (.vec [] .full, st) else (.vec (l.map I) (.own s), st)) := by
    intro st s hs
    subst hs
    simp only [appV, hlv, hf]
    rw [if_pos ⟨by simp, by decide, by decide⟩, if_pos ⟨by simpa using hm, by simp⟩, chunk_one (by simp), List.take_of_length_le (by simp), List.nil_append]
    split <;> rfl
  refine run55 (Nat.le_of_ble_eq_true rfl) ?_
  rcases hv with ⟨xs, rfl⟩ | ⟨a, b, c, d, rfl⟩
  · simp -dsimp -implicitDefEqProofs only [↓STP, STQ, ne_eq, implies_true, forall_const, if_false, if_true, reduceCtorEq, ↓reduceIte, Nat.reduceEqDiff, Nat.reduceAdd, Int.reduceEq, Int.reduceLT, Int.reduceLE, Int.reduceNeg, Int.reduceAdd, Int.reduceSub, Int.reduceMul, Int.reduceToNat, Nat.reduceMul, Nat.reduceSub, Nat.reduceLT, Nat.reduceLeDiff, ir55]
    rw [opT_nilS (xs := xs) (c := .any) rfl]
    refine ⟨fun h0 => ?_, ?_⟩
    · subst h0
      have : l = [] := by simpa [lenV] using hlv.symm
      subst this
      simp -dsimp -implicitDefEqProofs only [↓STP, STQ, ne_eq, implies_true, forall_const, if_false, if_true, reduceCtorEq, ↓reduceIte, Nat.reduceEqDiff, Nat.reduceAdd, Int.reduceEq, Int.reduceLT, Int.reduceLE, Int.reduceNeg, Int.reduceAdd, Int.reduceSub, Int.reduceMul, Int.reduceToNat, Nat.reduceMul, Nat.reduceSub, Nat.reduceLT, Nat.reduceLeDiff]
      exact hK
    · simp -dsimp -implicitDefEqProofs only [↓STP, STQ, ne_eq, implies_true, forall_const, if_false, if_true, reduceCtorEq, ↓reduceIte, Nat.reduceEqDiff, Nat.reduceAdd, Int.reduceEq, Int.reduceLT, Int.reduceLE, Int.reduceNeg, Int.reduceAdd, Int.reduceSub, Int.reduceMul, Int.reduceToNat, Nat.reduceMul, Nat.reduceSub, Nat.reduceLT, Nat.reduceLeDiff]
      rw [hap _ _ rfl]
      by_cases h0 : l.length = 0
      · have : l = [] := by simpa using h0
        subst this
        simp -dsimp -implicitDefEqProofs only [↓STP, STQ, ne_eq, implies_true, forall_const, if_false, if_true, reduceCtorEq, ↓reduceIte, Nat.reduceEqDiff, Nat.reduceAdd, Int.reduceEq, Int.reduceLT, Int.reduceLE, Int.reduceNeg, Int.reduceAdd, Int.reduceSub, Int.reduceMul, Int.reduceToNat, Nat.reduceMul, Nat.reduceSub, Nat.reduceLT, Nat.reduceLeDiff]
        exact hK
      · rw [if_neg h0]
        simp -dsimp -implicitDefEqProofs only [↓STP, STQ, ne_eq, implies_true, forall_const, if_false, if_true, reduceCtorEq, ↓reduceIte, Nat.reduceEqDiff, Nat.reduceAdd, Int.reduceEq, Int.reduceLT, Int.reduceLE, Int.reduceNeg, Int.reduceAdd, Int.reduceSub, Int.reduceMul, Int.reduceToNat, Nat.reduceMul, Nat.reduceSub, Nat.reduceLT, Nat.reduceLeDiff]
        exact hK
  · simp -dsimp -implicitDefEqProofs only [↓STP, STQ, ne_eq, implies_true, forall_const, if_false, if_true, reduceCtorEq, ↓reduceIte, Nat.reduceEqDiff, Nat.reduceAdd, Int.reduceEq, Int.reduceLT, Int.reduceLE, Int.reduceNeg, Int.reduceAdd, Int.reduceSub, Int.reduceMul, Int.reduceToNat, Nat.reduceMul, Nat.reduceSub, Nat.reduceLT, Nat.reduceLeDiff, ir55]
    rw [opT_nilS_ref rfl]
    simp -dsimp -implicitDefEqProofs only [↓STP, STQ, ne_eq, implies_true, forall_const, if_false, if_true, reduceCtorEq, ↓reduceIte, Nat.reduceEqDiff, Nat.reduceAdd, Int.reduceEq, Int.reduceLT, Int.reduceLE, Int.reduceNeg, Int.reduceAdd, Int.reduceSub, Int.reduceMul, Int.reduceToNat, Nat.reduceMul, Nat.reduceSub, Nat.reduceLT, Nat.reduceLeDiff]
    rw [hap _ _ rfl]
    by_cases h0 : l.length = 0
    · have : l = [] := by simpa using h0
      subst this
      simp -dsimp -implicitDefEqProofs only [↓STP, STQ, ne_eq, implies_true, forall_const, if_false, if_true, reduceCtorEq, ↓reduceIte, Nat.reduceEqDiff, Nat.reduceAdd, Int.reduceEq, Int.reduceLT, Int.reduceLE, Int.reduceNeg, Int.reduceAdd, Int.reduceSub, Int.reduceMul, Int.reduceToNat, Nat.reduceMul, Nat.reduceSub, Nat.reduceLT, Nat.reduceLeDiff]
      exact hK
    · rw [if_neg h0]
      simp -dsimp -implicitDefEqProofs only [↓STP, STQ, ne_eq, implies_true, forall_const, if_false, if_true, reduceCtorEq, ↓reduceIte, Nat.reduceEqDiff, Nat.reduceAdd, Int.reduceEq, Int.reduceLT, Int.reduceLE, Int.reduceNeg, Int.reduceAdd, Int.reduceSub, Int.reduceMul, Int.reduceToNat, Nat.reduceMul, Nat.reduceSub, Nat.reduceLT, Nat.reduceLeDiff]
      exact hK

theorem circuit23 (hb : BuAt h id F p gs outs) (hl : gs.length < 1000000) (hlo : outs.length < 1000000) (hK : K (.ret (circV p gs outs)) h) : R 23 [.ptr id 0] h K := by
  obtain ⟨⟨gv, ov, gid, oid, h1, h2, h3, h4, h5, h6, h7⟩, hid⟩ := hb
  obtain ⟨s1, s2, s3⟩ := h2.src
  obtain ⟨t1, t2, t3⟩ := h3.src
  rw [List.length_map] at s2 t2
  have t1' : flat h ov.outv = some (outs.map I) := by
    rw [t1]; congr 1
    have : ∀ l : List Int, (l.map fun o => [I o]).flatten = l.map I := by
      intro l
      induction l with
      | nil => rfl
      | cons o os ih => rw [List.map_cons, List.flatten_cons, ih]; rfl
    exact this outs
  refine run23 (Nat.le_of_ble_eq_true rfl) ?_
  simp -dsimp -implicitDefEqProofs only [↓STP, STQ, ne_eq, implies_true, forall_const, if_false, if_true, reduceCtorEq, ↓reduceIte, Nat.reduceEqDiff, Nat.reduceAdd, Int.reduceEq, Int.reduceLT, Int.reduceLE, Int.reduceNeg, Int.reduceAdd, Int.reduceSub, Int.reduceMul, Int.reduceToNat, Nat.reduceMul, Nat.reduceSub, Nat.reduceLT, Nat.reduceLeDiff, ir23, h1, h2.out, h3.out]
  refine clone54 s1 s2 s3 hl ?_
  simp -dsimp -implicitDefEqProofs only [↓STP, STQ, ne_eq, implies_true, forall_const, if_false, if_true, reduceCtorEq, ↓reduceIte, Nat.reduceEqDiff, Nat.reduceAdd, Int.reduceEq, Int.reduceLT, Int.reduceLE, Int.reduceNeg, Int.reduceAdd, Int.reduceSub, Int.reduceMul, Int.reduceToNat, Nat.reduceMul, Nat.reduceSub, Nat.reduceLT, Nat.reduceLeDiff, h1, h3.out]
  refine clone55 t1' t2 t3 hlo ?_
  simp -dsimp -implicitDefEqProofs only [↓STP, STQ, ne_eq, implies_true, forall_const, if_false, if_true, reduceCtorEq, ↓reduceIte, Nat.reduceEqDiff, Nat.reduceAdd, Int.reduceEq, Int.reduceLT, Int.reduceLE, Int.reduceNeg, Int.reduceAdd, Int.reduceSub, Int.reduceMul, Int.reduceToNat, Nat.reduceMul, Nat.reduceSub, Nat.reduceLT, Nat.reduceLeDiff, h1, h3.out, storeV]
  exact hK

end
end Go.Ab.Ytgfnhkedfmnijaa
