import Derived.Test.YtihmoaibgmhjeaaDoorAb31
set_option linter.unusedVariables false
set_option linter.unusedSimpArgs false
namespace Go.Ab
open Go.RowKit Go.ChangeShapes
mutual
def V.bulk : V → Nat
 | .str s => s.size + 1
 | .vec xs _ => V.bulks xs + 1
 | .agg xs => V.bulks xs + 1
 | _ => 1
def V.bulks : List V → Nat
 | [] => 0
 | x :: xs => x.bulk + V.bulks xs
end
theorem bulks_append : ∀ a b : List V, V.bulks (a ++ b) = V.bulks a + V.bulks b
 | [], b => by rw [List.nil_append, V.bulks, Nat.zero_add]
 | x :: a, b => by rw [List.cons_append, V.bulks, V.bulks, bulks_append a b, Nat.add_assoc]
theorem bulks_one {v : V} : V.bulks [v] = v.bulk := by rw [V.bulks, V.bulks, Nat.add_zero]
section
variable {H' : Type} {enc : TypeId × Value → H'} {P : Program} {W : World} {ts : List TypeId}
structure BulkOK (B : DataW H' → Nat) : Prop where
 str : ∀ l, l.length + 1 ≤ B (.lit (.string l))
 lit : ∀ l, 1 ≤ B (.lit l)
 nil : 1 ≤ B .nil
 slice : ∀ e s, (e.map B).sum + 1 ≤ B (.slice e s)
 agg : ∀ e, (e.map B).sum + 1 ≤ B (.agg e)
theorem bulks_le {α : Type} {g : α → Nat} : ∀ {l : List V} {m : List α}, l.length = m.length → (∀ (i : Nat) (a : V) (b : α), l[i]? = some a → m[i]? = some b → a.bulk ≤ g b) → V.bulks l ≤ (m.map g).sum
 | [], [], _, _ => Nat.le_refl _
 | [], _ :: _, h, _ => by simp at h
 | _ :: _, [], h, _ => by simp at h
 | x :: l, y :: m, h, hp => by
  have h1 := hp 0 x y rfl rfl
  have h2 := bulks_le (l := l) (m := m) (by simpa using h) (fun i a b ha hb => hp (i + 1) a b (by simpa using ha) (by simpa using hb))
  rw [V.bulks, List.map_cons, List.sum_cons]; omega
theorem bulks_flat {α : Type} {g : α → Nat} : ∀ {l : List (List V)} {m : List α}, l.length = m.length → (∀ (i : Nat) (a : List V) (b : α), l[i]? = some a → m[i]? = some b → V.bulks a ≤ g b) → V.bulks l.flatten ≤ (m.map g).sum
 | [], [], _, _ => Nat.le_refl _
 | [], _ :: _, h, _ => by simp at h
 | _ :: _, [], h, _ => by simp at h
 | x :: l, y :: m, h, hp => by
  have h1 := hp 0 x y rfl rfl
  have h2 := bulks_flat (l := l) (m := m) (by simpa using h) (fun i a b ha hb => hp (i + 1) a b (by simpa using ha) (by simpa using hb))
  rw [List.flatten_cons, bulks_append, List.map_cons, List.sum_cons]; omega
theorem trod_VB {B : DataW H' → Nat} (hB : BulkOK B) (hc : closedT P ts = true) : ∀ (fuel : Nat) (t : TypeId) (cs : List Value) (x : DataW H' × List MemPlace), ts.contains t = true → DataW.trod enc P W 0 (fun _ => true) true fuel t cs = some x →
  ∃ vs, CRs (k0 W) W vs cs ∧ Ty P t vs ∧ vs.length = P.cellsOf t ∧ V.bulks vs ≤ B x.1 ∧ (aggT P t = some true → V.bulks vs + 1 ≤ B x.1) := by
 intro fuel
 induction fuel with
 | zero => intro t cs x ht h; simp [DataW.trod] at h
 | succ fuel ih =>
  intro t cs x ht h
  have hk := closed_at hc ht
  unfold DataW.trod at h
  simp only at h
  split at h
  ·rename_i hu
   rw [hu] at hk
   cases h
   exact ⟨_, crs_one (.bool _) rfl, .bool hu _, (beq_iff_eq.1 hk).symm, hB.lit _, fun h => by unfold aggT at h; rw [hu] at h; cases h⟩
  ·rename_i k k' n hu
   rw [hu] at hk
   split at h
   ·rename_i hw
    obtain ⟨rfl, hw⟩ := hw
    cases h
    exact ⟨_, crs_one (.int _ _) rfl, .int hu _ hw, (beq_iff_eq.1 hk).symm, hB.lit _, fun h => by unfold aggT at h; rw [hu] at h; cases h⟩
   ·simp at h
  ·rename_i hu; rw [hu] at hk; simp at hk
  ·rename_i s hu
   rw [hu] at hk
   split at h
   ·rename_i hs
    cases h
    exact ⟨_, crs_one (.str _) rfl, .str hu _ hs, (beq_iff_eq.1 hk).symm, by rw [bulks_one]; exact Nat.le_trans (by rw [V.bulk, Array.length_toList]; exact Nat.le_refl _) (hB.str _), fun h => by unfold aggT at h; rw [hu] at h; cases h⟩
   ·simp at h
  ·rename_i hu; rw [hu] at hk; simp at hk
  ·rename_i hu; rw [hu] at hk; simp at hk
  ·rename_i e hu
   rw [hu] at hk
   simp only [Bool.and_eq_true, beq_iff_eq, decide_eq_true_eq] at hk
   obtain ⟨ag, ha, _⟩ := closed_agg hc hk.1.1
   cases h
   exact ⟨_, crs_one (.vecNil .any rfl) rfl, .slice hu ha [] (by simp) (by simp), hk.2.symm, hB.nil, fun h => by unfold aggT at h; rw [hu] at h; cases h⟩
  ·rename_i e a len cap hu
   rw [hu] at hk
   simp only [Bool.and_eq_true, beq_iff_eq, decide_eq_true_eq] at hk
   obtain ⟨⟨he, hz⟩, h1⟩ := hk
   obtain ⟨ag, ha, hag⟩ := closed_agg hc he
   split at h
   ·rename_i hb
    obtain ⟨_, hlc, hcm⟩ := hb
    rw [Option.bind_eq_some_iff] at h
    obtain ⟨elems, hel, h⟩ := h
    rw [Option.map_eq_some_iff] at h
    obtain ⟨rest, _, rfl⟩ := h
    obtain ⟨g1, g2⟩ := mapM_range hel
    have hel' : ∀ i, i < len → ∃ vs : List V, vs.length = P.cellsOf e ∧ Ty P e vs ∧ (∀ (j : Nat) (v : V), vs[j]? = some v → ∃ y, W.cell? (a.add (i * P.cellsOf e + j)) = some y ∧ VR (k0 W) W v y ∧ y.oneCell' = true) ∧ ∀ y, elems[i]? = some y → (mkEl ag vs).bulk ≤ B y.1 := by
     intro i hi
     obtain ⟨y, hy, hyi⟩ := g2 i hi
     rw [Option.bind_eq_some_iff] at hy
     obtain ⟨row, hrow, hy⟩ := hy
     obtain ⟨vs, r1, r2, r3, r4, r5⟩ := ih _ _ _ he hy
     refine ⟨vs, r3, r2, fun j v hj => ?_, fun y' hy' => ?_⟩
     rotate_left
     ·rw [hyi] at hy'; cases hy'
      cases ag with
      | true => exact r5 ha
      | false =>
       rw [hag rfl] at r3
       match vs, r3 with
       | [v], _ => rw [bulks_one] at r4; exact r4
     obtain ⟨z, q1, q2, q3⟩ := r1.2 j v hj
     unfold World.cells? at hrow
     split at hrow
     ·obtain ⟨l1, l2⟩ := mapM_range hrow
      have hj' : j < P.cellsOf e := by rw [← r3]; exact (List.getElem?_eq_some_iff.1 hj).1
      obtain ⟨z', m1, m2⟩ := l2 j hj'
      rw [addr_add_add] at m1
      rw [q1] at m2; cases m2
      exact ⟨z, m1, q2, q3⟩
     ·simp at hrow
    obtain ⟨css, c1, c2⟩ := exists_list len hel'
    have hmk : ∀ (i : Nat) (cs : List V), css[i]? = some cs → (mkEl ag cs).cells = cs := by
     intro i cs hi
     cases ag with
     | true => rfl
     | false =>
      obtain ⟨p1, _, p3, _⟩ := c2 i cs hi
      rw [hag rfl] at p1
      match cs, p1 with
      | [v], _ =>
       obtain ⟨y, _, q2, q3⟩ := p3 0 v rfl
       exact vr_not_agg q2 q3
    refine ⟨_, crs_one (x := .slice (some a) len cap) (.vec (css.map (mkEl ag)) .any a len cap (P.cellsOf e) (fun i j => (W.cell? (a.add (i * P.cellsOf e + j))).getD undef) rfl (by simp [c1]) hlc (by simp) (fun i el hi => ?_) (fun i el j v hi hj => ?_) (fun i el j v hi hj => ?_)) rfl,
     .slice hu ha css (fun cs hcs => ?_) (by omega), h1.symm, ?_, fun h => by unfold aggT at h; rw [hu] at h; cases h⟩
    ·rw [List.getElem?_map, Option.map_eq_some_iff] at hi
     obtain ⟨cs, hi, rfl⟩ := hi
     rw [hmk i cs hi]
     exact (c2 i cs hi).1
    ·rw [List.getElem?_map, Option.map_eq_some_iff] at hi
     obtain ⟨cs, hi, rfl⟩ := hi
     rw [hmk i cs hi] at hj
     obtain ⟨y, q1, q2, q3⟩ := (c2 i cs hi).2.2.1 j v hj
     rw [q1]
     exact ⟨rfl, by have := cell_lim q1; rwa [addr_add_block] at this, q3⟩
    ·rw [List.getElem?_map, Option.map_eq_some_iff] at hi
     obtain ⟨cs, hi, rfl⟩ := hi
     rw [hmk i cs hi] at hj
     obtain ⟨y, q1, q2, q3⟩ := (c2 i cs hi).2.2.1 j v hj
     rw [q1]
     exact q2
    ·obtain ⟨i, hi⟩ := List.mem_iff_getElem?.1 hcs
     exact (c2 i cs hi).2.1
    ·rw [bulks_one, V.bulk]
     refine Nat.le_trans ?_ (hB.slice _ _)
     rw [List.map_map]
     refine Nat.add_le_add_right (bulks_le (by simp [c1, g1]) (fun i a y h1 h2 => ?_)) 1
     rw [List.getElem?_map, Option.map_eq_some_iff] at h1
     obtain ⟨cs, h1, rfl⟩ := h1
     exact (c2 i cs h1).2.2.2 y h2
   ·simp at h
  ·rename_i cs _ _ fs hu
   rw [hu] at hk
   simp only [Bool.and_eq_true, beq_iff_eq, List.all_eq_true] at hk
   obtain ⟨hk1, hk2⟩ := hk
   split at h
   ·rename_i hl
    rw [Option.map_eq_some_iff] at h
    obtain ⟨xs, hxs, rfl⟩ := h
    obtain ⟨g1, g2⟩ := mapM_list hxs
    have hel : ∀ i, i < fs.size → ∃ vs : List V, ∀ f, fs[i]? = some f → CRs (k0 W) W vs ((cs.drop f.offset).take (P.cellsOf f.type)) ∧ Ty P f.type vs ∧ ∀ y, xs[i]? = some y → V.bulks vs ≤ B y.1 := by
     intro i hi
     obtain ⟨f, hf⟩ : ∃ f, fs[i]? = some f := ⟨fs[i], Array.getElem?_eq_getElem hi⟩
     obtain ⟨y, hy, hyi⟩ := g2 i f (by simpa using hf)
     obtain ⟨vs, r1, r2, _, r4, _⟩ := ih _ _ _ (hk1 f (List.mem_of_getElem? (by simpa using hf))) hy
     exact ⟨vs, fun f' hf' => by rw [hf] at hf'; cases hf'; exact ⟨r1, r2, fun y' hy' => by rw [hyi] at hy'; cases hy'; exact r4⟩⟩
    obtain ⟨parts, c1, c2⟩ := exists_list fs.size hel
    have hrows := (tile_rows hk2 hl).1
    rw [List.drop_zero] at hrows
    have hcr : CRs (k0 W) W parts.flatten cs := by
     rw [hrows]
     refine crs_parts (by simp [c1]) (fun i vs xs h1 h2 => ?_)
     rw [List.getElem?_map, Option.map_eq_some_iff] at h2
     obtain ⟨f, hf, rfl⟩ := h2
     exact (c2 i vs h1 f (by simpa using hf)).1
    have hbk : V.bulks parts.flatten + 1 ≤ B (.agg (xs.map (·.1))) := by
     refine Nat.le_trans ?_ (hB.agg _)
     rw [List.map_map]
     refine Nat.add_le_add_right (bulks_flat (by rw [c1, g1]; simp) (fun i a y h1 h2 => ?_)) 1
     have hi : i < fs.size := by rw [← c1]; exact (List.getElem?_eq_some_iff.1 h1).1
     exact (c2 i a h1 fs[i] (Array.getElem?_eq_getElem hi)).2.2 y h2
    exact ⟨parts.flatten, hcr, .struct hu parts c1 (fun i f vs hf hi => (c2 i vs hi f hf).2.1), by rw [← hcr.1, hl], by show _ ≤ B (.agg _); omega, fun _ => hbk⟩
   ·simp at h
  ·rename_i cs _ _ n e hu
   rw [hu] at hk
   simp only [Bool.and_eq_true, beq_iff_eq] at hk
   obtain ⟨hk1, hk2⟩ := hk
   split at h
   ·rename_i hl
    rw [Option.map_eq_some_iff] at h
    obtain ⟨xs, hxs, rfl⟩ := h
    obtain ⟨g1, g2⟩ := mapM_range hxs
    have hel : ∀ i, i < n → ∃ vs : List V, CRs (k0 W) W vs ((cs.drop (i * P.cellsOf e)).take (P.cellsOf e)) ∧ Ty P e vs ∧ ∀ y, xs[i]? = some y → V.bulks vs ≤ B y.1 := by
     intro i hi
     obtain ⟨y, hy, hyi⟩ := g2 i hi
     obtain ⟨vs, r1, r2, _, r4, _⟩ := ih _ _ _ hk1 hy
     exact ⟨vs, r1, r2, fun y' hy' => by rw [hyi] at hy'; cases hy'; exact r4⟩
    obtain ⟨parts, c1, c2⟩ := exists_list n hel
    have hrows := chop_rows (n := n) (z := P.cellsOf e) (cs := cs) (by omega)
    have hcr : CRs (k0 W) W parts.flatten cs := by
     rw [hrows]
     refine crs_parts (by simp [c1]) (fun i vs xs h1 h2 => ?_)
     rw [List.getElem?_map, Option.map_eq_some_iff] at h2
     obtain ⟨f, hf, rfl⟩ := h2
     obtain ⟨hf1, hf2⟩ := List.getElem?_eq_some_iff.1 hf
     simp at hf2; subst hf2
     exact (c2 i vs h1).1
    have hbk : V.bulks parts.flatten + 1 ≤ B (.agg (xs.map (·.1))) := by
     refine Nat.le_trans ?_ (hB.agg _)
     rw [List.map_map]
     exact Nat.add_le_add_right (bulks_flat (by rw [c1, g1]) (fun i a y h1 h2 => (c2 i a h1).2.2 y h2)) 1
    refine ⟨parts.flatten, hcr, .array hu parts c1 (fun vs hvs => ?_), by rw [← hcr.1, hl], by show _ ≤ B (.agg _); omega, fun _ => hbk⟩
    obtain ⟨i, hi⟩ := List.mem_iff_getElem?.1 hvs
    exact (c2 i vs hi).2.1
   ·simp at h
  all_goals first
   | (simp at h; done)
   | (rename_i hu; rw [hu] at hk; simp at hk; done)
   | (rename_i hu _; rw [hu] at hk; simp at hk; done)
   | (rename_i hu _ _; rw [hu] at hk; simp at hk; done)
   | skip
theorem arg_VB {B : DataW H' → Nat} (hB : BulkOK B) (hc : closedT P ts = true) {t : TypeId} (ht : ts.contains t = true) {b0 : Nat} {v : Value} {d : DataW H'} {ps : List MemPlace} (hd : DataW.Trod enc P W 0 (fun _ => true) true t v d ps)
  (hok : Value.okWide P W .any b0 t v) : ∃ u, VR (k0 W) W u v ∧ TyArg P t u ∧ u.bulk ≤ B d := by
 obtain ⟨fuel, hd⟩ := hd
 obtain ⟨cs, h1, h2, h3, h4, h5⟩ := trod_VB hB hc fuel t _ _ ht hd
 obtain ⟨ag, ha, hag⟩ := closed_agg hc ht
 refine ⟨mkEl ag cs, ?_, ⟨ag, cs, ha, rfl, h2⟩, ?_⟩
 rotate_left
 ·cases ag with
  | true => exact h5 ha
  | false =>
   rw [hag rfl] at h3
   match cs, h3 with
   | [v], _ => rw [bulks_one] at h4; exact h4
 cases ag with
 | true =>
  have hv : ∃ arr, v = .agg arr := by
   unfold aggT at ha
   unfold Value.okWide at hok
   split at ha <;> rename_i hu
   ·rw [hu] at hok; obtain ⟨arr, h, _⟩ := hok; exact ⟨arr, h⟩
   ·rw [hu] at hok; obtain ⟨arr, h, _⟩ := hok; exact ⟨arr, h⟩
   ·cases ha
   ·cases ha
  obtain ⟨arr, rfl⟩ := hv
  have h1' : CRs (k0 W) W cs arr.toList := h1
  refine .agg cs arr (fun j => arr.toList[j]?.getD undef) (by simpa using h1'.1) (fun j u hj => ?_) (fun j u hj => ?_)
  ·obtain ⟨x, p, q, r⟩ := h1'.2 j u hj
   rw [p]; exact ⟨by simpa using p, r⟩
  ·obtain ⟨x, p, q, r⟩ := h1'.2 j u hj
   rw [p]; exact q
 | false =>
  rw [hag rfl] at h3
  match cs, h3 with
  | [u], _ =>
   obtain ⟨x, p, q, r⟩ := h1.2 0 u rfl
   have hlen : v.cells.toList.length = 1 := h1.1
   have hv : v.cells = #[v] := by
    cases v with
    | agg arr =>
     exfalso
     have hcl := closed_at hc ht
     have hu0 : ∀ fs, P.underlying t ≠ some (.struct fs) := fun fs hu => by unfold aggT at ha; rw [hu] at ha; cases ha
     have hu1 : ∀ n e, P.underlying t ≠ some (.array n e) := fun n e hu => by unfold aggT at ha; rw [hu] at ha; cases ha
     unfold Value.okWide at hok
     split at hok
     ·rename_i hu; exact hu0 _ hu
     ·rename_i hu; exact hu1 _ _ hu
     ·unfold Cell.okWide at hok
      split at hcl <;> rename_i hu
      ·rw [hu] at hok; simp [Cell.ok, hu] at hok
      ·rw [hu] at hok; simp [Cell.ok, hu] at hok
      ·rw [hu] at hok; simp [Cell.ok, hu] at hok
      ·rw [hu] at hok; simp [Cell.ok, hu] at hok
      ·exact hu0 _ hu
      ·exact hu1 _ _ hu
      ·cases hcl
    | _ => rfl
   rw [hv] at p
   simp at p
   subst p
   exact q
theorem args_VB {B : DataW H' → Nat} (hB : BulkOK B) (hc : closedT P ts = true) {b0 : Nat} : ∀ {tys : List TypeId} {vs : List Value} {ds : List (DataW H')} {ps : List MemPlace}, (∀ t ∈ tys, ts.contains t = true) → DataW.TrodAll enc P W 0 (fun _ => true) true tys vs ds ps →
  (∀ (j : Nat) t v, tys[j]? = some t → vs[j]? = some v → Value.okWide P W .any b0 t v) → ∃ us, us.length = vs.length ∧ (∀ (j : Nat) (u : V), us[j]? = some u → ∃ x, vs[j]? = some x ∧ VR (k0 W) W u x) ∧ TyArgs P tys us ∧ V.bulks us ≤ (ds.map B).sum
 | [], [], [], ps, _, _, _ => ⟨[], rfl, fun j u h => by simp at h, rfl, Nat.le_refl _⟩
 | [], _ :: _, _, _, _, h, _ => h.elim
 | [], [], _ :: _, _, _, h, _ => h.elim
 | _ :: _, [], _, _, _, h, _ => h.elim
 | _ :: _, _ :: _, [], _, _, h, _ => h.elim
 | t :: tys, v :: vs, d :: ds, ps, ht, h, hok => by
  obtain ⟨p, q, h1, h2, _⟩ := h
  obtain ⟨u, g1, g2, g6⟩ := arg_VB hB hc (ht t (by simp)) h1 (hok 0 t v rfl rfl)
  obtain ⟨us, g3, g4, g5, g7⟩ := args_VB hB hc (fun t h => ht t (by simp [h])) h2 (fun j t v h1 h2 => hok (j + 1) t v (by simpa using h1) (by simpa using h2))
  refine ⟨u :: us, by simp [g3], fun j w hj => ?_, ⟨u, us, rfl, g2, g5⟩, by rw [V.bulks, List.map_cons, List.sum_cons]; omega⟩
  cases j with
  | zero => simp at hj; subst hj; exact ⟨v, rfl, g1⟩
  | succ j => simpa using g4 j w (by simpa using hj)
theorem law_contractB {B : DataW H' → Nat} (hB : BulkOK B) {N : Nat} {E : Env} (hcall : ∀ n, CallOK P [] (call E n)) {f : FuncId} {fn : Func} {s : ChangeSpec} {apart fresh handsOn : Bool} {base : Nat} {args : Array Value} {ds gs : List (DataW H')} {before : List MemPlace} {tb : TypeId}
  (hl : laidOutB P = true) (hc : closedT P ts = true) (hts : (fn.params.toList.all fun t => ts.contains t && P.readableRec t && decide (t < P.types.size)) = true) (hres : fn.resultTypes = #[tb]) (htb : P.underlying tb = some .bool)
  (hvars : s.vars = []) (hfn : ∀ ds : List (DataW H'), ds.length = fn.params.toList.length → s.fn H' ds = { results := [.lit (.bool true)], args := ds })
  (hval : ∀ (j : Nat) t v, fn.params[j]? = some t → args[j]? = some v → Value.okWide P W .any base t v)
  (hW : DataW.Whole enc P fn.params.toList s.vars apart W args.toList ds gs before)
  (hbulk : (ds.map B).sum ≤ N)
  (hrun : ∀ vs, TyArgs P fn.params.toList vs → V.bulks vs ≤ N → Runs E f vs h0 (fun o _ => o = .ret (.bool true))) :
  Calls P f args W fun e W' => ∃ v, e = .returned v ∧ s.post enc P fn apart fresh handsOn false W args v W' := by
 have hW0 := hW
 obtain ⟨p, q, hA, hV, rfl, _, _⟩ := hW
 rw [List.all_eq_true] at hts
 have hts' : ∀ t ∈ fn.params.toList, ts.contains t = true ∧ P.readableRec t = true ∧ t < P.types.size := fun t ht => by
  have := hts t ht
  simp only [Bool.and_eq_true, decide_eq_true_eq] at this
  exact ⟨this.1.1, this.1.2, this.2⟩
 rw [hvars] at hV
 obtain ⟨rfl, rfl⟩ : gs = [] ∧ q = [] := by
  cases gs with
  | nil => exact ⟨rfl, hV⟩
  | cons => exact hV.elim
 obtain ⟨us, u1, u2, u3, u4⟩ := args_VB hB (b0 := base) hc (fun t ht => (hts' t ht).1) hA (fun j t v h1 h2 => hval j t v (by simpa using h1) (by simpa using h2))
 refine (law_calls hcall (vs := us) ⟨by simpa using u1.symm, fun j u hj => ?_⟩ (hrun us u3 (Nat.le_trans u4 hbulk))).mono fun e W' h => ?_
 ·obtain ⟨x, a, b⟩ := u2 j u hj
  exact ⟨x, by simpa using a, b⟩
 obtain ⟨rfl, hb⟩ := h
 have hfn := hfn ds (trodAll_len hA)
 refine ⟨_, rfl, ds, [], p ++ [], [], p, [], hW0, ?_, ?_, ?_, hb.frame _, fun h => by cases h⟩
 ·rw [List.append_nil, hfn, hres]
  exact trodAll_mk1 (shut_bool htb true)
 ·rw [List.append_nil, hfn]
  exact trodAll_below hl hb (fun t ht => (hts' t ht).2) hA
 ·rw [List.append_nil, hfn, hvars]; rfl
end
end Go.Ab
