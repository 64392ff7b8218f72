import Derived.Test.YtihmoaibgmhjeaaDoorAb30
set_option linter.unusedVariables false
set_option linter.unusedSimpArgs false
namespace Go.Ab
open Go.RowKit Go.ChangeShapes
section
variable {H' : Type} {enc : TypeId × Value → H'} {P : Program} {W : World} {ts : List TypeId}
def TyArg (P : Program) (t : TypeId) (v : V) : Prop := ∃ ag cs, aggT P t = some ag ∧ v = mkEl ag cs ∧ Ty P t cs
def TyArgs (P : Program) : List TypeId → List V → Prop
 | [], vs => vs = []
 | t :: tys, vs => ∃ v r, vs = v :: r ∧ TyArg P t v ∧ TyArgs P tys r
theorem arg_V (hc : closedT P ts = true) {t : TypeId} (ht : ts.contains t = true) {b0 : Nat} {v : Value} {d : DataW H'} {ps : List MemPlace} (hd : DataW.Trod enc P W 0 (fun _ => true) true t v d ps)
  (hok : Value.okWide P W .any b0 t v) : ∃ u, VR (k0 W) W u v ∧ TyArg P t u := by
 obtain ⟨fuel, hd⟩ := hd
 obtain ⟨cs, h1, h2, h3⟩ := trod_V hc fuel t _ _ ht hd
 obtain ⟨ag, ha, hag⟩ := closed_agg hc ht
 refine ⟨mkEl ag cs, ?_, ag, cs, ha, rfl, h2⟩
 cases ag with
 | true =>
  have hv : ∃ arr, v = .agg arr := by
   unfold aggT at ha
   unfold Value.okWide at hok
   split at ha <;> rename_i hu
   ·rw [hu] at hok; obtain ⟨arr, h, _⟩ := hok; exact ⟨arr, h⟩
   ·rw [hu] at hok; obtain ⟨arr, h, _⟩ := hok; exact ⟨arr, h⟩
   ·cases ha
   ·cases ha
  obtain ⟨arr, rfl⟩ := hv
  have h1' : CRs (k0 W) W cs arr.toList := h1
  refine .agg cs arr (fun j => arr.toList[j]?.getD undef) (by simpa using h1'.1) (fun j u hj => ?_) (fun j u hj => ?_)
  ·obtain ⟨x, p, q, r⟩ := h1'.2 j u hj
   rw [p]; exact ⟨by simpa using p, r⟩
  ·obtain ⟨x, p, q, r⟩ := h1'.2 j u hj
   rw [p]; exact q
 | false =>
  rw [hag rfl] at h3
  match cs, h3 with
  | [u], _ =>
   obtain ⟨x, p, q, r⟩ := h1.2 0 u rfl
   have hlen : v.cells.toList.length = 1 := h1.1
   have hv : v.cells = #[v] := by
    cases v with
    | agg arr =>
     exfalso
     have hcl := closed_at hc ht
     have hu0 : ∀ fs, P.underlying t ≠ some (.struct fs) := fun fs hu => by unfold aggT at ha; rw [hu] at ha; cases ha
     have hu1 : ∀ n e, P.underlying t ≠ some (.array n e) := fun n e hu => by unfold aggT at ha; rw [hu] at ha; cases ha
     unfold Value.okWide at hok
     split at hok
     ·rename_i hu; exact hu0 _ hu
     ·rename_i hu; exact hu1 _ _ hu
     ·unfold Cell.okWide at hok
      split at hcl <;> rename_i hu
      ·rw [hu] at hok; simp [Cell.ok, hu] at hok
      ·rw [hu] at hok; simp [Cell.ok, hu] at hok
      ·rw [hu] at hok; simp [Cell.ok, hu] at hok
      ·rw [hu] at hok; simp [Cell.ok, hu] at hok
      ·exact hu0 _ hu
      ·exact hu1 _ _ hu
      ·cases hcl
    | _ => rfl
   rw [hv] at p
   simp at p
   subst p
   exact q
theorem args_V (hc : closedT P ts = true) {b0 : Nat} : ∀ {tys : List TypeId} {vs : List Value} {ds : List (DataW H')} {ps : List MemPlace}, (∀ t ∈ tys, ts.contains t = true) → DataW.TrodAll enc P W 0 (fun _ => true) true tys vs ds ps →
  (∀ (j : Nat) t v, tys[j]? = some t → vs[j]? = some v → Value.okWide P W .any b0 t v) → ∃ us, us.length = vs.length ∧ (∀ (j : Nat) (u : V), us[j]? = some u → ∃ x, vs[j]? = some x ∧ VR (k0 W) W u x) ∧ TyArgs P tys us
 | [], [], [], ps, _, _, _ => ⟨[], rfl, fun j u h => by simp at h, rfl⟩
 | [], _ :: _, _, _, _, h, _ => h.elim
 | [], [], _ :: _, _, _, h, _ => h.elim
 | _ :: _, [], _, _, _, h, _ => h.elim
 | _ :: _, _ :: _, [], _, _, h, _ => h.elim
 | t :: tys, v :: vs, d :: ds, ps, ht, h, hok => by
  obtain ⟨p, q, h1, h2, _⟩ := h
  obtain ⟨u, g1, g2⟩ := arg_V hc (ht t (by simp)) h1 (hok 0 t v rfl rfl)
  obtain ⟨us, g3, g4, g5⟩ := args_V hc (fun t h => ht t (by simp [h])) h2 (fun j t v h1 h2 => hok (j + 1) t v (by simpa using h1) (by simpa using h2))
  refine ⟨u :: us, by simp [g3], fun j w hj => ?_, u, us, rfl, g2, g5⟩
  cases j with
  | zero => simp at hj; subst hj; exact ⟨v, rfl, g1⟩
  | succ j => simpa using g4 j w (by simpa using hj)
theorem law_calls {E : Env} (hcall : ∀ n, CallOK P [] (call E n)) {f : FuncId} {vals : Array Value} {vs : List V} (hargs : ArgsOK (k0 W) W vs vals) (hr : Runs E f vs h0 (fun o _ => o = .ret (.bool true))) :
  Calls P f vals W fun e W' => e = .returned (.bool true) ∧ Below W.heap.size W W' := by
 obtain ⟨n, hn⟩ := hr
 refine ((hcall n _ _ _ _ hn).2 (k0 W) W vals (wr0 W) hargs).mono fun e W' h => ?_
 obtain ⟨o, h', rfl, k', hwr, hold, x, b, fb, rfl, _, hx⟩ := h
 have hx' : VR k' W' (.bool true) x := hx
 cases hx'
 exact ⟨rfl, hold.misc.2.1, hold.misc.1, hold.misc.2.2, hold.keeps.size, fun b hb => hold.same b hb (fun id o ho => by simp [h0] at ho)⟩
theorem trodAll_below (hl : laidOutB P = true) {W' : World} (hb : Below W.heap.size W W') : ∀ {tys : List TypeId} {vs : List Value} {ds : List (DataW H')} {ps : List MemPlace}, (∀ t ∈ tys, P.readableRec t = true ∧ t < P.types.size) →
  DataW.TrodAll enc P W 0 (fun _ => true) true tys vs ds ps → DataW.TrodAll enc P W' 0 (fun b => decide (b < W.heap.size)) true tys vs ds ps
 | [], [], [], ps, _, h => h
 | [], _ :: _, _, _, _, h => h.elim
 | [], [], _ :: _, _, _, h => h.elim
 | _ :: _, [], _, _, _, h => h.elim
 | _ :: _, _ :: _, [], _, _, h => h.elim
 | t :: tys, v :: vs, d :: ds, ps, hr, h => by
  have hlt := h.lt
  obtain ⟨p, q, h1, h2, rfl⟩ := h
  exact ⟨p, q, Below.trod hl (hr t (by simp)).1 (hr t (by simp)).2 h1 hb (fun x hx => hlt x (by simp [hx])), trodAll_below hl hb (fun t ht => hr t (by simp [ht])) h2, rfl⟩
theorem trodAll_len : ∀ {tys : List TypeId} {vs : List Value} {ds : List (DataW H')} {ps : List MemPlace}, DataW.TrodAll enc P W 0 (fun _ => true) true tys vs ds ps → ds.length = tys.length
 | [], [], [], _, _ => rfl
 | [], _ :: _, _, _, h => h.elim
 | [], [], _ :: _, _, h => h.elim
 | _ :: _, [], _, _, h => h.elim
 | _ :: _, _ :: _, [], _, h => h.elim
 | t :: tys, v :: vs, d :: ds, ps, h => by
  obtain ⟨p, q, h1, h2, _⟩ := h
  simp [trodAll_len h2]
theorem law_contract {E : Env} (hcall : ∀ n, CallOK P [] (call E n)) {f : FuncId} {fn : Func} {s : ChangeSpec} {apart fresh handsOn : Bool} {base : Nat} {args : Array Value} {ds gs : List (DataW H')} {before : List MemPlace} {tb : TypeId}
  (hl : laidOutB P = true) (hc : closedT P ts = true) (hts : (fn.params.toList.all fun t => ts.contains t && P.readableRec t && decide (t < P.types.size)) = true) (hres : fn.resultTypes = #[tb]) (htb : P.underlying tb = some .bool)
  (hvars : s.vars = []) (hfn : ∀ ds : List (DataW H'), ds.length = fn.params.toList.length → s.fn H' ds = { results := [.lit (.bool true)], args := ds })
  (hval : ∀ (j : Nat) t v, fn.params[j]? = some t → args[j]? = some v → Value.okWide P W .any base t v)
  (hW : DataW.Whole enc P fn.params.toList s.vars apart W args.toList ds gs before)
  (hrun : ∀ vs, TyArgs P fn.params.toList vs → Runs E f vs h0 (fun o _ => o = .ret (.bool true))) :
  Calls P f args W fun e W' => ∃ v, e = .returned v ∧ s.post enc P fn apart fresh handsOn false W args v W' := by
 have hW0 := hW
 obtain ⟨p, q, hA, hV, rfl, _, _⟩ := hW
 rw [List.all_eq_true] at hts
 have hts' : ∀ t ∈ fn.params.toList, ts.contains t = true ∧ P.readableRec t = true ∧ t < P.types.size := fun t ht => by
  have := hts t ht
  simp only [Bool.and_eq_true, decide_eq_true_eq] at this
  exact ⟨this.1.1, this.1.2, this.2⟩
 rw [hvars] at hV
 obtain ⟨rfl, rfl⟩ : gs = [] ∧ q = [] := by
  cases gs with
  | nil => exact ⟨rfl, hV⟩
  | cons => exact hV.elim
 obtain ⟨us, u1, u2, u3⟩ := args_V (b0 := base) hc (fun t ht => (hts' t ht).1) hA (fun j t v h1 h2 => hval j t v (by simpa using h1) (by simpa using h2))
 refine (law_calls hcall (vs := us) ⟨by simpa using u1.symm, fun j u hj => ?_⟩ (hrun us u3)).mono fun e W' h => ?_
 ·obtain ⟨x, a, b⟩ := u2 j u hj
  exact ⟨x, by simpa using a, b⟩
 obtain ⟨rfl, hb⟩ := h
 have hfn := hfn ds (trodAll_len hA)
 refine ⟨_, rfl, ds, [], p ++ [], [], p, [], hW0, ?_, ?_, ?_, hb.frame _, fun h => by cases h⟩
 ·rw [List.append_nil, hfn, hres]
  exact trodAll_mk1 (shut_bool htb true)
 ·rw [List.append_nil, hfn]
  exact trodAll_below hl hb (fun t ht => (hts' t ht).2) hA
 ·rw [List.append_nil, hfn, hvars]; rfl
end
end Go.Ab
