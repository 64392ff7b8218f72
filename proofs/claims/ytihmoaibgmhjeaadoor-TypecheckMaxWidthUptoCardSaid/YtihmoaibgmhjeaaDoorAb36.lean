import Derived.Test.YtihmoaibgmhjeaaDoorAb35
import Derived.Lib.LaidTab
set_option linter.unusedVariables false
set_option linter.unusedSimpArgs false
namespace Go.Ab
open Go.RowKit Go.ChangeShapes
section
variable {H' : Type} {enc : TypeId × Value → H'} {P : Program} {W : World} {ts : List TypeId}
theorem law_callsG {G : List (Nat × List V)} {E : Env} (hcall : ∀ n, CallOK P G (call E n)) (hwr : WR (k0 W) h0 W G) {f : FuncId} {vals : Array Value} {vs : List V} (hargs : ArgsOK (k0 W) W vs vals) (hr : Runs E f vs h0 (fun o _ => o = .ret (.bool true))) :
  Calls P f vals W fun e W' => e = .returned (.bool true) ∧ Below W.heap.size W W' := by
 obtain ⟨n, hn⟩ := hr
 refine ((hcall n _ _ _ _ hn).2 (k0 W) W vals hwr hargs).mono fun e W' h => ?_
 obtain ⟨o, h', rfl, k', hwr, hold, x, b, fb, rfl, _, hx⟩ := h
 have hx' : VR k' W' (.bool true) x := hx
 cases hx'
 exact ⟨rfl, hold.misc.2.1, hold.misc.1, hold.misc.2.2, hold.keeps.size, fun b hb => hold.same b hb (fun id o ho => by simp [h0] at ho)⟩
theorem law_contractG {B : DataW H' → Nat} (hB : BulkOK B) {N : Nat} {G : List (Nat × List V)} {E : Env} (hcall : ∀ n, CallOK P G (call E n)) (hwr : WR (k0 W) h0 W G) {f : FuncId} {fn : Func} {s : ChangeSpec} {apart fresh handsOn : Bool} {base : Nat} {args : Array Value} {ds gs : List (DataW H')} {before : List MemPlace} {tb : TypeId}
  (hl : laidOutB P = true) (hc : closedT P ts = true) (hts : (fn.params.toList.all fun t => ts.contains t && P.readableRec t && decide (t < P.types.size)) = true) (hres : fn.resultTypes = #[tb]) (htb : P.underlying tb = some .bool)
  (hvars : s.vars = []) (hfn : ∀ ds : List (DataW H'), ds.length = fn.params.toList.length → s.fn H' ds = { results := [.lit (.bool true)], args := ds })
  (hval : ∀ (j : Nat) t v, fn.params[j]? = some t → args[j]? = some v → Value.okWide P W .any base t v)
  (hW : DataW.Whole enc P fn.params.toList s.vars apart W args.toList ds gs before)
  (hbulk : (ds.map B).sum ≤ N)
  (hrun : ∀ vs, TyArgs P fn.params.toList vs → V.bulks vs ≤ N → Runs E f vs h0 (fun o _ => o = .ret (.bool true))) :
  Calls P f args W fun e W' => ∃ v, e = .returned v ∧ s.post enc P fn apart fresh handsOn false W args v W' := by
 have hW0 := hW
 obtain ⟨p, q, hA, hV, rfl, _, _⟩ := hW
 rw [List.all_eq_true] at hts
 have hts' : ∀ t ∈ fn.params.toList, ts.contains t = true ∧ P.readableRec t = true ∧ t < P.types.size := fun t ht => by
  have := hts t ht
  simp only [Bool.and_eq_true, decide_eq_true_eq] at this
  exact ⟨this.1.1, this.1.2, this.2⟩
 rw [hvars] at hV
 obtain ⟨rfl, rfl⟩ : gs = [] ∧ q = [] := by
  cases gs with
  | nil => exact ⟨rfl, hV⟩
  | cons => exact hV.elim
 obtain ⟨us, u1, u2, u3, u4⟩ := args_VB hB (b0 := base) hc (fun t ht => (hts' t ht).1) hA (fun j t v h1 h2 => hval j t v (by simpa using h1) (by simpa using h2))
 refine (law_callsG hcall hwr (vs := us) ⟨by simpa using u1.symm, fun j u hj => ?_⟩ (hrun us u3 (Nat.le_trans u4 hbulk))).mono fun e W' h => ?_
 ·obtain ⟨x, a, b⟩ := u2 j u hj
  exact ⟨x, by simpa using a, b⟩
 obtain ⟨rfl, hb⟩ := h
 have hfn := hfn ds (trodAll_len hA)
 refine ⟨_, rfl, ds, [], p ++ [], [], p, [], hW0, ?_, ?_, ?_, hb.frame _, fun h => by cases h⟩
 ·rw [List.append_nil, hfn, hres]
  exact trodAll_mk1 (shut_bool htb true)
 ·rw [List.append_nil, hfn]
  exact trodAll_below hl hb (fun t ht => (hts' t ht).2) hA
 ·rw [List.append_nil, hfn, hvars]; rfl
def litX : V → Value
 | .int k n => .int k n
 | .bool b => .bool b
 | _ => .nilFunc
theorem glob_vr {g : Nat} {vs : List V} (hp : ∀ v ∈ vs, (∃ k n, v = .int k n) ∨ ∃ b, v = .bool b) (hc : ∀ (j : Nat) (v : V), vs[j]? = some v → W.cell? ⟨g, j, none⟩ = some (litX v)) : VR (k0 W) W (.iptr vs) (.pointer (some ⟨g, 0, none⟩)) := by
 refine .iptr vs ⟨g, 0, none⟩ (fun j => litX (vs.getD j .undef)) rfl (fun j v hj => ?_) (fun j v hj => ?_)
 ·have e : vs.getD j .undef = v := by rw [List.getD_eq_getElem?_getD, hj]; rfl
  have h1 := hc j v hj
  have ha : (⟨g, 0, none⟩ : Addr).add j = ⟨g, j, none⟩ := by simp [Addr.add]; try omega
  rw [ha]
  simp only [e]
  refine ⟨h1, cell_lim h1, ?_⟩
  rcases hp v (List.mem_of_getElem? hj) with ⟨k, n, rfl⟩ | ⟨b, rfl⟩ <;> rfl
 ·have e : vs.getD j .undef = v := by rw [List.getD_eq_getElem?_getD, hj]; rfl
  simp only [e]
  rcases hp v (List.mem_of_getElem? hj) with ⟨k, n, rfl⟩ | ⟨b, rfl⟩
  ·exact .int k n
  ·exact .bool b
theorem wrG {G : List (Nat × List V)} (h : ∀ g cells, (g, cells) ∈ G → VR (k0 W) W (.iptr cells) (.pointer (some ⟨g, 0, none⟩))) : WR (k0 W) h0 W G := ⟨rfl, fun id o h => by simp [h0] at h, fun id id' o o' h => by simp [h0] at h, h⟩
end
end Go.Ab
