/- The circuit builder: inputs, outputs, and what a built circuit evaluates to. -/
import Derived.Test.YtgfnhkedfmnijaaB3
import Derived.Test.YtgfnhkedfmnijaaR3
set_option linter.unusedVariables false
set_option linter.unusedSimpArgs false
namespace Go.Ab.Ytgfnhkedfmnijaa

section
variable {h : H} {K : Out → H → Prop} {id p q : Nat} {F : Nat → Prop} {gs : List Gt} {vs : List Nat} {outs : List Int} {ls : List (List Nat)} {xs : List Nat}

/-- The outputs so far, with their values. -/
structure Bo (gs : List Gt) (vs : List Nat) (outs : List Int) (xs : List Nat) : Prop where
  rng : ∀ o ∈ outs, 0 ≤ o ∧ o < gs.length
  val : outVals vs outs = xs

theorem Bo.nil : Bo gs vs [] [] := ⟨by simp, rfl⟩
theorem Bo.keep {gs' : List Gt} {vs' : List Nat} (b : Bo gs vs outs xs) (hl : gs.length ≤ gs'.length) (hp : ∀ i, i < gs.length → vs'.getD i 0 = vs.getD i 0) : Bo gs' vs' outs xs := by
  refine ⟨fun o ho => by have := b.rng o ho; omega, ?_⟩
  rw [← b.val]
  unfold outVals
  refine List.map_congr_left fun o ho => ?_
  have := b.rng o ho
  exact hp _ (by omega)
theorem Bo.grow {m n : Nat} {gs' : List Gt} {vs' : List Nat} (b : Bo gs vs outs xs) (w : Grew p q ls gs vs m n gs' vs') : Bo gs' vs' outs xs := b.keep (by rw [w.len]; omega) w.pre
theorem Bo.snoc {i x : Nat} (b : Bo gs vs outs xs) (hi : i < gs.length) (hx : vs.getD i 0 = x) : Bo gs vs (outs ++ [(i : Int)]) (xs ++ [x]) := by
  refine ⟨fun o ho => ?_, ?_⟩
  · rcases List.mem_append.1 ho with h1 | h1
    · exact b.rng o h1
    · simp at h1; subst h1; omega
  · have := b.val
    unfold outVals at this ⊢
    rw [List.map_append, this]
    simp only [List.map_cons, List.map_nil, Int.toNat_natCast, hx]

/-- An input is added. -/
structure GrewI (p q : Nat) (ls : List (List Nat)) (gs : List Gt) (vs : List Nat) (f x : Nat) (gs' : List Gt) (vs' : List Nat) : Prop where
  good : Rgt p q ls gs' vs'
  pre : ∀ i, i < gs.length → vs'.getD i 0 = vs.getD i 0
  len : gs'.length = gs.length + 1
  mul : muls gs' = muls gs
  inp : ∀ g, cnt gs' g = cnt gs g + if g = f then 1 else 0
  val : vs'.getD gs.length 0 = x
  nin : nin gs' = nin gs + 1

theorem input_g {bit : Bool} {f x : Nat} (b : Bd h id F p q ls gs vs outs) (h1 : 1 ≤ f) (h2 : f ≤ 13) (hx : (ls.getD (f - 1) [])[cnt gs f]? = some x) (hxp : x < p) (hb : bit = true → x ≤ 1)
    (hK : ∀ h' F' gs' vs', BuAt h' id F' p gs' outs → Evo h F h' F' → GrewI p q ls gs vs f x gs' vs' → K (.ret (I gs.length)) h') : R 13 [.ptr id 0, I f, .bool bit] h K := by
  have hf := b.few
  refine input13 b.at_ (by omega) fun h' F' b' e => ?_
  have hlen := b.good.vals.len
  have hk : (if bit = true then 1 else 0) ≤ 1 := by cases bit <;> decide
  refine hK h' F' _ (vs ++ [x]) b' e ⟨good_app b.good (.inp f _ h1 h2 hk) ?_ hxp ?_, fun i hi => ?_, by simp, ?_, fun g => ?_, ?_, by rw [nin_app, if_pos rfl]⟩
  · simp only [gval, if_true, Int.toNat_natCast]
    rw [List.getD_eq_getElem?_getD, hx]; rfl
  · intro f' k' he hk' ws hws w hw
    injection he with _ he2 _ _ he5
    have : f' = f := by omega
    subst this
    rw [List.getD_eq_getElem?_getD, hws, Option.getD_some, hw] at hx
    cases hx
    apply hb
    cases bit with
    | true => rfl
    | false => simp at he5; omega
  · rw [List.getD_eq_getElem?_getD, List.getElem?_append_left (by omega), List.getD_eq_getElem?_getD]
  · rw [muls_app]; simp
  · rw [cnt_app]
    by_cases hg : g = f
    · subst hg; simp
    · rw [if_neg hg, if_neg (fun h => hg (by have := h.2; simp only at this; omega))]
  · rw [← hlen, List.getD_eq_getElem?_getD, List.getElem?_append_right (Nat.le_refl _)]; simp

theorem fits_of (hg : Rgt p q ls gs vs) (hll : ls.length ≤ 100) (hc : ∀ f, 1 ≤ f → cnt gs f = (ls.getD (f - 1) []).length) (hlt : ∀ ws ∈ ls, ∀ w ∈ ws, w < p) : FitsC p gs ls := by
  refine ⟨hll, fun g hgm hk => ?_, fun j ws hw => ?_, hlt⟩
  · obtain ⟨i, hi⟩ := List.mem_iff_getElem?.1 hgm
    have ok := hg.gate i g hi
    cases ok with
    | inp f k e1 e2 e3 =>
      rcases Nat.lt_or_ge ls.length f with h1 | h1
      · exfalso
        have h2 := hc f e1
        rw [List.getD_eq_getElem?_getD, List.getElem?_eq_none (by omega)] at h2
        unfold cnt at h2
        have h3 := List.length_eq_zero_iff.1 (h2.trans rfl)
        rw [List.filter_eq_nil_iff] at h3
        exact h3 _ hgm (by simp)
      · simp only; omega
    | _ => simp at hk
  · have := hc (j + 1) (by omega)
    rw [this, Nat.add_sub_cancel, List.getD_eq_getElem?_getD, hw]; rfl

theorem BuAt.flt (b : BuAt h id F p gs outs) {j : Nat} (hj : F j) : j < h.next := by
  obtain ⟨⟨gv, ov, gid, oid, h1, h2, h3, h4, h5, h6, h7⟩, hid⟩ := b
  rcases (h7 j).1 hj with rfl | ⟨hg, rfl⟩ | ⟨ho, rfl⟩
  · exact hid
  · exact (h4 hg).1
  · exact (h5 ho).1

theorem tells_spec {v iv wv : V} (hw : WordsAt h wv xs) (hv : circF p gs outs v) (hg : Rgt p q ls gs vs) (hl : gs.length ≤ 20000) (ho : outs.length ≤ 1000) (hb : Bo gs vs outs xs) (hf : FitsC p gs ls) (hi : ListsAt h iv ls)
    (hK : ∀ h', h.next ≤ h'.next → (∀ j, j < h.next → h'.objs j = h.objs j) → K (.ret (.bool true)) h') : R 22 [v, iv, wv] h K := by
  have hv0 := hv
  have hcirc := hg.circ (outs := outs) hl ho hb.rng
  subst hv
  refine run22 (Nat.le_of_ble_eq_true rfl) ?_
  simp -dsimp -implicitDefEqProofs only [↓STP, STQ, ne_eq, implies_true, forall_const, if_false, if_true, reduceCtorEq, ↓reduceIte, Nat.reduceEqDiff, Nat.reduceAdd, Int.reduceEq, Int.reduceLT, Int.reduceLE, Int.reduceNeg, Int.reduceAdd, Int.reduceSub, Int.reduceMul, Int.reduceToNat, Nat.reduceMul, Nat.reduceSub, Nat.reduceLT, Nat.reduceLeDiff, circV, ir22, hi.out, hw.out]
  refine eval_spec hv0 hcirc hf hg.bits hi hg.vals fun h' e1 e2 => ?_
  simp -dsimp -implicitDefEqProofs only [↓STP, STQ, ne_eq, implies_true, forall_const, if_false, if_true, reduceCtorEq, ↓reduceIte, Nat.reduceEqDiff, Nat.reduceAdd, Int.reduceEq, Int.reduceLT, Int.reduceLE, Int.reduceNeg, Int.reduceAdd, Int.reduceSub, Int.reduceMul, Int.reduceToNat, Nat.reduceMul, Nat.reduceSub, Nat.reduceLT, Nat.reduceLeDiff, circV, hw.out]
  refine valid_spec hv0 hcirc ?_
  simp -dsimp -implicitDefEqProofs only [↓STP, STQ, ne_eq, implies_true, forall_const, if_false, if_true, reduceCtorEq, ↓reduceIte, Nat.reduceEqDiff, Nat.reduceAdd, Int.reduceEq, Int.reduceLT, Int.reduceLE, Int.reduceNeg, Int.reduceAdd, Int.reduceSub, Int.reduceMul, Int.reduceToNat, Nat.reduceMul, Nat.reduceSub, Nat.reduceLT, Nat.reduceLeDiff, hw.out]
  refine same05 (hw.frame e1 e2) (by unfold outVals; rw [List.length_map]; exact ho) fun r hr => ?_
  rw [hb.val] at hr
  have hr' : r = true := by rw [hr]; simp
  subst hr'
  simp -dsimp -implicitDefEqProofs only [↓STP, STQ, ne_eq, implies_true, forall_const, if_false, if_true, reduceCtorEq, ↓reduceIte, Nat.reduceEqDiff, Nat.reduceAdd, Int.reduceEq, Int.reduceLT, Int.reduceLE, Int.reduceNeg, Int.reduceAdd, Int.reduceSub, Int.reduceMul, Int.reduceToNat, Nat.reduceMul, Nat.reduceSub, Nat.reduceLT, Nat.reduceLeDiff]
  exact hK h' e1 e2

end
end Go.Ab.Ytgfnhkedfmnijaa
