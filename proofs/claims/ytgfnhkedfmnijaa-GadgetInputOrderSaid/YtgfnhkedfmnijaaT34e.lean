/- Chapter 34: the order of inputs. -/
import Derived.Test.YtgfnhkedfmnijaaT34a
set_option linter.unusedVariables false
set_option linter.unusedSimpArgs false
namespace Go.Ab.Ytgfnhkedfmnijaa

section
variable {h : H} {K : Out → H → Prop} {id p q : Nat} {F : Nat → Prop} {gs : List Gt} {vs : List Nat} {outs : List Int} {ls : List (List Nat)} {xs : List Nat}

/-- The words of party j + 1. -/
def preZ (zs : List (Nat × Nat)) (j : Nat) : List Nat := (zs.filter fun x => decide (x.1 % 13 = j)).map (·.2)
theorem preZ_snoc {zs : List (Nat × Nat)} {x : Nat × Nat} {j : Nat} : preZ (zs ++ [x]) j = preZ zs j ++ (if x.1 % 13 = j then [x.2] else []) := by
  unfold preZ
  rw [List.filter_append, List.map_append]
  congr 1
  by_cases h : x.1 % 13 = j <;> simp [h]
theorem preZ_get {zs : List (Nat × Nat)} {i : Nat} {x : Nat × Nat} (hx : zs[i]? = some x) : (preZ zs (x.1 % 13))[(preZ (zs.take i) (x.1 % 13)).length]? = some x.2 := by
  obtain ⟨hi, hx⟩ := List.getElem?_eq_some_iff.1 hx
  have e : zs.take i ++ x :: zs.drop (i + 1) = zs := by rw [← hx, List.getElem_cons_drop, List.take_append_drop]
  have : preZ zs (x.1 % 13) = preZ (zs.take i) (x.1 % 13) ++ x.2 :: preZ (zs.drop (i + 1)) (x.1 % 13) := by
    have e2 : preZ zs (x.1 % 13) = preZ (zs.take i ++ x :: zs.drop (i + 1)) (x.1 % 13) := by rw [e]
    rw [e2]
    unfold preZ
    rw [List.filter_append, List.map_append, List.filter_cons_of_pos (by simp), List.map_cons]
  rw [this, List.getElem?_append_right (Nat.le_refl _)]
  simp

def wcs (l : List Nat) : List (List V) := l.map fun w => [W w]

/-- The lists of the parties in the store, object 'L'. -/
structure Lst (h : H) (L : Nat) (F : Nat → Prop) (zs : List (Nat × Nat)) : Prop where
  ex : ∃ (c : Nat → V) (gi : Nat → Nat), h.get L = some (tab 13 c) ∧ (∀ j, j < 13 → Grow h 1 (wcs (preZ zs j)) (gi j) (c j)) ∧
    (∀ j, j < 13 → preZ zs j ≠ [] → gi j < h.next ∧ gi j ≠ L ∧ ¬ F (gi j)) ∧ (∀ j j', j < 13 → j' < 13 → j ≠ j' → preZ zs j ≠ [] → preZ zs j' ≠ [] → gi j ≠ gi j')
  lt : L < h.next
  nf : ¬ F L

theorem wcs_ne {l : List Nat} : wcs l ≠ [] ↔ l ≠ [] := by simp [wcs]

theorem Lst.frame {h h' : H} {L : Nat} {F F' : Nat → Prop} {zs : List (Nat × Nat)} (a : Lst h L F zs) (e : Evo h F h' F') : Lst h' L F' zs := by
  obtain ⟨⟨c, gi, h1, h2, h3, h4⟩, hl, hn⟩ := a
  refine ⟨⟨c, gi, ?_, fun j hj => (h2 j hj).frame fun hne => ?_, fun j hj hne => ?_, h4⟩, Nat.lt_of_lt_of_le hl e.1, (e.2 L hl hn).2⟩
  · unfold H.get at h1 ⊢; rw [(e.2 L hl hn).1]; exact h1
  · have := h3 j hj (wcs_ne.1 hne)
    exact (e.2 _ this.1 this.2.2).1
  · have := h3 j hj hne
    exact ⟨Nat.lt_of_lt_of_le this.1 e.1, this.2.1, (e.2 _ this.1 this.2.2).2⟩

/-- A word is put behind a party's list. -/
theorem Lst.put {h : H} {L : Nat} {zs : List (Nat × Nat)} {x : Nat × Nat} (a : Lst h L F zs) (hz : zs.length < 1000) (hfl : ∀ j, F j → j < h.next) :
    ∃ v : V, (∀ cs, h.get L = some cs → cs[x.1 % 13]? = some v) ∧ ∃ h' : H, (∀ (st : S) (s : Nat) (ag : Bool) (c2 : Cap), st.h = h → appV st s v (.vec [.int .u64 (x.2 : Int)] c2) 1 8 ag true = some (.ref h.next 0 ((preZ zs (x.1 % 13)).length + 1) 1, st.withH h')) ∧
      ∃ cs, h'.get L = some cs ∧ h.get L = some cs ∧ cs.length = 13 ∧ h'.next = h.next + 1 ∧ (∀ i, F i → h'.objs i = h.objs i) ∧
      ∀ h'', h''.next = h'.next → h''.get L = some (cs.set (x.1 % 13) (.ref h.next 0 ((preZ zs (x.1 % 13)).length + 1) 1)) → (∀ i, i ≠ L → h''.objs i = h'.objs i) → Lst h'' L F (zs ++ [x]) := by
  obtain ⟨⟨c, gi, h1, h2, h3, h4⟩, hl, hn⟩ := a
  have hj : x.1 % 13 < 13 := Nat.mod_lt _ (by decide)
  generalize hjj : x.1 % 13 = j at hj
  have hlen : (wcs (preZ zs j)).length < 1000000 := by
    unfold wcs preZ; rw [List.length_map, List.length_map]; have := List.length_filter_le (fun y : Nat × Nat => decide (y.1 % 13 = j)) zs; omega
  obtain ⟨h', e1, e2, e3, e4⟩ := grow_app (el := .int .u64 (x.2 : Int)) (bytes := 8) (h2 j hj) rfl (by decide) (by decide) hlen
  have hwl : (wcs (preZ zs j)).length = (preZ zs j).length := by simp [wcs]
  rw [hwl] at e1 e2
  have hLne : wcs (preZ zs j) ≠ [] → L ≠ gi j := fun hne => ((h3 j hj (wcs_ne.1 hne)).2.1).symm
  refine ⟨c j, fun cs hcs => ?_, h', e1, tab 13 c, ?_, h1, tab_len, e3, fun i hi => ?_, fun h'' n1 n2 n3 => ?_⟩
  · rw [h1] at hcs; cases hcs; exact tab_get hj
  · unfold H.get at h1 ⊢; rw [e4 L hl hLne]; exact h1
  · exact e4 i (hfl i hi) (fun hne h => (h3 j hj (wcs_ne.1 hne)).2.2 (h ▸ hi))
  · have hpre : ∀ j', preZ (zs ++ [x]) j' = preZ zs j' ++ (if j = j' then [x.2] else []) := fun j' => by rw [preZ_snoc, hjj]
    refine ⟨⟨fun i => if i = j then .ref h.next 0 ((preZ zs j).length + 1) 1 else c i, fun i => if i = j then h.next else gi i, ?_, fun j' hj' => ?_, fun j' hj' hne => ?_, fun j1 j2 hj1 hj2 hne p1 p2 => ?_⟩, by omega, hn⟩
    · rw [n2]; congr 1
      exact tab_set (fun i _ hi => if_neg hi) (fun _ => if_pos rfl)
    · rw [hpre]
      by_cases hjj' : j' = j
      · subst hjj'
        simp only [if_true]
        have : wcs (preZ zs j' ++ [x.2]) = wcs (preZ zs j') ++ [[V.int .u64 (x.2 : Int)]] := by simp [wcs]
        rw [this]
        exact e2.frame fun _ => n3 _ (by omega)
      · rw [if_neg (Ne.symm hjj'), List.append_nil]
        simp only [hjj', if_false]
        refine (h2 j' hj').frame fun hne => ?_
        have h5 := h3 j' hj' (wcs_ne.1 hne)
        rw [n3 _ h5.2.1]
        exact e4 _ h5.1 (fun hne2 => h4 j' j hj' hj hjj' (wcs_ne.1 hne) (wcs_ne.1 hne2))
    · by_cases hjj' : j' = j
      · subst hjj'
        simp only [if_true]
        exact ⟨by omega, by omega, fun hF => by have := hfl _ hF; omega⟩
      · simp only [hjj', if_false]
        rw [hpre, if_neg (Ne.symm hjj'), List.append_nil] at hne
        have h5 := h3 j' hj' hne
        exact ⟨by omega, h5.2⟩
    · rw [hpre] at p1 p2
      by_cases a1 : j1 = j
      · have a2 : j2 ≠ j := fun h => hne (a1.trans h.symm)
        simp only [a1, a2, if_true, if_false]
        rw [if_neg (Ne.symm a2), List.append_nil] at p2
        have := (h3 j2 hj2 p2).1
        omega
      · by_cases a2 : j2 = j
        · simp only [a1, a2, if_true, if_false]
          rw [if_neg (Ne.symm a1), List.append_nil] at p1
          have := (h3 j1 hj1 p1).1
          omega
        · simp only [a1, a2, if_false]
          rw [if_neg (Ne.symm a1), List.append_nil] at p1
          rw [if_neg (Ne.symm a2), List.append_nil] at p2
          exact h4 j1 j2 hj1 hj2 hne p1 p2


theorem Lst.init {h : H} {F : Nat → Prop} (hfl : ∀ j, F j → j < h.next) : Lst (h.new (.cells (List.replicate 13 [V.vec [] .full]).flatten)) h.next F [] := by
  refine ⟨⟨fun _ => .vec [] .full, fun _ => 0, ?_, fun j hj => ⟨by simp [wcs, preZ], .inl ⟨by simp [wcs, preZ], rfl⟩⟩, fun j hj hne => absurd rfl hne, fun j j' hj hj' hne h1 => absurd rfl h1⟩, Nat.lt_succ_self _, fun hF => absurd (hfl _ hF) (Nat.lt_irrefl _)⟩
  rw [get_new, tab_const]

def lz (zs : List (Nat × Nat)) : List (List Nat) := (List.range 13).map (preZ zs)

theorem lz_get {zs : List (Nat × Nat)} {j : Nat} (hj : j < 13) : (lz zs)[j]? = some (preZ zs j) := by
  unfold lz; rw [List.getElem?_map, List.getElem?_range hj]; rfl

theorem Lst.lists {h : H} {L : Nat} {zs : List (Nat × Nat)} (a : Lst h L F zs) : ListsAt h (.ref L 0 13 1) (lz zs) := by
  obtain ⟨⟨c, gi, h1, h2, h3, h4⟩, hl, hn⟩ := a
  refine ⟨tab 13 c, by simp [lz, tab_len], fun i x ws hx hw => ?_, .inr ⟨L, hl, by rw [tab_len], h1⟩⟩
  have hi : i < 13 := by
    rcases Nat.lt_or_ge i 13 with h | h
    · exact h
    · rw [List.getElem?_eq_none (by rw [tab_len]; exact h)] at hx; cases hx
  rw [tab_get hi] at hx
  rw [lz_get hi] at hw
  cases hx; cases hw
  rcases (h2 i hi).2 with ⟨g1, g2⟩ | ⟨g1, g2, g3⟩
  · have : preZ zs i = [] := by simpa [wcs] using g1
    exact .inl ⟨.full, rfl, by rw [g2, this]; rfl⟩
  · refine .inr ⟨gi i, (h3 i hi (wcs_ne.1 g1)).1, by rw [g2]; simp [wcs], ?_⟩
    rw [g3]
    congr 1
    unfold wcs Ws
    generalize preZ zs i = l
    induction l with
    | nil => rfl
    | cons y l ih => rw [List.map_cons, List.flatten_cons, ih]; rfl

def From (zs : List (Nat × Nat)) : List V := zs.map fun z => .int .u8 (z.1 : Int)

/-- The loop that makes the inputs. -/
structure OrdSt (id L p q : Nat) (zs : List (Nat × Nat)) (i : Nat) (h : H) (F : Nat → Prop) (gs : List Gt) (vs : List Nat) (outs : List Int) (last : Nat) : Prop where
  bu : BuAt h id F p gs outs
  lst : Lst h L F (zs.take i)
  good : Rgt p q (lz zs) gs vs
  len : gs.length = 1 + 4 * i
  lt : last < gs.length
  bo : Bo gs vs outs ((zs.take i).map (·.2))
  ol : outs.length = i
  inp : ∀ f, cnt gs f = if 1 ≤ f ∧ f ≤ 13 then (preZ (zs.take i) (f - 1)).length else 0
  ins : nin gs = i

def InvOrd (id L p q : Nat) (zs : List (Nat × Nat)) (k : Nat) (st : S) : Prop :=
  ∃ (i : Nat) (h : H) (F : Nat → Prop) (gs : List Gt) (vs : List Nat) (outs : List Int) (last : Nat), k = zs.length - i ∧ i ≤ zs.length ∧ OrdSt id L p q zs i h F gs vs outs last ∧
    st = ⟨upd (upd (upd (upd (upd (upd ρ0 1 (.vec (From zs) .any)) 2 (.vec (Ws (zs.map (·.2))) .any)) 7 (.ptr id 0)) 8 (.ref L 0 13 1)) 9 (I last)) 10 (I i), m0, 0, [], h⟩

def InvNin (L p : Nat) (zs : List (Nat × Nat)) (gs : List Gt) (outs : List Int) (c1 c2 : Cap) (h : H) (k : Nat) (st : S) : Prop :=
  ∃ i : Nat, k = gs.length - i ∧ i ≤ gs.length ∧ st = ⟨upd (upd (upd (upd (upd (upd ρ0 1 (.vec (From zs) .any)) 2 (.vec (Ws (zs.map (·.2))) .any)) 8 (.ref L 0 13 1)) 13 (.lptr 0 3 0)) 14 (I (nin (gs.take i)))) 15 (I i), upd m0 0 (some (cbox p gs outs c1 c2)), 1, [], h⟩

theorem nin_le {gs : List Gt} {i : Nat} : nin (gs.take i) ≤ i := by
  unfold nin
  exact Nat.le_trans (List.length_filter_le _ _) (by simp; omega)

def InvBelow (p : Nat) (l : List Nat) (c : Cap) (h : H) (k : Nat) (st : S) : Prop :=
  ∃ i : Nat, k = l.length - i ∧ i ≤ l.length ∧ (∀ w ∈ l.take i, w < p) ∧ st = ⟨upd (upd (upd ρ0 0 (W p)) 1 (.vec (Ws l) c)) 5 (I i), m0, 0, [], h⟩

theorem below_spec {l : List Nat} {c : Cap} (hc : c.shared = true) (hl : l.length ≤ 1000) (h1 : (∀ w ∈ l, w < p) → K (.ret (.bool true)) h) (h2 : K (.ret (.bool false)) h) : R 24 [W p, .vec (Ws l) c] h K := by
  refine run24 (Nat.le_of_ble_eq_true rfl) ?_
  simp -dsimp -implicitDefEqProofs only [↓STP, STQ, ne_eq, implies_true, forall_const, if_false, if_true, reduceCtorEq, ↓reduceIte, Nat.reduceEqDiff, Nat.reduceAdd, Int.reduceEq, Int.reduceLT, Int.reduceLE, Int.reduceNeg, Int.reduceAdd, Int.reduceSub, Int.reduceMul, Int.reduceToNat, Nat.reduceMul, Nat.reduceSub, Nat.reduceLT, Nat.reduceLeDiff, ir24]
  refine codeT_loop (InvBelow p l c h) (i := l.length) ⟨0, by omega, by omega, by simp, by simp -dsimp -implicitDefEqProofs only [↓STP, STQ, ne_eq, implies_true, forall_const, if_false, if_true, reduceCtorEq, ↓reduceIte, Nat.reduceEqDiff, Nat.reduceAdd, Int.reduceEq, Int.reduceLT, Int.reduceLE, Int.reduceNeg, Int.reduceAdd, Int.reduceSub, Int.reduceMul, Int.reduceToNat, Nat.reduceMul, Nat.reduceSub, Nat.reduceLT, Nat.reduceLeDiff, hc] <;> rfl⟩ ?_ mono
  rintro k st ⟨i, rfl, hi, htk, rfl⟩
  by_cases hlt : i < l.length
  · have hx : (Ws l)[i]? = some (W l[i]) := by rw [Ws_get, List.getElem?_eq_getElem hlt]; rfl
    by_cases he : (p : Int) ≤ l[i]
    · simp -dsimp -implicitDefEqProofs only [↓STP, STQ, ne_eq, implies_true, forall_const, if_false, if_true, reduceCtorEq, ↓reduceIte, Nat.reduceEqDiff, Nat.reduceAdd, Int.reduceEq, Int.reduceLT, Int.reduceLE, Int.reduceNeg, Int.reduceAdd, Int.reduceSub, Int.reduceMul, Int.reduceToNat, Nat.reduceMul, Nat.reduceSub, Nat.reduceLT, Nat.reduceLeDiff, Ws_length, Int.ofNat_lt, hlt, hx, eq_true he, hc]
      exact h2
    · simp -dsimp -implicitDefEqProofs only [↓STP, STQ, ne_eq, implies_true, forall_const, if_false, if_true, reduceCtorEq, ↓reduceIte, Nat.reduceEqDiff, Nat.reduceAdd, Int.reduceEq, Int.reduceLT, Int.reduceLE, Int.reduceNeg, Int.reduceAdd, Int.reduceSub, Int.reduceMul, Int.reduceToNat, Nat.reduceMul, Nat.reduceSub, Nat.reduceLT, Nat.reduceLeDiff, Ws_length, Int.ofNat_lt, hlt, hx, eq_false he, hc]
      refine ⟨_, ?_, i + 1, rfl, by omega, ?_, ?_⟩
      · omega
      · rw [List.take_add_one, List.getElem?_eq_getElem hlt]
        intro w hw
        rcases List.mem_append.1 hw with hw | hw
        · exact htk w hw
        · simp at hw; subst hw; omega
      · rw [wrap_i64 (by omega) (by omega)]; rfl
  · simp -dsimp -implicitDefEqProofs only [↓STP, STQ, ne_eq, implies_true, forall_const, if_false, if_true, reduceCtorEq, ↓reduceIte, Nat.reduceEqDiff, Nat.reduceAdd, Int.reduceEq, Int.reduceLT, Int.reduceLE, Int.reduceNeg, Int.reduceAdd, Int.reduceSub, Int.reduceMul, Int.reduceToNat, Nat.reduceMul, Nat.reduceSub, Nat.reduceLT, Nat.reduceLeDiff, Ws_length, Int.ofNat_lt, hlt]
    rw [List.take_of_length_le (by omega)] at htk
    exact h1 htk

set_option maxHeartbeats 2000000 in
theorem law34_4 {p : Nat} {zs : List (Nat × Nat)} (hp : p < 18446744073709551616) (hz : ∀ z ∈ zs, z.1 < 256 ∧ z.2 < 18446744073709551616) (h20 : zs.length ≤ 20) :
    R 4 [W p, .vec (From zs) .any, .vec (Ws (zs.map (·.2))) .any] h (fun o _ => o = .ret (.bool true)) := by
  have hfl : ((From zs).length : Int) ≤ 20 := by unfold From; rw [List.length_map]; omega
  have hwl : (Ws (zs.map (·.2))).length = (From zs).length := by simp [From, Ws_length]
  refine run4 (Nat.le_of_ble_eq_true rfl) ?_
  simp -dsimp -implicitDefEqProofs only [↓STP, STQ, ne_eq, implies_true, forall_const, if_false, if_true, reduceCtorEq, ↓reduceIte, Nat.reduceEqDiff, Nat.reduceAdd, Int.reduceEq, Int.reduceLT, Int.reduceLE, Int.reduceNeg, Int.reduceAdd, Int.reduceSub, Int.reduceMul, Int.reduceToNat, Nat.reduceMul, Nat.reduceSub, Nat.reduceLT, Nat.reduceLeDiff, ir4]
  refine awake10 fun ha _ _ => ?_
  simp -dsimp -implicitDefEqProofs only [↓STP, STQ, ne_eq, implies_true, forall_const, if_false, if_true, reduceCtorEq, ↓reduceIte, Nat.reduceEqDiff, Nat.reduceAdd, Int.reduceEq, Int.reduceLT, Int.reduceLE, Int.reduceNeg, Int.reduceAdd, Int.reduceSub, Int.reduceMul, Int.reduceToNat, Nat.reduceMul, Nat.reduceSub, Nat.reduceLT, Nat.reduceLeDiff]
  refine supported_spec hp (fun hs => ?_) (fun hs => ?_)
  rotate_left
  · simp -dsimp -implicitDefEqProofs only [↓STP, STQ, ne_eq, implies_true, forall_const, if_false, if_true, reduceCtorEq, ↓reduceIte, Nat.reduceEqDiff, Nat.reduceAdd, Int.reduceEq, Int.reduceLT, Int.reduceLE, Int.reduceNeg, Int.reduceAdd, Int.reduceSub, Int.reduceMul, Int.reduceToNat, Nat.reduceMul, Nat.reduceSub, Nat.reduceLT, Nat.reduceLeDiff]
  obtain ⟨q, hs⟩ := hs
  simp -dsimp -implicitDefEqProofs only [↓STP, STQ, ne_eq, implies_true, forall_const, if_false, if_true, reduceCtorEq, ↓reduceIte, Nat.reduceEqDiff, Nat.reduceAdd, Int.reduceEq, Int.reduceLT, Int.reduceLE, Int.reduceNeg, Int.reduceAdd, Int.reduceSub, Int.reduceMul, Int.reduceToNat, Nat.reduceMul, Nat.reduceSub, Nat.reduceLT, Nat.reduceLeDiff, eq_false (show ¬ (20 : Int) < ((From zs).length : Int) by omega), hwl]
  refine below_spec rfl (by simp; omega) (fun hbl => ?_) ?_
  rotate_left
  · simp -dsimp -implicitDefEqProofs only [↓STP, STQ, ne_eq, implies_true, forall_const, if_false, if_true, reduceCtorEq, ↓reduceIte, Nat.reduceEqDiff, Nat.reduceAdd, Int.reduceEq, Int.reduceLT, Int.reduceLE, Int.reduceNeg, Int.reduceAdd, Int.reduceSub, Int.reduceMul, Int.reduceToNat, Nat.reduceMul, Nat.reduceSub, Nat.reduceLT, Nat.reduceLeDiff]
  simp -dsimp -implicitDefEqProofs only [↓STP, STQ, ne_eq, implies_true, forall_const, if_false, if_true, reduceCtorEq, ↓reduceIte, Nat.reduceEqDiff, Nat.reduceAdd, Int.reduceEq, Int.reduceLT, Int.reduceLE, Int.reduceNeg, Int.reduceAdd, Int.reduceSub, Int.reduceMul, Int.reduceToNat, Nat.reduceMul, Nat.reduceSub, Nat.reduceLT, Nat.reduceLeDiff]
  refine new12 (p := p) fun hA FA bA oA nA => ?_
  have m13 : mksN (.int .i64 13) (.int .i64 13) 1 24 = some 13 := mksN_ok (n := 13) (by decide) (by decide) (by decide)
  simp -dsimp -implicitDefEqProofs only [↓STP, STQ, ne_eq, implies_true, forall_const, if_false, if_true, reduceCtorEq, ↓reduceIte, Nat.reduceEqDiff, Nat.reduceAdd, Int.reduceEq, Int.reduceLT, Int.reduceLE, Int.reduceNeg, Int.reduceAdd, Int.reduceSub, Int.reduceMul, Int.reduceToNat, Nat.reduceMul, Nat.reduceSub, Nat.reduceLT, Nat.reduceLeDiff, m13]
  have bB : BuAt (hA.new (.cells (List.replicate 13 [V.vec [] .full]).flatten)) ha.next FA p [] [] := bA.frame (Nat.le_succ _) (fun j hj _ => by simp [H.new, upd, Nat.ne_of_lt hj])
  have g0 : Rgt p q (lz zs) [] [] := good_nil hs
  have lB : Lst _ hA.next FA [] := Lst.init (h := hA) (F := FA) (fun j hj => bA.flt hj)
  have hp0 := g0.p0
  refine const_g (k := 0) ⟨bB, g0, by simp⟩ hp0.1 fun h1 F1 g1 v1 i1 b1 e1 w1 k1 x1 => ?_
  simp -dsimp -implicitDefEqProofs only [↓STP, STQ, ne_eq, implies_true, forall_const, if_false, if_true, reduceCtorEq, ↓reduceIte, Nat.reduceEqDiff, Nat.reduceAdd, Int.reduceEq, Int.reduceLT, Int.reduceLE, Int.reduceNeg, Int.reduceAdd, Int.reduceSub, Int.reduceMul, Int.reduceToNat, Nat.reduceMul, Nat.reduceSub, Nat.reduceLT, Nat.reduceLeDiff]
  have o1 : OrdSt ha.next hA.next p q zs 0 h1 F1 g1 v1 [] i1 := ⟨b1, by rw [List.take_zero]; exact lB.frame e1, w1.good, by rw [w1.len]; rfl, k1, Bo.nil, rfl, fun f => by rw [w1.inp]; simp [cnt, preZ], by rw [w1.nin]; rfl⟩
  refine codeT_loop (InvOrd ha.next hA.next p q zs) (i := zs.length) ⟨0, h1, F1, g1, v1, [], i1, rfl, by omega, o1, by simp -dsimp -implicitDefEqProofs only [↓STP, STQ, ne_eq, implies_true, forall_const, if_false, if_true, reduceCtorEq, ↓reduceIte, Nat.reduceEqDiff, Nat.reduceAdd, Int.reduceEq, Int.reduceLT, Int.reduceLE, Int.reduceNeg, Int.reduceAdd, Int.reduceSub, Int.reduceMul, Int.reduceToNat, Nat.reduceMul, Nat.reduceSub, Nat.reduceLT, Nat.reduceLeDiff] <;> rfl⟩ ?_ mono
  rintro k st ⟨i, h2, F2, g2, v2, outs, last, rfl, hi, o2, rfl⟩
  have hln := o2.len
  have fl : (From zs).length = zs.length := by simp [From]
  by_cases hlt : i < zs.length
  · rcases hzi : zs[i] with ⟨zf, zw⟩
    have hz2 := hz _ (List.getElem_mem hlt)
    rw [hzi] at hz2
    have hzz : zs[i]? = some (zf, zw) := by rw [List.getElem?_eq_getElem hlt, hzi]
    have hx : (From zs)[i]? = some (.int .u8 (zf : Int)) := by unfold From; rw [List.getElem?_map, hzz]; rfl
    have hy : (Ws (zs.map (·.2)))[i]? = some (W zw) := by rw [Ws_get, List.getElem?_map, hzz]; rfl
    have hm : Int.tmod (zf : Int) 13 = ((zf % 13 : Nat) : Int) := rfl
    have w0 : IntKind.i64.wrap (zf : Int) = (zf : Int) := by rw [wrap_i64] <;> omega
    have w1 : IntKind.i64.wrap (1 + ((zf % 13 : Nat) : Int)) = ((zf % 13 + 1 : Nat) : Int) := by rw [wrap_i64] <;> omega
    have w2 : IntKind.i64.wrap (((zf % 13 + 1 : Nat) : Int) - 1) = ((zf % 13 : Nat) : Int) := by rw [wrap_i64] <;> omega
    have w3 : IntKind.i64.wrap ((i : Int) + 1) = ((i + 1 : Nat) : Int) := by rw [wrap_i64] <;> omega
    have hbw : zw < p := hbl zw (List.mem_map.2 ⟨(zf, zw), List.mem_of_getElem? hzz, rfl⟩)
    have hmod : zf % 13 < 13 := Nat.mod_lt _ (by decide)
    have hget : ((lz zs).getD (zf % 13 + 1 - 1) [])[cnt g2 (zf % 13 + 1)]? = some zw := by
      rw [o2.inp, if_pos ⟨by omega, by omega⟩, Nat.add_sub_cancel, List.getD_eq_getElem?_getD, lz_get hmod]
      exact preZ_get hzz
    simp -dsimp -implicitDefEqProofs only [↓STP, STQ, ne_eq, implies_true, forall_const, if_false, if_true, reduceCtorEq, ↓reduceIte, Nat.reduceEqDiff, Nat.reduceAdd, Int.reduceEq, Int.reduceLT, Int.reduceLE, Int.reduceNeg, Int.reduceAdd, Int.reduceSub, Int.reduceMul, Int.reduceToNat, Nat.reduceMul, Nat.reduceSub, Nat.reduceLT, Nat.reduceLeDiff, fl, Int.ofNat_lt, hlt, hx, hm, w0, w1]
    refine input_g (bit := false) (f := zf % 13 + 1) (x := zw) ⟨o2.bu, o2.good, by omega⟩ (by omega) (by omega) hget hbw (by simp) fun h3 F3 g3 v3 b3 e3 n3 => ?_
    have l3 := n3.len
    have k2 := o2.lt
    simp -dsimp -implicitDefEqProofs only [↓STP, STQ, ne_eq, implies_true, forall_const, if_false, if_true, reduceCtorEq, ↓reduceIte, Nat.reduceEqDiff, Nat.reduceAdd, Int.reduceEq, Int.reduceLT, Int.reduceLE, Int.reduceNeg, Int.reduceAdd, Int.reduceSub, Int.reduceMul, Int.reduceToNat, Nat.reduceMul, Nat.reduceSub, Nat.reduceLT, Nat.reduceLeDiff]
    refine add_g (x := last) (y := g2.length) ⟨b3, n3.good, by omega⟩ (by omega) (by omega) fun h4 F4 g4 v4 i4 b4 e4 n4 k4 x4 => ?_
    have l4 := n4.len
    simp -dsimp -implicitDefEqProofs only [↓STP, STQ, ne_eq, implies_true, forall_const, if_false, if_true, reduceCtorEq, ↓reduceIte, Nat.reduceEqDiff, Nat.reduceAdd, Int.reduceEq, Int.reduceLT, Int.reduceLE, Int.reduceNeg, Int.reduceAdd, Int.reduceSub, Int.reduceMul, Int.reduceToNat, Nat.reduceMul, Nat.reduceSub, Nat.reduceLT, Nat.reduceLeDiff]
    refine const_g (k := 1) ⟨b4, n4.good, by omega⟩ (by rcases hs with ⟨rfl, _⟩ | ⟨rfl, _⟩ | ⟨rfl, _⟩ | ⟨rfl, _⟩ | ⟨rfl, _⟩ | ⟨rfl, _⟩ | ⟨rfl, _⟩ <;> decide) fun h5 F5 g5 v5 i5 b5 e5 n5 k5 x5 => ?_
    have l5 := n5.len
    simp -dsimp -implicitDefEqProofs only [↓STP, STQ, ne_eq, implies_true, forall_const, if_false, if_true, reduceCtorEq, ↓reduceIte, Nat.reduceEqDiff, Nat.reduceAdd, Int.reduceEq, Int.reduceLT, Int.reduceLE, Int.reduceNeg, Int.reduceAdd, Int.reduceSub, Int.reduceMul, Int.reduceToNat, Nat.reduceMul, Nat.reduceSub, Nat.reduceLT, Nat.reduceLeDiff]
    refine mul_g (x := i4) (y := i5) ⟨b5, n5.good, by omega⟩ (by omega) (by omega) fun h6 F6 g6 v6 i6 b6 e6 n6 k6 x6 => ?_
    have l6 := n6.len
    simp -dsimp -implicitDefEqProofs only [↓STP, STQ, ne_eq, implies_true, forall_const, if_false, if_true, reduceCtorEq, ↓reduceIte, Nat.reduceEqDiff, Nat.reduceAdd, Int.reduceEq, Int.reduceLT, Int.reduceLE, Int.reduceNeg, Int.reduceAdd, Int.reduceSub, Int.reduceMul, Int.reduceToNat, Nat.reduceMul, Nat.reduceSub, Nat.reduceLT, Nat.reduceLeDiff]
    have ho2 := o2.ol
    refine output14 (x := ((g2.length : Nat) : Int)) b6 (by omega) fun h7 F7 b7 e7 => ?_
    have ev := (((e3.trans e4).trans e5).trans e6).trans e7
    have ls7 := o2.lst.frame ev
    obtain ⟨lv, p1, h8, p2, cs, p3, p4, p5, p6, p7, p8⟩ := ls7.put (x := (zf, zw)) (by rw [List.length_take]; omega) (fun j hj => b7.flt hj)
    have p9 : cs[zf % 13]? = some lv := p1 cs p4
    have p10 : zf % 13 < cs.length := by omega
    have hm13 : ((zf % 13 : Nat) : Int) < 13 := by omega
    simp -dsimp -implicitDefEqProofs only [↓STP, STQ, ne_eq, implies_true, forall_const, if_false, if_true, reduceCtorEq, ↓reduceIte, Nat.reduceEqDiff, Nat.reduceAdd, Int.reduceEq, Int.reduceLT, Int.reduceLE, Int.reduceNeg, Int.reduceAdd, Int.reduceSub, Int.reduceMul, Int.reduceToNat, Nat.reduceMul, Nat.reduceSub, Nat.reduceLT, Nat.reduceLeDiff, hy, w2, p4, p9, eq_true hm13, Nat.mul_one, Int.ofNat_lt, hlt]
    rw [p2 _ _ _ _ rfl]
    simp -dsimp -implicitDefEqProofs only [↓STP, STQ, ne_eq, implies_true, forall_const, if_false, if_true, reduceCtorEq, ↓reduceIte, Nat.reduceEqDiff, Nat.reduceAdd, Int.reduceEq, Int.reduceLT, Int.reduceLE, Int.reduceNeg, Int.reduceAdd, Int.reduceSub, Int.reduceMul, Int.reduceToNat, Nat.reduceMul, Nat.reduceSub, Nat.reduceLT, Nat.reduceLeDiff, hy, w2, p3, eq_true hm13, Nat.mul_one, storeV, w3, eq_true (show zf % 13 + 1 ≤ cs.length by omega), over_one p10]
    have hov := over_one (v := V.ref h7.next 0 ((preZ (List.take i zs) (zf % 13)).length + 1) 1) p10
    simp only [over, List.length_cons, List.length_nil, Nat.zero_add] at hov
    rw [hov]
    have htk : zs.take (i + 1) = zs.take i ++ [(zf, zw)] := by rw [List.take_add_one, hzz]; rfl
    refine ⟨_, ?_, i + 1, _, F7, g6, v6, _, i6, rfl, by omega, ⟨b7.frame ?_ (fun j hj hF => ?_), ?_, n6.good, by omega, k6, ?_, ?_, fun f => ?_, ?_⟩, rfl⟩
    · omega
    · rw [next_set, p6]; exact Nat.le_succ _
    · have : j ≠ hA.next := fun h => ls7.nf (h ▸ hF)
      rw [show (h8.set hA.next _).objs j = h8.objs j by simp [H.set, upd, this]]
      exact p7 j hF
    · rw [htk]
      exact p8 _ (next_set ..) get_set (fun j hj => by simp [H.set, upd, hj])
    · rw [htk, List.map_append]
      refine ((((o2.bo.keep (by omega) n3.pre).grow n4).grow n5).grow n6).snoc (i := g2.length) (by omega) ?_
      rw [n6.pre _ (by omega), n5.pre _ (by omega), n4.pre _ (by omega)]
      exact n3.val
    · rw [List.length_append, ho2]; rfl
    · rw [n6.inp, n5.inp, n4.inp, n3.inp, o2.inp, htk]
      by_cases hf : 1 ≤ f ∧ f ≤ 13
      · rw [if_pos hf, if_pos hf, preZ_snoc, List.length_append]
        congr 1
        by_cases hf2 : f = zf % 13 + 1
        · rw [if_pos hf2, if_pos (by omega)]; rfl
        · rw [if_neg hf2, if_neg (by omega)]; rfl
      · rw [if_neg hf, if_neg hf, if_neg (by omega)]
    · rw [n6.nin, n5.nin, n4.nin, n3.nin, o2.ins]
  · have hie : i = zs.length := by omega
    subst hie
    have ho2 := o2.ol
    have hin : zs.take zs.length = zs := List.take_length
    have olst := o2.lst
    have obo := o2.bo
    have oinp := o2.inp
    rw [hin] at olst obo
    simp -dsimp -implicitDefEqProofs only [↓STP, STQ, ne_eq, implies_true, forall_const, if_false, if_true, reduceCtorEq, ↓reduceIte, Nat.reduceEqDiff, Nat.reduceAdd, Int.reduceEq, Int.reduceLT, Int.reduceLE, Int.reduceNeg, Int.reduceAdd, Int.reduceSub, Int.reduceMul, Int.reduceToNat, Nat.reduceMul, Nat.reduceSub, Nat.reduceLT, Nat.reduceLeDiff, fl, Int.ofNat_lt, hlt]
    refine circuit23 o2.bu (by omega) (by omega) fun v hv => ?_
    have hv0 := hv
    obtain ⟨q1, q2, hq1, hq2, rfl⟩ := hv
    simp -dsimp -implicitDefEqProofs only [↓STP, STQ, ne_eq, implies_true, forall_const, if_false, if_true, reduceCtorEq, ↓reduceIte, Nat.reduceEqDiff, Nat.reduceAdd, Int.reduceEq, Int.reduceLT, Int.reduceLE, Int.reduceNeg, Int.reduceAdd, Int.reduceSub, Int.reduceMul, Int.reduceToNat, Nat.reduceMul, Nat.reduceSub, Nat.reduceLT, Nat.reduceLeDiff, out_sh hq1, out_sh hq2, storeV]
    refine codeT_loop (InvNin hA.next p zs g2 outs q1 q2 h2) (i := g2.length) ⟨0, by omega, by omega, by simp -dsimp -implicitDefEqProofs only [↓STP, STQ, ne_eq, implies_true, forall_const, if_false, if_true, reduceCtorEq, ↓reduceIte, Nat.reduceEqDiff, Nat.reduceAdd, Int.reduceEq, Int.reduceLT, Int.reduceLE, Int.reduceNeg, Int.reduceAdd, Int.reduceSub, Int.reduceMul, Int.reduceToNat, Nat.reduceMul, Nat.reduceSub, Nat.reduceLT, Nat.reduceLeDiff, hq1, hq2, cbox] <;> rfl⟩ ?_ mono
    rintro k st ⟨i, rfl, hi, rfl⟩
    by_cases hlt : i < g2.length
    · have hget : (g2.map Gt.v)[i]? = some g2[i].v := by rw [List.getElem?_map, List.getElem?_eq_getElem hlt]; rfl
      have hms : nin (g2.take (i + 1)) = nin (g2.take i) + if g2[i].kind = 1 then 1 else 0 := by
        rw [List.take_add_one, List.getElem?_eq_getElem hlt]; exact nin_app
      have hcl := nin_le (gs := g2) (i := i)
      have w1 : IntKind.i64.wrap ((i : Int) + 1) = ((i + 1 : Nat) : Int) := by rw [wrap_i64] <;> omega
      have w2 : IntKind.i64.wrap ((nin (g2.take i) : Int) + 1) = ((nin (g2.take i) + 1 : Nat) : Int) := by rw [wrap_i64] <;> omega
      by_cases e1 : g2[i].kind = 1
      · simp -dsimp -implicitDefEqProofs only [↓STP, STQ, ne_eq, implies_true, forall_const, if_false, if_true, reduceCtorEq, ↓reduceIte, Nat.reduceEqDiff, Nat.reduceAdd, Int.reduceEq, Int.reduceLT, Int.reduceLE, Int.reduceNeg, Int.reduceAdd, Int.reduceSub, Int.reduceMul, Int.reduceToNat, Nat.reduceMul, Nat.reduceSub, Nat.reduceLT, Nat.reduceLeDiff, cbox, List.length_map, Int.ofNat_lt, hlt, hget, Gt.v, Gt.cells, eq_true e1, w1, w2, hq1, hq2]
        refine ⟨_, by omega, i + 1, rfl, by omega, ?_⟩
        rw [hms, if_pos e1]; rfl
      · simp -dsimp -implicitDefEqProofs only [↓STP, STQ, ne_eq, implies_true, forall_const, if_false, if_true, reduceCtorEq, ↓reduceIte, Nat.reduceEqDiff, Nat.reduceAdd, Int.reduceEq, Int.reduceLT, Int.reduceLE, Int.reduceNeg, Int.reduceAdd, Int.reduceSub, Int.reduceMul, Int.reduceToNat, Nat.reduceMul, Nat.reduceSub, Nat.reduceLT, Nat.reduceLeDiff, cbox, List.length_map, Int.ofNat_lt, hlt, hget, Gt.v, Gt.cells, eq_false e1, w1, hq1, hq2]
        refine ⟨_, by omega, i + 1, rfl, by omega, ?_⟩
        rw [hms, if_neg e1]; rfl
    · rw [List.take_of_length_le (by omega), o2.ins]
      simp -dsimp -implicitDefEqProofs only [↓STP, STQ, ne_eq, implies_true, forall_const, if_false, if_true, reduceCtorEq, ↓reduceIte, Nat.reduceEqDiff, Nat.reduceAdd, Int.reduceEq, Int.reduceLT, Int.reduceLE, Int.reduceNeg, Int.reduceAdd, Int.reduceSub, Int.reduceMul, Int.reduceToNat, Nat.reduceMul, Nat.reduceSub, Nat.reduceLT, Nat.reduceLeDiff, cbox, List.length_map, Int.ofNat_lt, hlt, fl, out_sh hq1, out_sh hq2]
      have hfit : FitsC p g2 (lz zs) := by
        refine fits_of o2.good (by simp [lz]) (fun f hf => ?_) (fun ws hws w hw => ?_)
        · rw [oinp, hin]
          by_cases h13 : f ≤ 13
          · rw [if_pos ⟨hf, h13⟩, List.getD_eq_getElem?_getD, lz_get (by omega)]; rfl
          · rw [if_neg (by omega), List.getD_eq_getElem?_getD, List.getElem?_eq_none (by simp [lz]; omega)]; rfl
        · obtain ⟨j, _, rfl⟩ := List.mem_map.1 hws
          obtain ⟨z, hz1, rfl⟩ := List.mem_map.1 hw
          exact hbl z.2 (List.mem_map.2 ⟨z, (List.mem_filter.1 hz1).1, rfl⟩)
      refine tells_spec (c := .any) (xs := zs.map (·.2)) rfl hv0 o2.good (by omega) (by omega) obo hfit olst.lists fun h' _ _ => ?_
      simp -dsimp -implicitDefEqProofs only [↓STP, STQ, ne_eq, implies_true, forall_const, if_false, if_true, reduceCtorEq, ↓reduceIte, Nat.reduceEqDiff, Nat.reduceAdd, Int.reduceEq, Int.reduceLT, Int.reduceLE, Int.reduceNeg, Int.reduceAdd, Int.reduceSub, Int.reduceMul, Int.reduceToNat, Nat.reduceMul, Nat.reduceSub, Nat.reduceLT, Nat.reduceLeDiff]

theorem law34_4all {p : Nat} {l : List Int} {ws : List Nat} (hp : p < 18446744073709551616) (hl : ∀ n ∈ l, (Lit.int .u8 n).wf = true) (hw : ∀ w ∈ ws, w < 18446744073709551616) (hl2 : l.length ≤ maxLen) (hw2 : ws.length ≤ maxLen) :
    R 4 [W p, .vec (Ns .u8 l) .any, .vec (Ws ws) .any] h (fun o _ => o = .ret (.bool true)) := by
  by_cases h20 : l.length ≤ 20
  · by_cases he : l.length = ws.length
    · have hm : ∀ (l : List Int) (ws : List Nat), l.length = ws.length → (∀ n ∈ l, (Lit.int .u8 n).wf = true) → ∃ zs : List (Nat × Nat), Ns .u8 l = From zs ∧ ws = zs.map (·.2) ∧ (∀ z ∈ zs, z.1 < 256) := by
        intro l
        induction l with
        | nil => intro ws h _; exact ⟨[], rfl, by cases ws with | nil => rfl | cons => simp at h, by simp⟩
        | cons a l ih =>
          intro ws h hl
          match ws, h with
          | w :: ws, h =>
            obtain ⟨zs, e1, e2, e3⟩ := ih ws (by simpa using h) (fun n hn => hl n (by simp [hn]))
            obtain ⟨m, rfl, hm⟩ := wf_u8 (hl a (by simp))
            refine ⟨(m, w) :: zs, ?_, by rw [List.map_cons, ← e2], fun z hz => ?_⟩
            · unfold Ns From at e1 ⊢; rw [List.map_cons, List.map_cons, e1]
            · rcases List.mem_cons.1 hz with rfl | hz
              · exact hm
              · exact e3 z hz
      obtain ⟨zs, e1, e2, e3⟩ := hm l ws he hl
      rw [e1, e2]
      have hlen : zs.length = ws.length := by rw [e2, List.length_map]
      exact law34_4 hp (fun z hz => ⟨e3 z hz, hw _ (by rw [e2]; exact List.mem_map.2 ⟨z, hz, rfl⟩)⟩) (by omega)
    · refine run4 (Nat.le_of_ble_eq_true rfl) ?_
      simp -dsimp -implicitDefEqProofs only [↓STP, STQ, ne_eq, implies_true, forall_const, if_false, if_true, reduceCtorEq, ↓reduceIte, Nat.reduceEqDiff, Nat.reduceAdd, Int.reduceEq, Int.reduceLT, Int.reduceLE, Int.reduceNeg, Int.reduceAdd, Int.reduceSub, Int.reduceMul, Int.reduceToNat, Nat.reduceMul, Nat.reduceSub, Nat.reduceLT, Nat.reduceLeDiff, ir4]
      refine awake10 fun ha _ _ => ?_
      simp -dsimp -implicitDefEqProofs only [↓STP, STQ, ne_eq, implies_true, forall_const, if_false, if_true, reduceCtorEq, ↓reduceIte, Nat.reduceEqDiff, Nat.reduceAdd, Int.reduceEq, Int.reduceLT, Int.reduceLE, Int.reduceNeg, Int.reduceAdd, Int.reduceSub, Int.reduceMul, Int.reduceToNat, Nat.reduceMul, Nat.reduceSub, Nat.reduceLT, Nat.reduceLeDiff]
      have e1 : (Ns .u8 l).length = l.length := by simp [Ns]
      refine supported_spec hp (fun hs => ?_) (fun hs => ?_)
      · simp -dsimp -implicitDefEqProofs only [↓STP, STQ, ne_eq, implies_true, forall_const, if_false, if_true, reduceCtorEq, ↓reduceIte, Nat.reduceEqDiff, Nat.reduceAdd, Int.reduceEq, Int.reduceLT, Int.reduceLE, Int.reduceNeg, Int.reduceAdd, Int.reduceSub, Int.reduceMul, Int.reduceToNat, Nat.reduceMul, Nat.reduceSub, Nat.reduceLT, Nat.reduceLeDiff, e1, Ws_length, eq_false (show ¬ (20 : Int) < (l.length : Int) by omega), eq_false (show ¬ (ws.length : Int) = (l.length : Int) by omega)]
      · simp -dsimp -implicitDefEqProofs only [↓STP, STQ, ne_eq, implies_true, forall_const, if_false, if_true, reduceCtorEq, ↓reduceIte, Nat.reduceEqDiff, Nat.reduceAdd, Int.reduceEq, Int.reduceLT, Int.reduceLE, Int.reduceNeg, Int.reduceAdd, Int.reduceSub, Int.reduceMul, Int.reduceToNat, Nat.reduceMul, Nat.reduceSub, Nat.reduceLT, Nat.reduceLeDiff, e1, Ws_length]
  · refine run4 (Nat.le_of_ble_eq_true rfl) ?_
    simp -dsimp -implicitDefEqProofs only [↓STP, STQ, ne_eq, implies_true, forall_const, if_false, if_true, reduceCtorEq, ↓reduceIte, Nat.reduceEqDiff, Nat.reduceAdd, Int.reduceEq, Int.reduceLT, Int.reduceLE, Int.reduceNeg, Int.reduceAdd, Int.reduceSub, Int.reduceMul, Int.reduceToNat, Nat.reduceMul, Nat.reduceSub, Nat.reduceLT, Nat.reduceLeDiff, ir4]
    refine awake10 fun ha _ _ => ?_
    simp -dsimp -implicitDefEqProofs only [↓STP, STQ, ne_eq, implies_true, forall_const, if_false, if_true, reduceCtorEq, ↓reduceIte, Nat.reduceEqDiff, Nat.reduceAdd, Int.reduceEq, Int.reduceLT, Int.reduceLE, Int.reduceNeg, Int.reduceAdd, Int.reduceSub, Int.reduceMul, Int.reduceToNat, Nat.reduceMul, Nat.reduceSub, Nat.reduceLT, Nat.reduceLeDiff]
    have e1 : (Ns .u8 l).length = l.length := by simp [Ns]
    refine supported_spec hp (fun hs => ?_) (fun hs => ?_)
    · simp -dsimp -implicitDefEqProofs only [↓STP, STQ, ne_eq, implies_true, forall_const, if_false, if_true, reduceCtorEq, ↓reduceIte, Nat.reduceEqDiff, Nat.reduceAdd, Int.reduceEq, Int.reduceLT, Int.reduceLE, Int.reduceNeg, Int.reduceAdd, Int.reduceSub, Int.reduceMul, Int.reduceToNat, Nat.reduceMul, Nat.reduceSub, Nat.reduceLT, Nat.reduceLeDiff, e1, Ws_length, eq_true (show (20 : Int) < (l.length : Int) by omega)]
    · simp -dsimp -implicitDefEqProofs only [↓STP, STQ, ne_eq, implies_true, forall_const, if_false, if_true, reduceCtorEq, ↓reduceIte, Nat.reduceEqDiff, Nat.reduceAdd, Int.reduceEq, Int.reduceLT, Int.reduceLE, Int.reduceNeg, Int.reduceAdd, Int.reduceSub, Int.reduceMul, Int.reduceToNat, Nat.reduceMul, Nat.reduceSub, Nat.reduceLT, Nat.reduceLeDiff, e1, Ws_length]

end
end Go.Ab.Ytgfnhkedfmnijaa
