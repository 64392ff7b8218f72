import Derived.Test.YtihmoaibgmhjeaaDoorAb29
import Derived.ProofKit
set_option linter.unusedVariables false
set_option linter.unusedSimpArgs false
namespace Go.Ab
inductive Ty (P : Program) : TypeId → List V → Prop
 | bool {t : TypeId} (ht : P.underlying t = some .bool) (b : Bool) : Ty P t [.bool b]
 | int {t : TypeId} {k : IntKind} (ht : P.underlying t = some (.int k)) (n : Int) (hn : (Lit.int k n).wf = true) : Ty P t [.int k n]
 | str {t : TypeId} (ht : P.underlying t = some .string) (s : ByteArray) (hs : s.size ≤ maxLen) : Ty P t [.str s]
 | slice {t e : TypeId} {ag : Bool} (ht : P.underlying t = some (.slice e)) (ha : aggT P e = some ag) (css : List (List V)) (hc : ∀ cs ∈ css, Ty P e cs) (hl : css.length ≤ maxLen) : Ty P t [.vec (css.map (mkEl ag)) .any]
 | struct {t : TypeId} {fs : Array Field} (ht : P.underlying t = some (.struct fs)) (parts : List (List V)) (hl : parts.length = fs.size) (hp : ∀ (i : Nat) (f : Field) (cs : List V), fs[i]? = some f → parts[i]? = some cs → Ty P f.type cs) : Ty P t parts.flatten
 | array {t e : TypeId} {n : Nat} (ht : P.underlying t = some (.array n e)) (parts : List (List V)) (hl : parts.length = n) (hp : ∀ cs ∈ parts, Ty P e cs) : Ty P t parts.flatten
def tiles (P : Program) : List Field → Nat → Option Nat
 | [], n => some n
 | f :: fs, n => if f.offset = n then tiles P fs (n + P.cellsOf f.type) else none
def closedT (P : Program) (ts : List TypeId) : Bool := ts.all fun t =>
 match P.underlying t with
 | some .bool | some (.int _) | some .string => P.cellsOf t == 1
 | some (.slice e) => ts.contains e && decide (0 < P.cellsOf e) && (P.cellsOf t == 1)
 | some (.struct fs) => fs.toList.all (fun f => ts.contains f.type) && (tiles P fs.toList 0 == some (P.cellsOf t))
 | some (.array n e) => ts.contains e && (P.cellsOf t == n * P.cellsOf e)
 | _ => false
theorem exists_list {α : Type} {p : Nat → α → Prop} : ∀ (n : Nat), (∀ i, i < n → ∃ a, p i a) → ∃ l : List α, l.length = n ∧ ∀ (i : Nat) (a : α), l[i]? = some a → p i a
 | 0, _ => ⟨[], rfl, fun i a h => by simp at h⟩
 | n + 1, h => by
  obtain ⟨l, hl, hp⟩ := exists_list n (fun i hi => h i (by omega))
  obtain ⟨a, ha⟩ := h n (by omega)
  refine ⟨l ++ [a], by simp [hl], fun i b hb => ?_⟩
  rcases Nat.lt_trichotomy i n with hi | hi | hi
  ·rw [List.getElem?_append_left (by omega)] at hb; exact hp i b hb
  ·subst hi
   rw [List.getElem?_append_right (by omega), hl] at hb
   simp at hb; subst hb; exact ha
  ·rw [List.getElem?_eq_none (by simp; omega)] at hb; simp at hb
theorem mapM_list {α β : Type} {f : α → Option β} : ∀ {xs : List α} {l : List β}, xs.mapM f = some l → l.length = xs.length ∧ ∀ (i : Nat) (x : α), xs[i]? = some x → ∃ a, f x = some a ∧ l[i]? = some a
 | [], l, h => by
  simp at h; subst h
  exact ⟨rfl, fun i x hx => by simp at hx⟩
 | y :: xs, l, h => by
  rw [List.mapM_cons] at h
  simp only [Option.bind_eq_bind, Option.pure_def, Option.bind_eq_some_iff, Option.some.injEq] at h
  obtain ⟨b, hb, bs, hbs, rfl⟩ := h
  obtain ⟨h1, h2⟩ := mapM_list hbs
  refine ⟨by simp [h1], fun i x hx => ?_⟩
  cases i with
  | zero => simp at hx; subst hx; exact ⟨b, hb, rfl⟩
  | succ i => simpa using h2 i x (by simpa using hx)
theorem mapM_range {α : Type} {f : Nat → Option α} {n : Nat} {l : List α} (h : (List.range n).mapM f = some l) : l.length = n ∧ ∀ i, i < n → ∃ a, f i = some a ∧ l[i]? = some a := by
 obtain ⟨h1, h2⟩ := mapM_list h
 exact ⟨by simpa using h1, fun i hi => h2 i i (by simp [hi])⟩
def limOf (W : World) (b : Nat) : Nat := match W.heap[b]? with
 | some (.cells c _ _) => c.size
 | _ => 0
def k0 (W : World) : Ctx := ⟨fun _ => 0, limOf W, 0⟩
def h0 : H := ⟨fun _ => none, 0⟩
theorem wr0 (W : World) : WR (k0 W) h0 W [] := ⟨rfl, fun id o h => by simp [h0] at h, fun id id' o o' h => by simp [h0] at h, fun g cells h => by simp at h⟩
theorem cell_lim {W : World} {a : Addr} {v : Value} (h : W.cell? a = some v) : a.off < limOf W a.block := by
 unfold World.cell? at h
 unfold limOf
 split at h
 ·rename_i c _ _ hb
  rw [hb]
  split at h
  ·simp at h
  ·exact (Array.getElem?_eq_some_iff.1 h).1
 ·simp at h
variable {H' : Type} {enc : TypeId × Value → H'} {P : Program} {W : World} {ts : List TypeId}
theorem closed_at (hc : closedT P ts = true) {t : TypeId} (ht : ts.contains t = true) : (match P.underlying t with
 | some .bool | some (.int _) | some .string => P.cellsOf t == 1
 | some (.slice e) => ts.contains e && decide (0 < P.cellsOf e) && (P.cellsOf t == 1)
 | some (.struct fs) => fs.toList.all (fun f => ts.contains f.type) && (tiles P fs.toList 0 == some (P.cellsOf t))
 | some (.array n e) => ts.contains e && (P.cellsOf t == n * P.cellsOf e)
 | _ => false) = true := by
 unfold closedT at hc
 rw [List.all_eq_true] at hc
 exact hc t (by simpa using ht)
theorem closed_agg (hc : closedT P ts = true) {t : TypeId} (ht : ts.contains t = true) : ∃ ag, aggT P t = some ag ∧ (ag = false → P.cellsOf t = 1) := by
 have h := closed_at hc ht
 unfold aggT
 split at h
 ·rename_i hu; rw [hu]; exact ⟨false, rfl, fun _ => by simpa using h⟩
 ·rename_i hu; rw [hu]; exact ⟨false, rfl, fun _ => by simpa using h⟩
 ·rename_i hu; rw [hu]; exact ⟨false, rfl, fun _ => by simpa using h⟩
 ·rename_i hu; rw [hu]
  simp only [Bool.and_eq_true, beq_iff_eq] at h
  exact ⟨false, rfl, fun _ => h.2⟩
 ·rename_i hu; rw [hu]; exact ⟨true, rfl, fun h => by cases h⟩
 ·rename_i hu; rw [hu]; exact ⟨true, rfl, fun h => by cases h⟩
 ·cases h
theorem crs_nil {k : Ctx} {w : World} : CRs k w [] [] := ⟨rfl, fun j v h => by simp at h⟩
theorem crs_one {k : Ctx} {w : World} {v : V} {x : Value} (h : VR k w v x) (ho : x.oneCell' = true) : CRs k w [v] [x] := by
 refine ⟨rfl, fun j u hj => ?_⟩
 cases j with
 | zero => simp at hj; subst hj; exact ⟨x, rfl, h, ho⟩
 | succ j => simp at hj
theorem crs_append {k : Ctx} {w : World} {v v' : List V} {x x' : List Value} (h : CRs k w v x) (h' : CRs k w v' x') : CRs k w (v ++ v') (x ++ x') := by
 refine ⟨by simp [h.1, h'.1], fun j u hj => ?_⟩
 rcases Nat.lt_or_ge j v.length with h1 | h1
 ·rw [List.getElem?_append_left h1] at hj
  obtain ⟨y, e, r⟩ := h.2 j u hj
  exact ⟨y, by rw [List.getElem?_append_left (by rw [h.1]; exact h1)]; exact e, r⟩
 ·rw [List.getElem?_append_right h1] at hj
  obtain ⟨y, e, r⟩ := h'.2 _ u hj
  exact ⟨y, by rw [List.getElem?_append_right (by rw [h.1]; exact h1), h.1]; exact e, r⟩
theorem vr_not_agg {k : Ctx} {w : World} {v : V} {x : Value} (h : VR k w v x) (ho : x.oneCell' = true) : v.cells = [v] := by
 cases h <;> first | rfl | simp [Value.oneCell'] at ho
theorem crs_parts {k : Ctx} {w : World} : ∀ {parts : List (List V)} {rows : List (List Value)}, rows.length = parts.length → (∀ (i : Nat) (vs : List V) (xs : List Value), parts[i]? = some vs → rows[i]? = some xs → CRs k w vs xs) → CRs k w parts.flatten rows.flatten
 | [], [], _, _ => crs_nil
 | [], _ :: _, h, _ => by simp at h
 | _ :: _, [], h, _ => by simp at h
 | p :: ps, r :: rs, h, hp => by
  rw [List.flatten_cons, List.flatten_cons]
  exact crs_append (hp 0 p r rfl rfl) (crs_parts (by simpa using h) (fun i vs xs h1 h2 => hp (i + 1) vs xs (by simpa using h1) (by simpa using h2)))
theorem tile_rows {P : Program} : ∀ {fs : List Field} {n m : Nat} {cs : List Value}, tiles P fs n = some m → cs.length = m → cs.drop n = (fs.map fun f => (cs.drop f.offset).take (P.cellsOf f.type)).flatten ∧ n ≤ m
 | [], n, m, cs, h, hl => by
  simp only [tiles, Option.some.injEq] at h; subst h
  exact ⟨by rw [List.drop_eq_nil_of_le (by omega)]; rfl, Nat.le_refl _⟩
 | f :: fs, n, m, cs, h, hl => by
  simp only [tiles] at h
  split at h
  ·rename_i ho
   obtain ⟨h1, h2⟩ := tile_rows h hl
   refine ⟨?_, by omega⟩
   rw [List.map_cons, List.flatten_cons, ← h1, ho, ← List.drop_drop, List.take_append_drop]
  ·simp at h
theorem chop_rows {z : Nat} : ∀ {n : Nat} {cs : List Value}, cs.length = n * z → cs = ((List.range n).map fun i => (cs.drop (i * z)).take z).flatten
 | 0, cs, h => by simp at h; subst h; rfl
 | n + 1, cs, h => by
  rw [List.range_succ_eq_map, List.map_cons, List.flatten_cons, List.map_map]
  have h1 := chop_rows (z := z) (n := n) (cs := cs.drop z) (by rw [List.length_drop, h, Nat.succ_mul]; omega)
  have h2 : ((List.range n).map ((fun i => (cs.drop (i * z)).take z) ∘ Nat.succ)) = (List.range n).map fun i => ((cs.drop z).drop (i * z)).take z := by
   apply List.map_congr_left
   intro i _
   simp only [Function.comp_def, List.drop_drop, Nat.succ_mul]
   rw [Nat.add_comm]
  rw [h2, ← h1]
  simp
theorem trod_V (hc : closedT P ts = true) : ∀ (fuel : Nat) (t : TypeId) (cs : List Value) (x : DataW H' × List MemPlace), ts.contains t = true → DataW.trod enc P W 0 (fun _ => true) true fuel t cs = some x →
  ∃ vs, CRs (k0 W) W vs cs ∧ Ty P t vs ∧ vs.length = P.cellsOf t := by
 intro fuel
 induction fuel with
 | zero => intro t cs x ht h; simp [DataW.trod] at h
 | succ fuel ih =>
  intro t cs x ht h
  have hk := closed_at hc ht
  unfold DataW.trod at h
  simp only at h
  split at h
  ·rename_i hu
   rw [hu] at hk
   exact ⟨_, crs_one (.bool _) rfl, .bool hu _, (beq_iff_eq.1 hk).symm⟩
  ·rename_i k k' n hu
   rw [hu] at hk
   split at h
   ·rename_i hw
    obtain ⟨rfl, hw⟩ := hw
    exact ⟨_, crs_one (.int _ _) rfl, .int hu _ hw, (beq_iff_eq.1 hk).symm⟩
   ·simp at h
  ·rename_i hu; rw [hu] at hk; simp at hk
  ·rename_i s hu
   rw [hu] at hk
   split at h
   ·rename_i hs
    exact ⟨_, crs_one (.str _) rfl, .str hu _ hs, (beq_iff_eq.1 hk).symm⟩
   ·simp at h
  ·rename_i hu; rw [hu] at hk; simp at hk
  ·rename_i hu; rw [hu] at hk; simp at hk
  ·rename_i e hu
   rw [hu] at hk
   simp only [Bool.and_eq_true, beq_iff_eq, decide_eq_true_eq] at hk
   obtain ⟨ag, ha, _⟩ := closed_agg hc hk.1.1
   exact ⟨_, crs_one (.vecNil .any rfl) rfl, .slice hu ha [] (by simp) (by simp), hk.2.symm⟩
  ·rename_i e a len cap hu
   rw [hu] at hk
   simp only [Bool.and_eq_true, beq_iff_eq, decide_eq_true_eq] at hk
   obtain ⟨⟨he, hz⟩, h1⟩ := hk
   obtain ⟨ag, ha, hag⟩ := closed_agg hc he
   split at h
   ·rename_i hb
    obtain ⟨_, hlc, hcm⟩ := hb
    rw [Option.bind_eq_some_iff] at h
    obtain ⟨elems, hel, _⟩ := h
    obtain ⟨g1, g2⟩ := mapM_range hel
    have hel' : ∀ i, i < len → ∃ vs : List V, vs.length = P.cellsOf e ∧ Ty P e vs ∧ ∀ (j : Nat) (v : V), vs[j]? = some v → ∃ y, W.cell? (a.add (i * P.cellsOf e + j)) = some y ∧ VR (k0 W) W v y ∧ y.oneCell' = true := by
     intro i hi
     obtain ⟨y, hy, _⟩ := g2 i hi
     rw [Option.bind_eq_some_iff] at hy
     obtain ⟨row, hrow, hy⟩ := hy
     obtain ⟨vs, r1, r2, r3⟩ := ih _ _ _ he hy
     refine ⟨vs, r3, r2, fun j v hj => ?_⟩
     obtain ⟨z, q1, q2, q3⟩ := r1.2 j v hj
     unfold World.cells? at hrow
     split at hrow
     ·obtain ⟨l1, l2⟩ := mapM_range hrow
      have hj' : j < P.cellsOf e := by rw [← r3]; exact (List.getElem?_eq_some_iff.1 hj).1
      obtain ⟨z', m1, m2⟩ := l2 j hj'
      rw [addr_add_add] at m1
      rw [q1] at m2; cases m2
      exact ⟨z, m1, q2, q3⟩
     ·simp at hrow
    obtain ⟨css, c1, c2⟩ := exists_list len hel'
    have hmk : ∀ (i : Nat) (cs : List V), css[i]? = some cs → (mkEl ag cs).cells = cs := by
     intro i cs hi
     cases ag with
     | true => rfl
     | false =>
      obtain ⟨p1, _, p3⟩ := c2 i cs hi
      rw [hag rfl] at p1
      match cs, p1 with
      | [v], _ =>
       obtain ⟨y, _, q2, q3⟩ := p3 0 v rfl
       exact vr_not_agg q2 q3
    refine ⟨_, crs_one (x := .slice (some a) len cap) (.vec (css.map (mkEl ag)) .any a len cap (P.cellsOf e) (fun i j => (W.cell? (a.add (i * P.cellsOf e + j))).getD undef) rfl (by simp [c1]) hlc (by simp) (fun i el hi => ?_) (fun i el j v hi hj => ?_) (fun i el j v hi hj => ?_)) rfl,
     .slice hu ha css (fun cs hcs => ?_) (by omega), h1.symm⟩
    ·rw [List.getElem?_map, Option.map_eq_some_iff] at hi
     obtain ⟨cs, hi, rfl⟩ := hi
     rw [hmk i cs hi]
     exact (c2 i cs hi).1
    ·rw [List.getElem?_map, Option.map_eq_some_iff] at hi
     obtain ⟨cs, hi, rfl⟩ := hi
     rw [hmk i cs hi] at hj
     obtain ⟨y, q1, q2, q3⟩ := (c2 i cs hi).2.2 j v hj
     rw [q1]
     exact ⟨rfl, by have := cell_lim q1; rwa [addr_add_block] at this, q3⟩
    ·rw [List.getElem?_map, Option.map_eq_some_iff] at hi
     obtain ⟨cs, hi, rfl⟩ := hi
     rw [hmk i cs hi] at hj
     obtain ⟨y, q1, q2, q3⟩ := (c2 i cs hi).2.2 j v hj
     rw [q1]
     exact q2
    ·obtain ⟨i, hi⟩ := List.mem_iff_getElem?.1 hcs
     exact (c2 i cs hi).2.1
   ·simp at h
  ·rename_i cs _ _ fs hu
   rw [hu] at hk
   simp only [Bool.and_eq_true, beq_iff_eq, List.all_eq_true] at hk
   obtain ⟨hk1, hk2⟩ := hk
   split at h
   ·rename_i hl
    rw [Option.map_eq_some_iff] at h
    obtain ⟨xs, hxs, _⟩ := h
    obtain ⟨g1, g2⟩ := mapM_list hxs
    have hel : ∀ i, i < fs.size → ∃ vs : List V, ∀ f, fs[i]? = some f → CRs (k0 W) W vs ((cs.drop f.offset).take (P.cellsOf f.type)) ∧ Ty P f.type vs ∧ vs.length = P.cellsOf f.type := by
     intro i hi
     obtain ⟨f, hf⟩ : ∃ f, fs[i]? = some f := ⟨fs[i], Array.getElem?_eq_getElem hi⟩
     obtain ⟨y, hy, _⟩ := g2 i f (by simpa using hf)
     obtain ⟨vs, r⟩ := ih _ _ _ (hk1 f (List.mem_of_getElem? (by simpa using hf))) hy
     exact ⟨vs, fun f' hf' => by rw [hf] at hf'; cases hf'; exact r⟩
    obtain ⟨parts, c1, c2⟩ := exists_list fs.size hel
    have hrows := (tile_rows hk2 hl).1
    rw [List.drop_zero] at hrows
    have hcr : CRs (k0 W) W parts.flatten cs := by
     rw [hrows]
     refine crs_parts (by simp [c1]) (fun i vs xs h1 h2 => ?_)
     rw [List.getElem?_map, Option.map_eq_some_iff] at h2
     obtain ⟨f, hf, rfl⟩ := h2
     exact (c2 i vs h1 f (by simpa using hf)).1
    exact ⟨parts.flatten, hcr, .struct hu parts c1 (fun i f vs hf hi => (c2 i vs hi f hf).2.1), by rw [← hcr.1, hl]⟩
   ·simp at h
  ·rename_i cs _ _ n e hu
   rw [hu] at hk
   simp only [Bool.and_eq_true, beq_iff_eq] at hk
   obtain ⟨hk1, hk2⟩ := hk
   split at h
   ·rename_i hl
    rw [Option.map_eq_some_iff] at h
    obtain ⟨xs, hxs, _⟩ := h
    obtain ⟨g1, g2⟩ := mapM_range hxs
    have hel : ∀ i, i < n → ∃ vs : List V, CRs (k0 W) W vs ((cs.drop (i * P.cellsOf e)).take (P.cellsOf e)) ∧ Ty P e vs ∧ vs.length = P.cellsOf e := by
     intro i hi
     obtain ⟨y, hy, _⟩ := g2 i hi
     exact ih _ _ _ hk1 hy
    obtain ⟨parts, c1, c2⟩ := exists_list n hel
    have hrows := chop_rows (n := n) (z := P.cellsOf e) (cs := cs) (by omega)
    have hcr : CRs (k0 W) W parts.flatten cs := by
     rw [hrows]
     refine crs_parts (by simp [c1]) (fun i vs xs h1 h2 => ?_)
     rw [List.getElem?_map, Option.map_eq_some_iff] at h2
     obtain ⟨f, hf, rfl⟩ := h2
     obtain ⟨hf1, hf2⟩ := List.getElem?_eq_some_iff.1 hf
     simp at hf2; subst hf2
     exact (c2 i vs h1).1
    refine ⟨parts.flatten, hcr, .array hu parts c1 (fun vs hvs => ?_), by rw [← hcr.1, hl]⟩
    obtain ⟨i, hi⟩ := List.mem_iff_getElem?.1 hvs
    exact (c2 i vs hi).2.1
   ·simp at h
  all_goals first
   | (simp at h; done)
   | (rename_i hu; rw [hu] at hk; simp at hk; done)
   | (rename_i hu _; rw [hu] at hk; simp at hk; done)
   | (rename_i hu _ _; rw [hu] at hk; simp at hk; done)
   | skip
end Go.Ab
