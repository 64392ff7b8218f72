import Derived.Test.YtihmoaibgmhjeaaDoorAb34
set_option linter.unusedVariables false
set_option linter.unusedSimpArgs false
namespace Go.Ab
def Grow (h : H) (sz : Nat) (css : List (List V)) (j : Nat) (v : V) : Prop :=
 (∀ c ∈ css, c.length = sz) ∧ ((css = [] ∧ v = .vec [] .full) ∨ (css ≠ [] ∧ v = .ref j 0 css.length sz ∧ h.get j = some css.flatten))
theorem Grow.frame {h h' : H} {sz j : Nat} {css : List (List V)} {v : V} (g : Grow h sz css j v) (e : css ≠ [] → h'.objs j = h.objs j) : Grow h' sz css j v := by
 refine ⟨g.1, ?_⟩
 rcases g.2 with h1 | ⟨h1, h2, h3⟩
 ·exact .inl h1
 ·exact .inr ⟨h1, h2, by unfold H.get at h3 ⊢; rw [e h1]; exact h3⟩
def V.outv : V → V
 | .vec xs _ => .vec xs .any
 | v => v
theorem Grow.out {h : H} {sz j : Nat} {css : List (List V)} {v : V} (g : Grow h sz css j v) : v.out = some v.outv ∧ v.outS = some v ∧ v.cells = [v] := by
 rcases g.2 with ⟨_, rfl⟩ | ⟨_, rfl, _⟩ <;> exact ⟨rfl, rfl, rfl⟩
theorem flatten_len {sz : Nat} : ∀ {css : List (List V)}, (∀ c ∈ css, c.length = sz) → css.flatten.length = css.length * sz
 | [], _ => by simp
 | c :: css, h => by
  rw [List.flatten_cons, List.length_append, flatten_len (fun c hc => h c (by simp [hc])), h c (by simp), List.length_cons, Nat.succ_mul]
  omega
theorem grow_app {h : H} {sz j bytes : Nat} {css : List (List V)} {v el : V} (g : Grow h sz css j v) (hel : el.cells.length = sz) (hz : 0 < sz) (hb : bytes ≤ 4096) (hl : css.length < 1000000) :
  ∃ h' : H, (∀ (st : S) (s : Nat) (ag : Bool) (c2 : Cap), st.h = h → appV st s v (.vec [el] c2) sz bytes ag true = some (.ref h.next 0 (css.length + 1) sz, st.withH h')) ∧
   Grow h' sz (css ++ [el.cells]) h.next (.ref h.next 0 (css.length + 1) sz) ∧ h'.next = h.next + 1 ∧ ∀ i, i < h.next → (css ≠ [] → i ≠ j) → h'.objs i = h.objs i := by
 have hall : ∀ c ∈ css ++ [el.cells], c.length = sz := by
  intro c hc
  rcases List.mem_append.1 hc with h1 | h1
  ·exact g.1 c h1
  ·simp at h1; subst h1; exact hel
 rcases g.2 with ⟨rfl, rfl⟩ | ⟨h1, rfl, h3⟩
 ·refine ⟨h.new (.cells el.cells), fun st s ag c2 hs => ?_, ⟨by simpa using hall, .inr ⟨by simp, by simp, by rw [get_new]; simp⟩⟩, rfl, fun i hi _ => ?_⟩
  ·subst hs
   simp only [appV, lenV, flat, List.length_cons, List.length_nil, List.flatMap_cons, List.flatMap_nil, List.append_nil, Nat.zero_add, Nat.one_mul]
   rw [if_pos ⟨hel, hz, hb⟩, if_pos (by decide)]
  ·simp [H.new, upd, Nat.ne_of_lt hi]
 ·refine ⟨h.move j (.cells (css.flatten ++ el.cells)), fun st s ag c2 hs => ?_, ⟨hall, .inr ⟨by simp, by simp, by rw [get_move]; simp⟩⟩, rfl, fun i hi hne => ?_⟩
  ·subst hs
   simp only [appV, lenV, flat, List.length_cons, List.length_nil, List.flatMap_cons, List.flatMap_nil, List.append_nil, Nat.zero_add, Nat.one_mul, h3]
   rw [if_pos ⟨hel, hz, hb⟩, if_pos ⟨flatten_len g.1, trivial, by unfold most; omega, by decide⟩]
  ·simp [H.move, upd, Nat.ne_of_lt hi, hne h1]
theorem grow_flat {h : H} {sz j : Nat} {css : List (List V)} {v : V} (g : Grow h sz css j v) : flat h v = some css.flatten ∧ lenV v = some css.length := by
 rcases g.2 with ⟨rfl, rfl⟩ | ⟨h1, rfl, h3⟩
 ·exact ⟨rfl, rfl⟩
 ·refine ⟨?_, rfl⟩
  simp only [flat, h3, List.drop_zero]
  rw [List.take_of_length_le (Nat.le_of_eq (flatten_len g.1))]
theorem chunk_flatten {ag : Bool} {sz : Nat} : ∀ {css : List (List V)}, (∀ c ∈ css, c.length = sz) → chunk ag sz css.length css.flatten = css.map (mkEl ag)
 | [], _ => rfl
 | c :: css, h => by
  have hc := h c (by simp)
  rw [List.length_cons, List.flatten_cons, chunk, List.map_cons]
  rw [List.take_left' hc, List.drop_left' hc, chunk_flatten (fun c hc => h c (by simp [hc]))]
def Src (v : V) : Prop := (∃ xs, v = .vec xs .any) ∨ ∃ a b c d, v = .ref a b c d
theorem Grow.src {h : H} {sz j : Nat} {css : List (List V)} {v : V} (g : Grow h sz css j v) : flat h v.outv = some css.flatten ∧ lenV v.outv = some css.length ∧ Src v.outv := by
 rcases g.2 with ⟨rfl, rfl⟩ | ⟨h1, rfl, h3⟩
 ·exact ⟨rfl, rfl, .inl ⟨_, rfl⟩⟩
 ·refine ⟨?_, rfl, .inr ⟨_, _, _, _, rfl⟩⟩
  simp only [V.outv, flat, h3, List.drop_zero]
  rw [List.take_of_length_le (Nat.le_of_eq (flatten_len g.1))]
def Evo (h : H) (F : Nat → Prop) (h' : H) (F2 : Nat → Prop) : Prop := h.next ≤ h'.next ∧ ∀ j, j < h.next → ¬ F j → h'.objs j = h.objs j ∧ ¬ F2 j
theorem Evo.refl (h : H) (F : Nat → Prop) : Evo h F h F := ⟨Nat.le_refl _, fun j _ hF => ⟨rfl, hF⟩⟩
theorem Evo.trans {h h' h'' : H} {F F2 F3 : Nat → Prop} (a : Evo h F h' F2) (b : Evo h' F2 h'' F3) : Evo h F h'' F3 :=
 ⟨Nat.le_trans a.1 b.1, fun j hj hF => by
  obtain ⟨h1, h2⟩ := a.2 j hj hF
  obtain ⟨h3, h4⟩ := b.2 j (Nat.lt_of_lt_of_le hj a.1) h2
  exact ⟨h3.trans h1, h4⟩⟩
end Go.Ab
