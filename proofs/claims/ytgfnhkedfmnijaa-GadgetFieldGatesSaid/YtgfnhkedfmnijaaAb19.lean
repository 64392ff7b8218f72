/- A list of operations of the layer Ab, in the text's order. -/
import Derived.Test.YtgfnhkedfmnijaaAb18
import Derived.Orders
set_option linter.unusedVariables false
set_option linter.unusedSimpArgs false
namespace Go.Ab

section
variable {G : List (Nat × List V)} {N : Nat} {e : Entry} {k : Ctx} {β : Nat → Nat} {A : Nat → Prop} {st : S} {a : Act} {w : World} {P : Program} {u : List Nat} {hs : Hints} {o : Oper} {K : Ex → S → Prop}

/-- The two forms of one operation. -/
structure Both (P : Program) (hs : Hints) (N : Nat) (all : Array Oper) (o : Oper) (io : IOp) : Prop where
  k : trK P hs o = some io.k
  dst : io.dst = o.dst
  lt : ∀ t, o.dst = some t → t < N
  guard : match o.guard with
    | none => io.guard = none
    | some (j, want) => ∃ oj g, all[j]? = some oj ∧ oj.dst = some g ∧ io.guard = some (g, want)

theorem trOp_both {all : Array Oper} {io : IOp} (ht : trOp P hs all o = some io) (hd : ∀ t, o.dst = some t → t < N) : Both P hs N all o io := by
  unfold trOp at ht
  obtain ⟨kk, hk, ht⟩ := bindS ht
  split at ht
  · rename_i hg
    simp only [Option.some.injEq] at ht; subst ht
    exact ⟨hk, rfl, hd, by rw [hg]⟩
  · rename_i j want hg
    obtain ⟨oj, hoj, ht⟩ := bindS ht
    obtain ⟨g, hgd, ht⟩ := bindS ht
    simp only [Option.some.injEq] at ht; subst ht
    exact ⟨hk, rfl, hd, by rw [hg]; exact ⟨oj, g, hoj, hgd, rfl⟩⟩

theorem getD_bool {xs : Array Value} {t : Nat} {b : Bool} (h : xs.getD t undef = .bool b) : xs[t]? = some (.bool b) := by
  rw [Array.getD_eq_getD_getElem?] at h
  cases hx : xs[t]? with
  | none => rw [hx] at h; simp [undef] at h
  | some x => rw [hx] at h; simpa using h

/-- The guard, on both sides. -/
theorem want_sound (h : FW G N e k β A st a w) {all : Array Oper} {io : IOp} (hb : Both P hs N all o io) {b : Bool} (hw : wantI st io = some b) : Region.wanted o (yielded all a.tmps) = b := by
  have hg := hb.guard
  unfold wantI at hw
  unfold Region.wanted
  cases ho : o.guard with
  | none =>
    rw [ho] at hg
    simp only at hg
    rw [hg] at hw
    simpa using hw
  | some jw =>
    obtain ⟨j, want⟩ := jw
    rw [ho] at hg
    obtain ⟨oj, g, h1, h2, h3⟩ := hg
    rw [h3] at hw
    simp only at hw ⊢
    split at hw
    · rename_i b' hb'
      simp only [Option.some.injEq] at hw
      have hv := sr_asB (h.slot g) hb'
      have hy : yielded all a.tmps j = some b' := by
        simp only [yielded, h1, Option.bind_some, h2, getD_bool hv]
      rw [hy, ← hw]
      simp
    · simp at hw

theorem Oper.wp_monoQ {K K' : Act → World → Prop} {Q Q' : Exit → Act → World → Prop} (h : ∀ a w, K a w → K' a w) (hp : ∀ c a w, Q (.panic c) a w → Q' (.panic c) a w) (ho : ∀ a w, Q .outgrown a w → Q' .outgrown a w)
    (hh : o.wp P a w K Q) : o.wp P a w K' Q' := by
  unfold Oper.wp at *
  generalize (execOp a.eval o).run P w = r at *
  cases r with
  | ok n w' =>
    cases n <;> simp only [Oper.upon] at hh ⊢ <;>
      first
        | exact h _ _ hh
        | (refine Calls.mono hh (fun en w'' he => ?_)
           cases en <;> first | exact h _ _ he | exact hp _ _ _ he | (obtain ⟨a0, w0, h0⟩ := he; exact ⟨a0, w0, ho _ _ h0⟩))
        | exact Rows.mono hh (fun _ _ he => h _ _ he)
  | halt x w' => cases x <;> simp only [Oper.upon] at hh ⊢ <;> first | exact hp _ _ _ hh | exact hh

/-- One operation, guarded or not, and what follows. -/
theorem op_step (h : FW G N e k β A st a w) (hG : ∀ g cells, (g, cells) ∈ hs.glob → (g, cells) ∈ G) {call : CallT} (hc : CallOK P G call) {all : Array Oper} {io : IOp} {i : Nat} (hi : all[i]? = some o) (hb : Both P hs N all o io) {nx : S → Prop}
    {next : Act → World → Prop} (hnext : ∀ st' a' w', nx st' → Inv G N e st' a' w' → next a' w')
    (he : match wantI st io with
      | some true => op1 call st.n io st (Ex.then (fun st' => nx st'.tick) K)
      | some false => nx (st.put io.dst .undef).tick
      | none => False) : wpOp P all (QK G N e K) i next a w := by
  unfold wpOp
  rw [hi]
  simp only
  split at he
  · rename_i hw
    rw [want_sound h hb hw]
    simp only [if_true]
    refine .inl ?_
    have := op1_sound h hG hc hb.k hb.dst hb.lt he
    unfold EffOK at this
    refine Oper.wp_monoQ ?_ ?_ ?_ this
    · rintro a' w' ⟨st', h1, h2⟩
      exact hnext _ _ _ h1 h2
    · rintro c a w ⟨v, h', h1, h2, h3⟩
      exact ⟨v, h', h1, h2, h3⟩
    · exact fun a w hq => hq.elim
  · rename_i hw
    rw [want_sound h hb hw]
    simp only [Bool.false_eq_true, if_false]
    refine hnext _ _ _ he ?_
    rw [put_tick, hb.dst]
    exact (h.tick.putU hb.lt).inv
  · exact he.elim

theorem ops_sound (hG : ∀ g cells, (g, cells) ∈ hs.glob → (g, cells) ∈ G) {call : CallT} (hc : CallOK P G call) {all : Array Oper} (hall : dstsOk N all = true) :
    ∀ (l : List Oper) (ios : List IOp) (i : Nat) (st : S) (a : Act) (w : World), (∀ (j : Nat), l[j]? = all[i + j]?) → trOps P hs all l = some ios → ops call ios st K → Inv G N e st a w →
      wpOps P all (QK G N e K) (List.range' i l.length) a w
  | [], ios, i, st, a, w, _, ht, he, hinv => by
    simp [trOps] at ht; subst ht
    exact ⟨st, he, hinv⟩
  | o :: l, ios, i, st, a, w, hl, ht, he, hinv => by
    simp only [trOps] at ht
    split at ht
    · rename_i io ios' h1 h2
      simp only [Option.some.injEq] at ht; subst ht
      have hi : all[i]? = some o := by simpa using (hl 0).symm
      have hdl : ∀ t, o.dst = some t → t < N := by
        intro t ht
        have hm : o ∈ all := Array.mem_of_getElem? hi
        have := (Array.all_eq_true' ).1 hall o hm
        rw [ht] at this
        simpa using this
      obtain ⟨k, β, A, hf⟩ := hinv
      simp only [List.length_cons, List.range'_succ, wpOps_cons]
      refine op_step hf hG hc hi (trOp_both h1 hdl) (nx := fun st' => ops call ios' st' K) (fun st' a' w' hk hinv' => ?_) ?_
      · exact ops_sound hG hc hall l ios' (i + 1) st' a' w' (fun j => by have := hl (j + 1); simpa [Nat.add_assoc, Nat.add_comm 1 j] using this) h2 hk hinv'
      · simp only [ops] at he
        exact he
    · simp at ht

end
end Go.Ab
