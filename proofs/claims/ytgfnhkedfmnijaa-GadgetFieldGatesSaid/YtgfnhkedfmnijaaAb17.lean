/- What the operations of the layer Ab that change the store do is what the model's operations do (7): one step of an iterator; and all operations together. -/
import Derived.Test.YtgfnhkedfmnijaaAb16
set_option linter.unusedVariables false
set_option linter.unusedSimpArgs false
namespace Go.Ab

section
variable {G : List (Nat × List V)} {N : Nat} {e : Entry} {k : Ctx} {β : Nat → Nat} {A : Nat → Prop} {st : S} {a : Act} {w : World} {P : Program} {u : List Nat} {hs : Hints} {o : Oper} {K : Ex → S → Prop}

theorem run_pick (n : Nat) (hn : 0 < n) : ∃ i w1, (choose (.mapNext n)).run P w = .ok i w1 ∧ i < n ∧ (w1 = w ∨ w1 = { w with drawn := w.drawn + 1 }) := by
  by_cases h1 : n ≤ 1
  · exact ⟨0, w, by simp [run_choose, Question.forced, h1], hn, .inl rfl⟩
  · exact ⟨w.tape w.drawn (.mapNext n) % n, { w with drawn := w.drawn + 1 }, by simp [run_choose, Question.forced, h1, Question.cut], Nat.mod_lt _ hn, .inr rfl⟩

theorem eff_nxt (h : FW G N e k β A st a w) (hG : ∀ g cells, (g, cells) ∈ hs.glob → (g, cells) ∈ G) {io : Operand} {it : Arg} (hop : o.op = .next io false) (hi : trArg hs io = some it)
    (hd : ∀ t, o.dst = some t → t < N) {call : CallT} (he : eff call st.n st o.dst (.nxt it) K) : EffOK P G N e o a w K := by
  simp only [eff] at he
  have hsi := h.arg hi hG
  split at he
  · rename_i i hit
    rw [hit] at hsi
    obtain ⟨hX, hid⟩ := (show SR1 k w β A st.u (.itr i) (a.eval io) from hsi)
    split at he
    · rename_i id ver seen hobj
      split at he
      · rename_i es ver' hg
        obtain ⟨hver, hover, hstep⟩ := he
        subst hver
        obtain ⟨en, clock, sb, g1, g2, g3, g4, g5, g6, g7, g8, g9, g10⟩ := h.iter hobj hg
        have hcond : (!sb.isEmpty && !en.isEmpty && en.all (fun x => decide (x.born ≥ clock))) = false := by
          by_cases h0 : en.size = 0
          · have : en = #[] := by simpa using h0
            subst this; simp
          · have hlt : 0 < en.size := by omega
            have hb := g6 0 en[0] (Array.getElem?_eq_getElem hlt)
            have : en.all (fun x => decide (x.born ≥ clock)) = false := by
              rw [Array.all_eq_false]
              exact ⟨0, hlt, by simp; omega⟩
            rw [this]; simp
        have hleft : (en.filter fun x => !sb.contains x.born).filter (fun x => decide (x.born < clock)) = en.filter fun x => !sb.contains x.born := by
          rw [Array.filter_eq_self]
          intro x hx
          rw [Array.mem_filter] at hx
          obtain ⟨j, hj, rfl⟩ := Array.mem_iff_getElem.1 hx.1
          exact decide_eq_true (g6 j _ (Array.getElem?_eq_getElem hj))
        have hnew : (en.filter fun x => !sb.contains x.born).filter (fun x => decide (x.born ≥ clock)) = #[] := by
          rw [Array.filter_eq_empty_iff]
          intro x hx
          rw [Array.mem_filter] at hx
          obtain ⟨j, hj, rfl⟩ := Array.mem_iff_getElem.1 hx.1
          have := g6 j _ (Array.getElem?_eq_getElem hj)
          simp; omega
        have hseen : ∀ (j : Nat) (x : MapEntry), en[j]? = some x → (sb.contains x.born = true ↔ j ∈ seen) := by
          intro j x hx
          rw [Array.contains_iff_mem, ← Array.mem_toList_iff, g9]
          simp only [List.mem_map, List.mem_reverse]
          constructor
          · rintro ⟨j', hj', heq⟩
            have hlt : j' < en.size := by rw [g3]; exact g8 j' hj'
            have hy : en[j']? = some en[j'] := Array.getElem?_eq_getElem hlt
            rw [Array.getD_eq_getD_getElem?, hy] at heq
            have := born_inj g5 hx hy heq.symm
            rw [this]; exact hj'
          · intro hj
            exact ⟨j, hj, by rw [Array.getD_eq_getD_getElem?, hx]; rfl⟩
        have r1 := run_getObj (P := P) g1 (by intro c e f hh; cases hh)
        have r2 := run_getObj_map (P := P) g2
        have hex : execOp a.eval o = (do pure (Next.value (← Instr.next (a.eval io) false o.type))) := by simp only [execOp, hop]
        by_cases hemp : (en.filter fun x => !sb.contains x.born) = #[]
        · -- over
          have hall : ∀ j, j < es.length → j ∈ seen := by
            intro j hj
            have hlt : j < en.size := by rw [g3]; exact hj
            rw [Array.filter_eq_empty_iff] at hemp
            have := hemp en[j] (Array.getElem_mem hlt)
            simp only [Bool.not_eq_true', Bool.not_eq_false] at this
            exact (hseen j _ (Array.getElem?_eq_getElem hlt)).1 (by simpa using this)
          refine eff_value (x := .tuple #[.bool false]) (w' := w) ?_ (hover hall) ?_
          · rw [hex]
            refine exec_value ?_
            rw [hX]
            obtain ⟨c, w1, hc1, hc2, hc3⟩ := run_pick (P := P) (w := w) 1 (by omega)
            have hc0 : c = 0 := by omega
            subst hc0
            have hw1 : (choose (.mapNext 1)).run P w = .ok 0 w := by simp [run_choose, Question.forced]
            simp only [Instr.next, Sem.run_bind, r1, Result.andThen_ok, r2, hcond, Bool.false_eq_true, if_false, hleft, hnew, Array.append_empty]
            have hsz : (#[none] : Array (Option MapEntry)).size = 1 := rfl
            have hg0 : (#[none] : Array (Option MapEntry))[0]? = some none := rfl
            simp only [hemp, Array.isEmpty_empty, if_true, Array.map_empty, Array.append_empty, hsz, hw1, Result.andThen_ok, hg0, Sem.run_pure]
          · rw [put_tick]
            refine (h.tick.put (d := o.dst) (v := .tuple [.bool false]) (x := .tuple #[.bool false]) hd ⟨#[.bool false], rfl, rfl, fun j v hj => ?_⟩).inv
            match j with
            | 0 => simp at hj; subst hj; exact ⟨.bool false, rfl, (VR.bool false).sr1⟩
            | j + 1 => simp at hj
        · have hpos : 0 < (en.filter fun x => !sb.contains x.born).size := by
            rcases Nat.eq_zero_or_pos (en.filter fun x => !sb.contains x.born).size with h0 | h0
            · exact absurd (by simpa using h0) hemp
            · exact h0
          obtain ⟨c, w1, hc1, hc2, hc3⟩ := run_pick (P := P) (w := w) (en.filter fun x => !sb.contains x.born).size hpos
          have hmem : (en.filter fun x => !sb.contains x.born)[c] ∈ en.filter fun x => !sb.contains x.born := Array.getElem_mem hc2
          generalize hx0 : (en.filter fun x => !sb.contains x.born)[c] = x0 at hmem
          rw [Array.mem_filter] at hmem
          obtain ⟨j, hjl, hjx⟩ := Array.mem_iff_getElem.1 hmem.1
          have hjx' : en[j]? = some x0 := by rw [Array.getElem?_eq_getElem hjl, hjx]
          have hjn : j ∉ seen := by
            intro hj
            have := (hseen j x0 hjx').2 hj
            rw [this] at hmem; simp at hmem
          have hjes : j < es.length := by rw [← g3]; exact hjl
          obtain ⟨e0, q1, q2, q3⟩ := g4 j es[j].1 es[j].2 (List.getElem?_eq_getElem hjes)
          rw [hjx'] at q1
          simp only [Option.some.injEq] at q1
          subst q1
          have hw1h : w1.heap = w.heap := by rcases hc3 with rfl | rfl <;> rfl
          have hfw1 : FW G N e k β A st a w1 := by
            rcases hc3 with rfl | rfl
            · exact h
            · exact h.drew
          obtain ⟨w', s1, s2, s3⟩ := run_setObj (P := P) (w := w1) (ob' := .mapIter (some (k.ω id)) clock (sb.push x0.born) clock) (by rw [hw1h]; exact g1) (by intro c e f hh; cases hh)
          refine eff_value (x := .tuple #[.bool true, x0.key, x0.val]) (w' := w') ?_ (hstep j _ _ (List.getElem?_eq_getElem hjes) hjn) ?_
          · rw [hex]
            refine exec_value ?_
            rw [hX]
            have hne : (en.filter fun x => !sb.contains x.born).isEmpty = false := by simpa using hemp
            have hcand : ((#[] : Array (Option MapEntry)) ++ (en.filter fun x => !sb.contains x.born).map some).size = (en.filter fun x => !sb.contains x.born).size := by simp
            have hget : ((#[] : Array (Option MapEntry)) ++ (en.filter fun x => !sb.contains x.born).map some)[c]? = some (some x0) := by
              simp only [Array.empty_append, Array.getElem?_map, Array.getElem?_eq_getElem hc2, hx0, Option.map_some]
            simp only [Instr.next, Sem.run_bind, r1, Result.andThen_ok, r2, hcond, Bool.false_eq_true, if_false, hleft, hnew, hne, Array.append_empty, hcand, hc1, hget, s1, Sem.run_pure]
          · have hne : id ≠ i := by intro heq; subst heq; have := H.mapAt_some hg; rw [hobj] at this; simp at this
            have hωne : k.ω id ≠ k.ω i := fun heq => hne (h.wr.inj _ _ _ _ (H.mapAt_some hg) hobj heq)
            have h2 := hfw1.setObj (o' := .iter id ver' (j :: seen)) hobj s2 (fun c e hc => by rw [hw1h, g1] at hc; simp at hc) (fun hkk => by
              refine ⟨clock, sb.push x0.born, clock, s3, g10, fun es' ver2 en' clock' ho hw => ?_⟩
              simp only [H.set, upd_ne _ _ hne] at ho
              rw [H.mapAt_some hg] at ho
              simp only [Option.some.injEq, O.map.injEq] at ho
              obtain ⟨rfl, rfl⟩ := ho
              rw [s2.other _ hωne, hw1h, g2] at hw
              simp only [Option.some.injEq, Obj.map.injEq] at hw
              obtain ⟨rfl, rfl⟩ := hw
              refine ⟨Nat.le_refl _, fun _ => ⟨rfl, rfl, List.nodup_cons.2 ⟨hjn, g7⟩, fun j' hj' => ?_, ?_⟩⟩
              · rcases List.mem_cons.1 hj' with rfl | hj'
                · exact hjes
                · exact g8 j' hj'
              · simp [g9, Array.getD_eq_getD_getElem?, hjx']) (fun id2 ver2 seen2 hne2 hit2 hor => by
              obtain ⟨since, sb2, stepped, a1, a2, a3⟩ := hor
              refine ⟨since, sb2, stepped, a1, a2, fun es' ver3 en' clock' ho hw => ?_⟩
              simp [H.set, upd] at ho)
            rw [put_tick]
            have hkk : Keeps k k w w' := by
              refine Keeps.change (b := k.ω i) ⟨s2.size.trans (by rw [hw1h]), fun b' hb' => by rw [s2.other b' hb', hw1h], ?_⟩ (h.wr.obj i _ hobj).2.2.1 (fun c e hc => by rw [g1] at hc; simp at hc)
              rcases hc3 with rfl | rfl <;> exact s2.misc
            refine (h2.tick.put (d := o.dst) (v := .tuple [.bool true, es[j].1, es[j].2]) (x := .tuple #[.bool true, x0.key, x0.val]) hd ⟨#[.bool true, x0.key, x0.val], rfl, rfl, fun j v hj => ?_⟩).inv
            match j with
            | 0 => simp at hj; subst hj; exact ⟨.bool true, rfl, (VR.bool true).sr1⟩
            | 1 => simp at hj; subst hj; exact ⟨x0.key, rfl, (q2.mono hkk).sr1⟩
            | 2 => simp at hj; subst hj; exact ⟨x0.val, rfl, (q3.mono hkk).sr1⟩
            | j + 3 => simp at hj
      · exact he.elim
    · exact he.elim
  · exact he.elim

end
end Go.Ab
