import Derived.Test.YtihmoaibgmhjeaaDoorA2
set_option linter.unusedVariables false
set_option linter.unusedSimpArgs false
namespace Go.Ab
def kidsN (k : Int) : Int := if k = 1 ∨ k = 2 then 0 else if k = 3 ∨ k = 5 then 1 else if k = 4 then 2 else if k = 6 then 3 else -1
def noName : ByteArray := ⟨#[]⟩
mutual
def VE : Exp → Nat → Prop
 | .mk k o n s ks, lv => lv ≤ 24 ∧ kidsN k = ks.length ∧ ((k = 2 ∨ k = 3) → isName s) ∧ (¬ (k = 2 ∨ k = 3) → s = noName) ∧ (k = 4 → 1 ≤ o ∧ o ≤ 7) ∧ (k ≠ 4 → o = 0) ∧ n ≤ 1152921504606846975 ∧ (k ≠ 1 → n = 0) ∧ VEs ks (lv + 1)
def VEs : List Exp → Nat → Prop
 | [], _ => True
 | e :: es, lv => VE e lv ∧ VEs es lv
end
theorem VEs_all : ∀ {l : List Exp} {lv : Nat}, VEs l lv ↔ ∀ x ∈ l, VE x lv
 | [], lv => by simp [VEs]
 | e :: es, lv => by simp [VEs, VEs_all]
theorem VE_mk {k o : Int} {n : Nat} {s : ByteArray} {ks : List Exp} {lv : Nat} : VE (.mk k o n s ks) lv ↔ (lv ≤ 24 ∧ kidsN k = ks.length ∧ ((k = 2 ∨ k = 3) → isName s) ∧ (¬ (k = 2 ∨ k = 3) → s = noName) ∧ (k = 4 → 1 ≤ o ∧ o ≤ 7) ∧ (k ≠ 4 → o = 0) ∧ n ≤ 1152921504606846975 ∧ (k ≠ 1 → n = 0) ∧ ∀ x ∈ ks, VE x (lv + 1)) := by
 rw [VE, VEs_all]
mutual
def VS : Stm → Nat → Prop
 | .mk k s e a b, lv => lv ≤ 24 ∧ 1 ≤ k ∧ k ≤ 5 ∧ e.length = (if k = 2 ∨ k = 4 then 2 else 1) ∧ ((k ≠ 3 ∧ k ≠ 5) → isName s) ∧ (¬ (k ≠ 3 ∧ k ≠ 5) → s = noName) ∧ (k ≠ 3 → b = []) ∧ (k ≠ 3 → k ≠ 4 → a = []) ∧ VEs e (lv + 1) ∧ VSs a (lv + 1) ∧ VSs b (lv + 1)
def VSs : List Stm → Nat → Prop
 | [], _ => True
 | e :: es, lv => VS e lv ∧ VSs es lv
end
theorem VSs_all : ∀ {l : List Stm} {lv : Nat}, VSs l lv ↔ ∀ x ∈ l, VS x lv
 | [], lv => by simp [VSs]
 | e :: es, lv => by simp [VSs, VSs_all]
theorem VS_mk {k : Int} {s : ByteArray} {e : List Exp} {a b : List Stm} {lv : Nat} : VS (.mk k s e a b) lv ↔ (lv ≤ 24 ∧ 1 ≤ k ∧ k ≤ 5 ∧ e.length = (if k = 2 ∨ k = 4 then 2 else 1) ∧ ((k ≠ 3 ∧ k ≠ 5) → isName s) ∧ (¬ (k ≠ 3 ∧ k ≠ 5) → s = noName) ∧ (k ≠ 3 → b = []) ∧ (k ≠ 3 → k ≠ 4 → a = []) ∧ (∀ x ∈ e, VE x (lv + 1)) ∧ VSs a (lv + 1) ∧ VSs b (lv + 1)) := by
 rw [VS, VEs_all]
theorem EOk_mk {k o : Int} {n : Nat} {s : ByteArray} {ks : List Exp} (h : EOk (.mk k o n s ks)) : I64 k ∧ I64 o ∧ n < 18446744073709551616 ∧ s.size ≤ maxLen ∧ ks.length ≤ maxLen ∧ ∀ x ∈ ks, EOk x := by
 cases h with
 | mk a b c d e f => exact ⟨a, b, c, d, e, f⟩
theorem SOk_mk {k : Int} {s : ByteArray} {e : List Exp} {a b : List Stm} (h : SOk (.mk k s e a b)) : I64 k ∧ s.size ≤ maxLen ∧ e.length ≤ maxLen ∧ a.length ≤ maxLen ∧ b.length ≤ maxLen ∧ (∀ x ∈ e, EOk x) ∧ (∀ x ∈ a, SOk x) ∧ ∀ x ∈ b, SOk x := by
 cases h with
 | mk a1 a2 a3 a4 a5 a6 a7 a8 => exact ⟨a1, a2, a3, a4, a5, a6, a7, a8⟩
theorem maxLen_eq : maxLen = 9223372036854775807 := by decide
namespace YtihmoaibgmhjeaaDoor
section
variable {h : H} {K : Out → H → Prop}
theorem kids27 {e : Exp} (hK : K (.ret (I (kidsN e.kind))) h) : R 69 [e.v] h K := by
 obtain ⟨k, o, n, s, ks⟩ := e
 refine run69 (Nat.le_of_ble_eq_true rfl) ?_
 by_cases c1 : k = 1
 ·simp -dsimp -implicitDefEqProofs only [↓STP, STQ, seval, Exp.v_mk, ir69, eq_true c1]
  simpa [Exp.kind, kidsN, c1] using hK
 by_cases c2 : k = 2
 ·simp -dsimp -implicitDefEqProofs only [↓STP, STQ, seval, Exp.v_mk, ir69, eq_false c1, eq_true c2]
  simpa [Exp.kind, kidsN, c2] using hK
 by_cases c3 : k = 3
 ·simp -dsimp -implicitDefEqProofs only [↓STP, STQ, seval, Exp.v_mk, ir69, eq_false c1, eq_false c2, eq_true c3]
  simpa [Exp.kind, kidsN, c3] using hK
 by_cases c5 : k = 5
 ·simp -dsimp -implicitDefEqProofs only [↓STP, STQ, seval, Exp.v_mk, ir69, eq_false c1, eq_false c2, eq_false c3, eq_true c5]
  simpa [Exp.kind, kidsN, c5] using hK
 by_cases c4 : k = 4
 ·simp -dsimp -implicitDefEqProofs only [↓STP, STQ, seval, Exp.v_mk, ir69, eq_false c1, eq_false c2, eq_false c3, eq_false c5, eq_true c4]
  simpa [Exp.kind, kidsN, c4] using hK
 by_cases c6 : k = 6
 ·simp -dsimp -implicitDefEqProofs only [↓STP, STQ, seval, Exp.v_mk, ir69, eq_false c1, eq_false c2, eq_false c3, eq_false c5, eq_false c4, eq_true c6]
  simpa [Exp.kind, kidsN, c6] using hK
 simp -dsimp -implicitDefEqProofs only [↓STP, STQ, seval, Exp.v_mk, ir69, eq_false c1, eq_false c2, eq_false c3, eq_false c5, eq_false c4, eq_false c6]
 simpa [Exp.kind, kidsN, c1, c2, c3, c4, c5, c6] using hK
theorem expr27 (e : Exp) : ∀ (lv : Nat) (h : H) (K : Out → H → Prop), EOk e → lv ≤ 100 → (∀ b : Bool, (b = true ↔ VE e lv) → K (.ret (.bool b)) h) → R 52 [e.v, I lv] h K := by
 induction e using Exp.ind with
 | h k o n s ks ih =>
  intro lv h K ok hlv hK
  obtain ⟨hk, ho, hn, hs, hl, hks⟩ := EOk_mk ok
  have no : ¬ VE (.mk k o n s ks) lv → K (.ret (.bool false)) h := fun hn => hK false (iff_of_false (by simp) hn)
  refine run52 (Nat.le_of_ble_eq_true rfl) ?_
  by_cases a : (24 : Int) < (lv : Int)
  ·simp -dsimp -implicitDefEqProofs only [↓STP, STQ, seval, Exp.v_mk, ir52, a]
   exact no fun h => by have := (VE_mk.1 h).1; omega
  have kd := @kids27 h
  by_cases c : kidsN k = (ks.length : Int)
  rotate_left
  ·simp -dsimp -implicitDefEqProofs only [↓STP, STQ, seval, Exp.v_mk, ir52, a]
   rw [← Exp.v_mk]
   refine kids27 ?_
   simp -dsimp -implicitDefEqProofs only [↓STP, STQ, seval, Exp.v_mk, Exp.kind, List.length_map, eq_false c]
   exact no fun h => c (VE_mk.1 h).2.1
  have kk : k = 1 ∨ k = 2 ∨ k = 3 ∨ k = 4 ∨ k = 5 ∨ k = 6 := by
   unfold kidsN at c
   split at c
   ·omega
   ·split at c
    ·omega
    ·split at c
     ·omega
     ·split at c <;> omega
  simp -dsimp -implicitDefEqProofs only [↓STP, STQ, seval, Exp.v_mk, ir52, a]
  rw [← Exp.v_mk]
  refine kids27 ?_
  have wl : IntKind.i64.wrap ((lv : Int) + 1) = ((lv + 1 : Nat) : Int) := wi (by omega)
  have names : (k = 2 ∨ k = 3) → isName s ∨ K (.ret (.bool false)) h := fun hk => by
   by_cases hh : isName s
   ·exact .inl hh
   ·exact .inr (no fun h => hh ((VE_mk.1 h).2.2.1 hk))
  have numb : k ≠ 1 → n = 0 ∨ K (.ret (.bool false)) h := fun hk => by
   by_cases hh : n = 0
   ·exact .inl hh
   ·exact .inr (no fun h => hh ((VE_mk.1 h).2.2.2.2.2.2.2.1 hk))
  rcases kk with rfl | rfl | rfl | rfl | rfl | rfl
  ·by_cases hnm : s = noName
   rotate_left
   ·simp -dsimp -implicitDefEqProofs only [↓STP, STQ, seval, Exp.v_mk, Exp.kind, List.length_map, eq_true c, binS, bneS, eq_false (show ¬ s = ⟨#[]⟩ from hnm)]
    exact no fun h => hnm ((VE_mk.1 h).2.2.2.1 (by decide))
   by_cases ho0 : o = 0
   rotate_left
   ·simp -dsimp -implicitDefEqProofs only [↓STP, STQ, seval, Exp.v_mk, Exp.kind, List.length_map, eq_true c, binS, bneS, eq_true (show s = ⟨#[]⟩ from hnm), eq_false ho0]
    exact no fun h => ho0 ((VE_mk.1 h).2.2.2.2.2.1 (by decide))
   by_cases cn : (1152921504606846975 : Int) < (n : Int)
   ·simp -dsimp -implicitDefEqProofs only [↓STP, STQ, seval, Exp.v_mk, Exp.kind, List.length_map, eq_true c, binS, bneS, eq_true (show s = ⟨#[]⟩ from hnm), eq_true ho0, eq_true cn]
    exact no fun h => by have := (VE_mk.1 h).2.2.2.2.2.2.1; omega
   simp -dsimp -implicitDefEqProofs only [↓STP, STQ, seval, Exp.v_mk, Exp.kind, List.length_map, eq_true c, binS, bneS, eq_true (show s = ⟨#[]⟩ from hnm), eq_true ho0, eq_false cn]
   refine codeT_for (N := ks.length) (fun i => ⟨upd (upd (upd ρ0 1 (I lv)) 2 (.lptr 0 5 0)) 6 (I i), upd m0 0 (some [I 1, I o, W n, .str s, .vec (ks.map Exp.v) .any]), 1, [], h⟩) (fun i => ∀ x ∈ ks.take i, VE x (lv + 1)) (by simp -dsimp -implicitDefEqProofs only [↓STP, STQ, seval] <;> rfl) (by simp) (fun i hi hp => ?_) (fun hp => ?_) mono
   ·simp -dsimp -implicitDefEqProofs only [↓STP, STQ, seval, List.length_map, Int.ofNat_lt, hi, get_map hi, Exp.v_clen, Exp.v_tk, Exp.v_ag, Exp.v_out, wl]
    refine ih _ (List.getElem_mem hi) (lv + 1) h _ (hks _ (List.getElem_mem hi)) (by omega) fun b hb => ?_
    cases b with
    | false =>
     simp -dsimp -implicitDefEqProofs only [↓STP, STQ, seval]
     exact no fun h => by have := hb.2 ((VE_mk.1 h).2.2.2.2.2.2.2.2 _ (List.getElem_mem hi)); cases this
    | true =>
     simp -dsimp -implicitDefEqProofs only [↓STP, STQ, seval, wiM (show i < 9223372036854775807 by have := maxLen_eq; omega)]
     intro x hx
     rw [List.take_add_one, List.getElem?_eq_getElem hi] at hx
     rcases List.mem_append.1 hx with hx | hx
     ·exact hp x hx
     ·simp at hx; subst hx; exact hb.1 rfl
   ·simp -dsimp -implicitDefEqProofs only [↓STP, STQ, seval, List.length_map, Int.lt_irrefl]
    rw [List.take_length] at hp
    exact hK true (iff_of_true rfl (VE_mk.2 ⟨by omega, c, fun h => by omega, fun _ => hnm, fun h => by omega, fun _ => ho0, by omega, fun h => absurd rfl h, hp⟩))
  ·simp -dsimp -implicitDefEqProofs only [↓STP, STQ, seval, Exp.v_mk, Exp.kind, List.length_map, eq_true c]
   refine isName_spec hs fun b hb => ?_
   cases b with
   | false =>
    simp -dsimp -implicitDefEqProofs only [↓STP, STQ, seval]
    exact no fun h => by have := hb.2 ((VE_mk.1 h).2.2.1 (by decide)); cases this
   | true =>
    have hnm := hb.1 rfl
    by_cases ho0 : o = 0
    rotate_left
    ·simp -dsimp -implicitDefEqProofs only [↓STP, STQ, seval, eq_false ho0]
     exact no fun h => ho0 ((VE_mk.1 h).2.2.2.2.2.1 (by decide))
    by_cases cn : (1152921504606846975 : Int) < (n : Int)
    ·simp -dsimp -implicitDefEqProofs only [↓STP, STQ, seval, eq_true ho0, eq_true cn]
     exact no fun h => by have := (VE_mk.1 h).2.2.2.2.2.2.1; omega
    by_cases cz : (n : Int) = 0
    rotate_left
    ·simp -dsimp -implicitDefEqProofs only [↓STP, STQ, seval, eq_true ho0, eq_false cn, eq_false cz]
     exact no fun h => by have := (VE_mk.1 h).2.2.2.2.2.2.2.1 (by decide); omega
    simp -dsimp -implicitDefEqProofs only [↓STP, STQ, seval, eq_true ho0, eq_false cn, eq_true cz]
    refine codeT_for (N := ks.length) (fun i => ⟨upd (upd (upd ρ0 1 (I lv)) 2 (.lptr 0 5 0)) 6 (I i), upd m0 0 (some [I 2, I o, W n, .str s, .vec (ks.map Exp.v) .any]), 1, [], h⟩) (fun i => ∀ x ∈ ks.take i, VE x (lv + 1)) (by simp -dsimp -implicitDefEqProofs only [↓STP, STQ, seval] <;> rfl) (by simp) (fun i hi hp => ?_) (fun hp => ?_) mono
    ·simp -dsimp -implicitDefEqProofs only [↓STP, STQ, seval, List.length_map, Int.ofNat_lt, hi, get_map hi, Exp.v_clen, Exp.v_tk, Exp.v_ag, Exp.v_out, wl]
     refine ih _ (List.getElem_mem hi) (lv + 1) h _ (hks _ (List.getElem_mem hi)) (by omega) fun b hb => ?_
     cases b with
     | false =>
      simp -dsimp -implicitDefEqProofs only [↓STP, STQ, seval]
      exact no fun h => by have := hb.2 ((VE_mk.1 h).2.2.2.2.2.2.2.2 _ (List.getElem_mem hi)); cases this
     | true =>
      simp -dsimp -implicitDefEqProofs only [↓STP, STQ, seval, wiM (show i < 9223372036854775807 by have := maxLen_eq; omega)]
      intro x hx
      rw [List.take_add_one, List.getElem?_eq_getElem hi] at hx
      rcases List.mem_append.1 hx with hx | hx
      ·exact hp x hx
      ·simp at hx; subst hx; exact hb.1 rfl
    ·simp -dsimp -implicitDefEqProofs only [↓STP, STQ, seval, List.length_map, Int.lt_irrefl]
     rw [List.take_length] at hp
     exact hK true (iff_of_true rfl (VE_mk.2 ⟨by omega, c, fun _ => hnm, fun h => absurd h (by simp), fun h => by omega, fun _ => ho0, by omega, fun _ => by omega, hp⟩))
  ·simp -dsimp -implicitDefEqProofs only [↓STP, STQ, seval, Exp.v_mk, Exp.kind, List.length_map, eq_true c]
   refine isName_spec hs fun b hb => ?_
   cases b with
   | false =>
    simp -dsimp -implicitDefEqProofs only [↓STP, STQ, seval]
    exact no fun h => by have := hb.2 ((VE_mk.1 h).2.2.1 (by decide)); cases this
   | true =>
    have hnm := hb.1 rfl
    by_cases ho0 : o = 0
    rotate_left
    ·simp -dsimp -implicitDefEqProofs only [↓STP, STQ, seval, eq_false ho0]
     exact no fun h => ho0 ((VE_mk.1 h).2.2.2.2.2.1 (by decide))
    by_cases cn : (1152921504606846975 : Int) < (n : Int)
    ·simp -dsimp -implicitDefEqProofs only [↓STP, STQ, seval, eq_true ho0, eq_true cn]
     exact no fun h => by have := (VE_mk.1 h).2.2.2.2.2.2.1; omega
    by_cases cz : (n : Int) = 0
    rotate_left
    ·simp -dsimp -implicitDefEqProofs only [↓STP, STQ, seval, eq_true ho0, eq_false cn, eq_false cz]
     exact no fun h => by have := (VE_mk.1 h).2.2.2.2.2.2.2.1 (by decide); omega
    simp -dsimp -implicitDefEqProofs only [↓STP, STQ, seval, eq_true ho0, eq_false cn, eq_true cz]
    refine codeT_for (N := ks.length) (fun i => ⟨upd (upd (upd ρ0 1 (I lv)) 2 (.lptr 0 5 0)) 6 (I i), upd m0 0 (some [I 3, I o, W n, .str s, .vec (ks.map Exp.v) .any]), 1, [], h⟩) (fun i => ∀ x ∈ ks.take i, VE x (lv + 1)) (by simp -dsimp -implicitDefEqProofs only [↓STP, STQ, seval] <;> rfl) (by simp) (fun i hi hp => ?_) (fun hp => ?_) mono
    ·simp -dsimp -implicitDefEqProofs only [↓STP, STQ, seval, List.length_map, Int.ofNat_lt, hi, get_map hi, Exp.v_clen, Exp.v_tk, Exp.v_ag, Exp.v_out, wl]
     refine ih _ (List.getElem_mem hi) (lv + 1) h _ (hks _ (List.getElem_mem hi)) (by omega) fun b hb => ?_
     cases b with
     | false =>
      simp -dsimp -implicitDefEqProofs only [↓STP, STQ, seval]
      exact no fun h => by have := hb.2 ((VE_mk.1 h).2.2.2.2.2.2.2.2 _ (List.getElem_mem hi)); cases this
     | true =>
      simp -dsimp -implicitDefEqProofs only [↓STP, STQ, seval, wiM (show i < 9223372036854775807 by have := maxLen_eq; omega)]
      intro x hx
      rw [List.take_add_one, List.getElem?_eq_getElem hi] at hx
      rcases List.mem_append.1 hx with hx | hx
      ·exact hp x hx
      ·simp at hx; subst hx; exact hb.1 rfl
    ·simp -dsimp -implicitDefEqProofs only [↓STP, STQ, seval, List.length_map, Int.lt_irrefl]
     rw [List.take_length] at hp
     exact hK true (iff_of_true rfl (VE_mk.2 ⟨by omega, c, fun _ => hnm, fun h => absurd h (by simp), fun h => by omega, fun _ => ho0, by omega, fun _ => by omega, hp⟩))
  ·by_cases hnm : s = noName
   rotate_left
   ·simp -dsimp -implicitDefEqProofs only [↓STP, STQ, seval, Exp.v_mk, Exp.kind, List.length_map, eq_true c, binS, bneS, eq_false (show ¬ s = ⟨#[]⟩ from hnm)]
    exact no fun h => hnm ((VE_mk.1 h).2.2.2.1 (by decide))
   by_cases co : o < 1
   ·simp -dsimp -implicitDefEqProofs only [↓STP, STQ, seval, Exp.v_mk, Exp.kind, List.length_map, eq_true c, binS, bneS, eq_true (show s = ⟨#[]⟩ from hnm), eq_true co]
    exact no fun h => by have := (VE_mk.1 h).2.2.2.2.1 rfl; omega
   by_cases cp : 7 < o
   ·simp -dsimp -implicitDefEqProofs only [↓STP, STQ, seval, Exp.v_mk, Exp.kind, List.length_map, eq_true c, binS, bneS, eq_true (show s = ⟨#[]⟩ from hnm), eq_false co, eq_true cp]
    exact no fun h => by have := (VE_mk.1 h).2.2.2.2.1 rfl; omega
   by_cases cn : (1152921504606846975 : Int) < (n : Int)
   ·simp -dsimp -implicitDefEqProofs only [↓STP, STQ, seval, Exp.v_mk, Exp.kind, List.length_map, eq_true c, binS, bneS, eq_true (show s = ⟨#[]⟩ from hnm), eq_false co, eq_false cp, eq_true cn]
    exact no fun h => by have := (VE_mk.1 h).2.2.2.2.2.2.1; omega
   by_cases cz : (n : Int) = 0
   rotate_left
   ·simp -dsimp -implicitDefEqProofs only [↓STP, STQ, seval, Exp.v_mk, Exp.kind, List.length_map, eq_true c, binS, bneS, eq_true (show s = ⟨#[]⟩ from hnm), eq_false co, eq_false cp, eq_false cn, eq_false cz]
    exact no fun h => by have := (VE_mk.1 h).2.2.2.2.2.2.2.1 (by decide); omega
   simp -dsimp -implicitDefEqProofs only [↓STP, STQ, seval, Exp.v_mk, Exp.kind, List.length_map, eq_true c, binS, bneS, eq_true (show s = ⟨#[]⟩ from hnm), eq_false co, eq_false cp, eq_false cn, eq_true cz]
   refine codeT_for (N := ks.length) (fun i => ⟨upd (upd (upd ρ0 1 (I lv)) 2 (.lptr 0 5 0)) 6 (I i), upd m0 0 (some [I 4, I o, W n, .str s, .vec (ks.map Exp.v) .any]), 1, [], h⟩) (fun i => ∀ x ∈ ks.take i, VE x (lv + 1)) (by simp -dsimp -implicitDefEqProofs only [↓STP, STQ, seval] <;> rfl) (by simp) (fun i hi hp => ?_) (fun hp => ?_) mono
   ·simp -dsimp -implicitDefEqProofs only [↓STP, STQ, seval, List.length_map, Int.ofNat_lt, hi, get_map hi, Exp.v_clen, Exp.v_tk, Exp.v_ag, Exp.v_out, wl]
    refine ih _ (List.getElem_mem hi) (lv + 1) h _ (hks _ (List.getElem_mem hi)) (by omega) fun b hb => ?_
    cases b with
    | false =>
     simp -dsimp -implicitDefEqProofs only [↓STP, STQ, seval]
     exact no fun h => by have := hb.2 ((VE_mk.1 h).2.2.2.2.2.2.2.2 _ (List.getElem_mem hi)); cases this
    | true =>
     simp -dsimp -implicitDefEqProofs only [↓STP, STQ, seval, wiM (show i < 9223372036854775807 by have := maxLen_eq; omega)]
     intro x hx
     rw [List.take_add_one, List.getElem?_eq_getElem hi] at hx
     rcases List.mem_append.1 hx with hx | hx
     ·exact hp x hx
     ·simp at hx; subst hx; exact hb.1 rfl
   ·simp -dsimp -implicitDefEqProofs only [↓STP, STQ, seval, List.length_map, Int.lt_irrefl]
    rw [List.take_length] at hp
    exact hK true (iff_of_true rfl (VE_mk.2 ⟨by omega, c, fun h => by omega, fun _ => hnm, fun _ => ⟨by omega, by omega⟩, fun h => absurd rfl h, by omega, fun _ => by omega, hp⟩))
  ·by_cases hnm : s = noName
   rotate_left
   ·simp -dsimp -implicitDefEqProofs only [↓STP, STQ, seval, Exp.v_mk, Exp.kind, List.length_map, eq_true c, binS, bneS, eq_false (show ¬ s = ⟨#[]⟩ from hnm)]
    exact no fun h => hnm ((VE_mk.1 h).2.2.2.1 (by decide))
   by_cases ho0 : o = 0
   rotate_left
   ·simp -dsimp -implicitDefEqProofs only [↓STP, STQ, seval, Exp.v_mk, Exp.kind, List.length_map, eq_true c, binS, bneS, eq_true (show s = ⟨#[]⟩ from hnm), eq_false ho0]
    exact no fun h => ho0 ((VE_mk.1 h).2.2.2.2.2.1 (by decide))
   by_cases cn : (1152921504606846975 : Int) < (n : Int)
   ·simp -dsimp -implicitDefEqProofs only [↓STP, STQ, seval, Exp.v_mk, Exp.kind, List.length_map, eq_true c, binS, bneS, eq_true (show s = ⟨#[]⟩ from hnm), eq_true ho0, eq_true cn]
    exact no fun h => by have := (VE_mk.1 h).2.2.2.2.2.2.1; omega
   by_cases cz : (n : Int) = 0
   rotate_left
   ·simp -dsimp -implicitDefEqProofs only [↓STP, STQ, seval, Exp.v_mk, Exp.kind, List.length_map, eq_true c, binS, bneS, eq_true (show s = ⟨#[]⟩ from hnm), eq_true ho0, eq_false cn, eq_false cz]
    exact no fun h => by have := (VE_mk.1 h).2.2.2.2.2.2.2.1 (by decide); omega
   simp -dsimp -implicitDefEqProofs only [↓STP, STQ, seval, Exp.v_mk, Exp.kind, List.length_map, eq_true c, binS, bneS, eq_true (show s = ⟨#[]⟩ from hnm), eq_true ho0, eq_false cn, eq_true cz]
   refine codeT_for (N := ks.length) (fun i => ⟨upd (upd (upd ρ0 1 (I lv)) 2 (.lptr 0 5 0)) 6 (I i), upd m0 0 (some [I 5, I o, W n, .str s, .vec (ks.map Exp.v) .any]), 1, [], h⟩) (fun i => ∀ x ∈ ks.take i, VE x (lv + 1)) (by simp -dsimp -implicitDefEqProofs only [↓STP, STQ, seval] <;> rfl) (by simp) (fun i hi hp => ?_) (fun hp => ?_) mono
   ·simp -dsimp -implicitDefEqProofs only [↓STP, STQ, seval, List.length_map, Int.ofNat_lt, hi, get_map hi, Exp.v_clen, Exp.v_tk, Exp.v_ag, Exp.v_out, wl]
    refine ih _ (List.getElem_mem hi) (lv + 1) h _ (hks _ (List.getElem_mem hi)) (by omega) fun b hb => ?_
    cases b with
    | false =>
     simp -dsimp -implicitDefEqProofs only [↓STP, STQ, seval]
     exact no fun h => by have := hb.2 ((VE_mk.1 h).2.2.2.2.2.2.2.2 _ (List.getElem_mem hi)); cases this
    | true =>
     simp -dsimp -implicitDefEqProofs only [↓STP, STQ, seval, wiM (show i < 9223372036854775807 by have := maxLen_eq; omega)]
     intro x hx
     rw [List.take_add_one, List.getElem?_eq_getElem hi] at hx
     rcases List.mem_append.1 hx with hx | hx
     ·exact hp x hx
     ·simp at hx; subst hx; exact hb.1 rfl
   ·simp -dsimp -implicitDefEqProofs only [↓STP, STQ, seval, List.length_map, Int.lt_irrefl]
    rw [List.take_length] at hp
    exact hK true (iff_of_true rfl (VE_mk.2 ⟨by omega, c, fun h => by omega, fun _ => hnm, fun h => by omega, fun _ => ho0, by omega, fun _ => by omega, hp⟩))
  ·by_cases hnm : s = noName
   rotate_left
   ·simp -dsimp -implicitDefEqProofs only [↓STP, STQ, seval, Exp.v_mk, Exp.kind, List.length_map, eq_true c, binS, bneS, eq_false (show ¬ s = ⟨#[]⟩ from hnm)]
    exact no fun h => hnm ((VE_mk.1 h).2.2.2.1 (by decide))
   by_cases ho0 : o = 0
   rotate_left
   ·simp -dsimp -implicitDefEqProofs only [↓STP, STQ, seval, Exp.v_mk, Exp.kind, List.length_map, eq_true c, binS, bneS, eq_true (show s = ⟨#[]⟩ from hnm), eq_false ho0]
    exact no fun h => ho0 ((VE_mk.1 h).2.2.2.2.2.1 (by decide))
   by_cases cn : (1152921504606846975 : Int) < (n : Int)
   ·simp -dsimp -implicitDefEqProofs only [↓STP, STQ, seval, Exp.v_mk, Exp.kind, List.length_map, eq_true c, binS, bneS, eq_true (show s = ⟨#[]⟩ from hnm), eq_true ho0, eq_true cn]
    exact no fun h => by have := (VE_mk.1 h).2.2.2.2.2.2.1; omega
   by_cases cz : (n : Int) = 0
   rotate_left
   ·simp -dsimp -implicitDefEqProofs only [↓STP, STQ, seval, Exp.v_mk, Exp.kind, List.length_map, eq_true c, binS, bneS, eq_true (show s = ⟨#[]⟩ from hnm), eq_true ho0, eq_false cn, eq_false cz]
    exact no fun h => by have := (VE_mk.1 h).2.2.2.2.2.2.2.1 (by decide); omega
   simp -dsimp -implicitDefEqProofs only [↓STP, STQ, seval, Exp.v_mk, Exp.kind, List.length_map, eq_true c, binS, bneS, eq_true (show s = ⟨#[]⟩ from hnm), eq_true ho0, eq_false cn, eq_true cz]
   refine codeT_for (N := ks.length) (fun i => ⟨upd (upd (upd ρ0 1 (I lv)) 2 (.lptr 0 5 0)) 6 (I i), upd m0 0 (some [I 6, I o, W n, .str s, .vec (ks.map Exp.v) .any]), 1, [], h⟩) (fun i => ∀ x ∈ ks.take i, VE x (lv + 1)) (by simp -dsimp -implicitDefEqProofs only [↓STP, STQ, seval] <;> rfl) (by simp) (fun i hi hp => ?_) (fun hp => ?_) mono
   ·simp -dsimp -implicitDefEqProofs only [↓STP, STQ, seval, List.length_map, Int.ofNat_lt, hi, get_map hi, Exp.v_clen, Exp.v_tk, Exp.v_ag, Exp.v_out, wl]
    refine ih _ (List.getElem_mem hi) (lv + 1) h _ (hks _ (List.getElem_mem hi)) (by omega) fun b hb => ?_
    cases b with
    | false =>
     simp -dsimp -implicitDefEqProofs only [↓STP, STQ, seval]
     exact no fun h => by have := hb.2 ((VE_mk.1 h).2.2.2.2.2.2.2.2 _ (List.getElem_mem hi)); cases this
    | true =>
     simp -dsimp -implicitDefEqProofs only [↓STP, STQ, seval, wiM (show i < 9223372036854775807 by have := maxLen_eq; omega)]
     intro x hx
     rw [List.take_add_one, List.getElem?_eq_getElem hi] at hx
     rcases List.mem_append.1 hx with hx | hx
     ·exact hp x hx
     ·simp at hx; subst hx; exact hb.1 rfl
   ·simp -dsimp -implicitDefEqProofs only [↓STP, STQ, seval, List.length_map, Int.lt_irrefl]
    rw [List.take_length] at hp
    exact hK true (iff_of_true rfl (VE_mk.2 ⟨by omega, c, fun h => by omega, fun _ => hnm, fun h => by omega, fun _ => ho0, by omega, fun _ => by omega, hp⟩))
theorem stmts27_of (l : List Stm) (ih : ∀ x ∈ l, ∀ (lv : Nat) (h : H) (K : Out → H → Prop), SOk x → lv ≤ 100 → (∀ b : Bool, (b = true ↔ VS x lv) → K (.ret (.bool b)) h) → R 43 [x.v, I lv] h K) (hl : l.length ≤ maxLen) (ok : ∀ x ∈ l, SOk x) {lv : Nat} (hlv : lv ≤ 100)
  (hK : ∀ b : Bool, (b = true ↔ VSs l lv) → K (.ret (.bool b)) h) : R 31 [.vec (l.map Stm.v) .any, I lv] h K := by
 have hm := maxLen_eq
 refine run31 (Nat.le_of_ble_eq_true rfl) ?_
 simp -dsimp -implicitDefEqProofs only [↓STP, STQ, seval, ir31]
 refine codeT_for (N := l.length) (fun i => ⟨upd (upd (upd ρ0 0 (.vec (l.map Stm.v) .any)) 1 (I lv)) 5 (I i), m0, 0, [], h⟩) (fun i => ∀ x ∈ l.take i, VS x lv) (by simp -dsimp -implicitDefEqProofs only [↓STP, STQ, seval] <;> rfl) (by simp) (fun i hi hp => ?_) (fun hp => ?_) mono
 ·simp -dsimp -implicitDefEqProofs only [↓STP, STQ, seval, List.length_map, Int.ofNat_lt, hi, get_map hi, Stm.v_clen, Stm.v_tk, Stm.v_ag, Stm.v_out]
  refine ih _ (List.getElem_mem hi) lv h _ (ok _ (List.getElem_mem hi)) hlv fun b hb => ?_
  cases b with
  | false =>
   simp -dsimp -implicitDefEqProofs only [↓STP, STQ, seval]
   exact hK false (iff_of_false (by simp) fun h => by have := hb.2 (VSs_all.1 h _ (List.getElem_mem hi)); cases this)
  | true =>
   simp -dsimp -implicitDefEqProofs only [↓STP, STQ, seval, wiM (show i < 9223372036854775807 by omega)]
   intro x hx
   rw [List.take_add_one, List.getElem?_eq_getElem hi] at hx
   rcases List.mem_append.1 hx with hx | hx
   ·exact hp x hx
   ·simp at hx; subst hx; exact hb.1 rfl
 ·simp -dsimp -implicitDefEqProofs only [↓STP, STQ, seval, List.length_map, Int.lt_irrefl]
  rw [List.take_length] at hp
  exact hK true (iff_of_true rfl (VSs_all.2 hp))
theorem stmt27 (e : Stm) : ∀ (lv : Nat) (h : H) (K : Out → H → Prop), SOk e → lv ≤ 100 → (∀ b : Bool, (b = true ↔ VS e lv) → K (.ret (.bool b)) h) → R 43 [e.v, I lv] h K := by
 induction e using Stm.ind with
 | h k s e a b iha ihb =>
  intro lv h K ok hlv hK
  obtain ⟨hk, hs, hle, hla, hlb, he, ha, hb⟩ := SOk_mk ok
  have hm := maxLen_eq
  have no : ¬ VS (.mk k s e a b) lv → K (.ret (.bool false)) h := fun hn => hK false (iff_of_false (by simp) hn)
  refine run43 (Nat.le_of_ble_eq_true rfl) ?_
  by_cases c0 : (24 : Int) < (lv : Int)
  ·simp -dsimp -implicitDefEqProofs only [↓STP, STQ, seval, Stm.v_mk, ir43, c0]
   exact no fun h => by have := (VS_mk.1 h).1; omega
  by_cases c1 : k < 1
  ·simp -dsimp -implicitDefEqProofs only [↓STP, STQ, seval, Stm.v_mk, ir43, c0, c1]
   exact no fun h => by have := (VS_mk.1 h).2.1; omega
  by_cases c2 : 5 < k
  ·simp -dsimp -implicitDefEqProofs only [↓STP, STQ, seval, Stm.v_mk, ir43, c0, c1, c2]
   exact no fun h => by have := (VS_mk.1 h).2.2.1; omega
  have wl : IntKind.i64.wrap ((lv : Int) + 1) = ((lv + 1 : Nat) : Int) := wi (by omega)
  have hlv' : lv + 1 ≤ 100 := by omega
  have kk : k = 1 ∨ k = 2 ∨ k = 3 ∨ k = 4 ∨ k = 5 := by omega
  rcases kk with rfl | rfl | rfl | rfl | rfl
  ·by_cases ce : (e.length : Int) = 1
   rotate_left
   ·simp -dsimp -implicitDefEqProofs only [↓STP, STQ, seval, Stm.v_mk, ir43, c0, List.length_map, eq_false ce]
    exact no fun h => ce (by have := (VS_mk.1 h).2.2.2.1; simp at this; omega)
   have ce' : e.length = 1 := by omega
   simp -dsimp -implicitDefEqProofs only [↓STP, STQ, seval, Stm.v_mk, ir43, c0, List.length_map, ce']
   refine isName_spec hs fun b' hb' => ?_
   cases b' with
   | false =>
    simp -dsimp -implicitDefEqProofs only [↓STP, STQ, seval]
    exact no fun h => by have := hb'.2 ((VS_mk.1 h).2.2.2.2.1 (by decide)); cases this
   | true =>
    have hnm := hb'.1 rfl
    by_cases cb : (0 : Int) < (b.length : Int)
    ·simp -dsimp -implicitDefEqProofs only [↓STP, STQ, seval, List.length_map, eq_true cb]
     exact no fun h => by have := (VS_mk.1 h).2.2.2.2.2.2.1 (by decide); subst this; simp at cb
    by_cases ca : (0 : Int) < (a.length : Int)
    ·simp -dsimp -implicitDefEqProofs only [↓STP, STQ, seval, List.length_map, eq_false cb, eq_true ca]
     exact no fun h => by have := (VS_mk.1 h).2.2.2.2.2.2.2.1 (by decide) (by decide); subst this; simp at ca
    simp -dsimp -implicitDefEqProofs only [↓STP, STQ, seval, List.length_map, eq_false cb, eq_false ca]
    refine codeT_for (N := 1) (fun i => ⟨upd (upd (upd (upd ρ0 1 (I lv)) 2 (.lptr 0 5 0)) 5 (I 1)) 7 (I i), upd m0 0 (some [I 1, .str s, .vec (e.map Exp.v) .any, .vec (a.map Stm.v) .any, .vec (b.map Stm.v) .any]), 1, [], h⟩) (fun i => ∀ x ∈ e.take i, VE x (lv + 1)) (by simp -dsimp -implicitDefEqProofs only [↓STP, STQ, seval] <;> rfl) (by simp) (fun i hi hp => ?_) (fun hp => ?_) mono
    ·have hi' : i < e.length := by omega
     simp -dsimp -implicitDefEqProofs only [↓STP, STQ, seval, eq_true (show (i : Int) < 1 by omega), get_map hi', Exp.v_clen, Exp.v_tk, Exp.v_ag, Exp.v_out, wl]
     refine expr27 _ (lv + 1) h _ (he _ (List.getElem_mem hi')) (by omega) fun b' hb' => ?_
     cases b' with
     | false =>
      simp -dsimp -implicitDefEqProofs only [↓STP, STQ, seval]
      exact no fun h => by have := hb'.2 ((VS_mk.1 h).2.2.2.2.2.2.2.2.1 _ (List.getElem_mem hi')); cases this
     | true =>
      simp -dsimp -implicitDefEqProofs only [↓STP, STQ, seval, wiM (show i < 9223372036854775807 by omega)]
      intro x hx
      rw [List.take_add_one, List.getElem?_eq_getElem hi'] at hx
      rcases List.mem_append.1 hx with hx | hx
      ·exact hp x hx
      ·simp at hx; subst hx; exact hb'.1 rfl
    ·rw [List.take_of_length_le (by omega)] at hp
     simp -dsimp -implicitDefEqProofs only [↓STP, STQ, seval, wl]
     refine stmts27_of a iha hla ha hlv' fun b1 hb1 => ?_
     cases b1 with
     | false =>
      simp -dsimp -implicitDefEqProofs only [↓STP, STQ, seval]
      exact no fun h => by have := hb1.2 (VS_mk.1 h).2.2.2.2.2.2.2.2.2.1; cases this
     | true =>
      simp -dsimp -implicitDefEqProofs only [↓STP, STQ, seval, wl]
      refine stmts27_of b ihb hlb hb hlv' fun b2 hb2 => ?_
      cases b2 with
      | false =>
       simp -dsimp -implicitDefEqProofs only [↓STP, STQ, seval]
       exact no fun h => by have := hb2.2 (VS_mk.1 h).2.2.2.2.2.2.2.2.2.2; cases this
      | true =>
       simp -dsimp -implicitDefEqProofs only [↓STP, STQ, seval]
       exact hK true (iff_of_true rfl (VS_mk.2 ⟨by omega, by omega, by omega, by simpa using ce', fun _ => hnm, fun h => absurd h (by simp), fun _ => List.eq_nil_of_length_eq_zero (by omega), fun _ _ => List.eq_nil_of_length_eq_zero (by omega), hp, hb1.1 rfl, hb2.1 rfl⟩))
  ·by_cases ce : (e.length : Int) = 2
   rotate_left
   ·simp -dsimp -implicitDefEqProofs only [↓STP, STQ, seval, Stm.v_mk, ir43, c0, List.length_map, eq_false ce]
    exact no fun h => ce (by have := (VS_mk.1 h).2.2.2.1; simp at this; omega)
   have ce' : e.length = 2 := by omega
   simp -dsimp -implicitDefEqProofs only [↓STP, STQ, seval, Stm.v_mk, ir43, c0, List.length_map, ce']
   refine isName_spec hs fun b' hb' => ?_
   cases b' with
   | false =>
    simp -dsimp -implicitDefEqProofs only [↓STP, STQ, seval]
    exact no fun h => by have := hb'.2 ((VS_mk.1 h).2.2.2.2.1 (by decide)); cases this
   | true =>
    have hnm := hb'.1 rfl
    by_cases cb : (0 : Int) < (b.length : Int)
    ·simp -dsimp -implicitDefEqProofs only [↓STP, STQ, seval, List.length_map, eq_true cb]
     exact no fun h => by have := (VS_mk.1 h).2.2.2.2.2.2.1 (by decide); subst this; simp at cb
    by_cases ca : (0 : Int) < (a.length : Int)
    ·simp -dsimp -implicitDefEqProofs only [↓STP, STQ, seval, List.length_map, eq_false cb, eq_true ca]
     exact no fun h => by have := (VS_mk.1 h).2.2.2.2.2.2.2.1 (by decide) (by decide); subst this; simp at ca
    simp -dsimp -implicitDefEqProofs only [↓STP, STQ, seval, List.length_map, eq_false cb, eq_false ca]
    refine codeT_for (N := 2) (fun i => ⟨upd (upd (upd (upd ρ0 1 (I lv)) 2 (.lptr 0 5 0)) 5 (I 2)) 7 (I i), upd m0 0 (some [I 2, .str s, .vec (e.map Exp.v) .any, .vec (a.map Stm.v) .any, .vec (b.map Stm.v) .any]), 1, [], h⟩) (fun i => ∀ x ∈ e.take i, VE x (lv + 1)) (by simp -dsimp -implicitDefEqProofs only [↓STP, STQ, seval] <;> rfl) (by simp) (fun i hi hp => ?_) (fun hp => ?_) mono
    ·have hi' : i < e.length := by omega
     simp -dsimp -implicitDefEqProofs only [↓STP, STQ, seval, eq_true (show (i : Int) < 2 by omega), get_map hi', Exp.v_clen, Exp.v_tk, Exp.v_ag, Exp.v_out, wl]
     refine expr27 _ (lv + 1) h _ (he _ (List.getElem_mem hi')) (by omega) fun b' hb' => ?_
     cases b' with
     | false =>
      simp -dsimp -implicitDefEqProofs only [↓STP, STQ, seval]
      exact no fun h => by have := hb'.2 ((VS_mk.1 h).2.2.2.2.2.2.2.2.1 _ (List.getElem_mem hi')); cases this
     | true =>
      simp -dsimp -implicitDefEqProofs only [↓STP, STQ, seval, wiM (show i < 9223372036854775807 by omega)]
      intro x hx
      rw [List.take_add_one, List.getElem?_eq_getElem hi'] at hx
      rcases List.mem_append.1 hx with hx | hx
      ·exact hp x hx
      ·simp at hx; subst hx; exact hb'.1 rfl
    ·rw [List.take_of_length_le (by omega)] at hp
     simp -dsimp -implicitDefEqProofs only [↓STP, STQ, seval, wl]
     refine stmts27_of a iha hla ha hlv' fun b1 hb1 => ?_
     cases b1 with
     | false =>
      simp -dsimp -implicitDefEqProofs only [↓STP, STQ, seval]
      exact no fun h => by have := hb1.2 (VS_mk.1 h).2.2.2.2.2.2.2.2.2.1; cases this
     | true =>
      simp -dsimp -implicitDefEqProofs only [↓STP, STQ, seval, wl]
      refine stmts27_of b ihb hlb hb hlv' fun b2 hb2 => ?_
      cases b2 with
      | false =>
       simp -dsimp -implicitDefEqProofs only [↓STP, STQ, seval]
       exact no fun h => by have := hb2.2 (VS_mk.1 h).2.2.2.2.2.2.2.2.2.2; cases this
      | true =>
       simp -dsimp -implicitDefEqProofs only [↓STP, STQ, seval]
       exact hK true (iff_of_true rfl (VS_mk.2 ⟨by omega, by omega, by omega, by simpa using ce', fun _ => hnm, fun h => absurd h (by simp), fun _ => List.eq_nil_of_length_eq_zero (by omega), fun _ _ => List.eq_nil_of_length_eq_zero (by omega), hp, hb1.1 rfl, hb2.1 rfl⟩))
  ·by_cases ce : (e.length : Int) = 1
   rotate_left
   ·simp -dsimp -implicitDefEqProofs only [↓STP, STQ, seval, Stm.v_mk, ir43, c0, List.length_map, eq_false ce]
    exact no fun h => ce (by have := (VS_mk.1 h).2.2.2.1; simp at this; omega)
   have ce' : e.length = 1 := by omega
   by_cases hnm : s = noName
   rotate_left
   ·simp -dsimp -implicitDefEqProofs only [↓STP, STQ, seval, Stm.v_mk, ir43, c0, List.length_map, ce', binS, bneS, eq_false (show ¬ s = ⟨#[]⟩ from hnm)]
    exact no fun h => hnm ((VS_mk.1 h).2.2.2.2.2.1 (by decide))
   simp -dsimp -implicitDefEqProofs only [↓STP, STQ, seval, Stm.v_mk, ir43, c0, List.length_map, ce', binS, bneS, eq_true (show s = ⟨#[]⟩ from hnm)]
   refine codeT_for (N := 1) (fun i => ⟨upd (upd (upd (upd ρ0 1 (I lv)) 2 (.lptr 0 5 0)) 5 (I 1)) 7 (I i), upd m0 0 (some [I 3, .str s, .vec (e.map Exp.v) .any, .vec (a.map Stm.v) .any, .vec (b.map Stm.v) .any]), 1, [], h⟩) (fun i => ∀ x ∈ e.take i, VE x (lv + 1)) (by simp -dsimp -implicitDefEqProofs only [↓STP, STQ, seval] <;> rfl) (by simp) (fun i hi hp => ?_) (fun hp => ?_) mono
   ·have hi' : i < e.length := by omega
    simp -dsimp -implicitDefEqProofs only [↓STP, STQ, seval, eq_true (show (i : Int) < 1 by omega), get_map hi', Exp.v_clen, Exp.v_tk, Exp.v_ag, Exp.v_out, wl]
    refine expr27 _ (lv + 1) h _ (he _ (List.getElem_mem hi')) (by omega) fun b' hb' => ?_
    cases b' with
    | false =>
     simp -dsimp -implicitDefEqProofs only [↓STP, STQ, seval]
     exact no fun h => by have := hb'.2 ((VS_mk.1 h).2.2.2.2.2.2.2.2.1 _ (List.getElem_mem hi')); cases this
    | true =>
     simp -dsimp -implicitDefEqProofs only [↓STP, STQ, seval, wiM (show i < 9223372036854775807 by omega)]
     intro x hx
     rw [List.take_add_one, List.getElem?_eq_getElem hi'] at hx
     rcases List.mem_append.1 hx with hx | hx
     ·exact hp x hx
     ·simp at hx; subst hx; exact hb'.1 rfl
   ·rw [List.take_of_length_le (by omega)] at hp
    simp -dsimp -implicitDefEqProofs only [↓STP, STQ, seval, wl]
    refine stmts27_of a iha hla ha hlv' fun b1 hb1 => ?_
    cases b1 with
    | false =>
     simp -dsimp -implicitDefEqProofs only [↓STP, STQ, seval]
     exact no fun h => by have := hb1.2 (VS_mk.1 h).2.2.2.2.2.2.2.2.2.1; cases this
    | true =>
     simp -dsimp -implicitDefEqProofs only [↓STP, STQ, seval, wl]
     refine stmts27_of b ihb hlb hb hlv' fun b2 hb2 => ?_
     cases b2 with
     | false =>
      simp -dsimp -implicitDefEqProofs only [↓STP, STQ, seval]
      exact no fun h => by have := hb2.2 (VS_mk.1 h).2.2.2.2.2.2.2.2.2.2; cases this
     | true =>
      simp -dsimp -implicitDefEqProofs only [↓STP, STQ, seval]
      exact hK true (iff_of_true rfl (VS_mk.2 ⟨by omega, by omega, by omega, by simpa using ce', fun h => absurd h (by simp), fun _ => hnm, fun h => absurd rfl h, fun h => absurd rfl h, hp, hb1.1 rfl, hb2.1 rfl⟩))
  ·by_cases ce : (e.length : Int) = 2
   rotate_left
   ·simp -dsimp -implicitDefEqProofs only [↓STP, STQ, seval, Stm.v_mk, ir43, c0, List.length_map, eq_false ce]
    exact no fun h => ce (by have := (VS_mk.1 h).2.2.2.1; simp at this; omega)
   have ce' : e.length = 2 := by omega
   simp -dsimp -implicitDefEqProofs only [↓STP, STQ, seval, Stm.v_mk, ir43, c0, List.length_map, ce']
   refine isName_spec hs fun b' hb' => ?_
   cases b' with
   | false =>
    simp -dsimp -implicitDefEqProofs only [↓STP, STQ, seval]
    exact no fun h => by have := hb'.2 ((VS_mk.1 h).2.2.2.2.1 (by decide)); cases this
   | true =>
    have hnm := hb'.1 rfl
    by_cases cb : (0 : Int) < (b.length : Int)
    ·simp -dsimp -implicitDefEqProofs only [↓STP, STQ, seval, List.length_map, eq_true cb]
     exact no fun h => by have := (VS_mk.1 h).2.2.2.2.2.2.1 (by decide); subst this; simp at cb
    simp -dsimp -implicitDefEqProofs only [↓STP, STQ, seval, List.length_map, eq_false cb]
    refine codeT_for (N := 2) (fun i => ⟨upd (upd (upd (upd ρ0 1 (I lv)) 2 (.lptr 0 5 0)) 5 (I 2)) 7 (I i), upd m0 0 (some [I 4, .str s, .vec (e.map Exp.v) .any, .vec (a.map Stm.v) .any, .vec (b.map Stm.v) .any]), 1, [], h⟩) (fun i => ∀ x ∈ e.take i, VE x (lv + 1)) (by simp -dsimp -implicitDefEqProofs only [↓STP, STQ, seval] <;> rfl) (by simp) (fun i hi hp => ?_) (fun hp => ?_) mono
    ·have hi' : i < e.length := by omega
     simp -dsimp -implicitDefEqProofs only [↓STP, STQ, seval, eq_true (show (i : Int) < 2 by omega), get_map hi', Exp.v_clen, Exp.v_tk, Exp.v_ag, Exp.v_out, wl]
     refine expr27 _ (lv + 1) h _ (he _ (List.getElem_mem hi')) (by omega) fun b' hb' => ?_
     cases b' with
     | false =>
      simp -dsimp -implicitDefEqProofs only [↓STP, STQ, seval]
      exact no fun h => by have := hb'.2 ((VS_mk.1 h).2.2.2.2.2.2.2.2.1 _ (List.getElem_mem hi')); cases this
     | true =>
      simp -dsimp -implicitDefEqProofs only [↓STP, STQ, seval, wiM (show i < 9223372036854775807 by omega)]
      intro x hx
      rw [List.take_add_one, List.getElem?_eq_getElem hi'] at hx
      rcases List.mem_append.1 hx with hx | hx
      ·exact hp x hx
      ·simp at hx; subst hx; exact hb'.1 rfl
    ·rw [List.take_of_length_le (by omega)] at hp
     simp -dsimp -implicitDefEqProofs only [↓STP, STQ, seval, wl]
     refine stmts27_of a iha hla ha hlv' fun b1 hb1 => ?_
     cases b1 with
     | false =>
      simp -dsimp -implicitDefEqProofs only [↓STP, STQ, seval]
      exact no fun h => by have := hb1.2 (VS_mk.1 h).2.2.2.2.2.2.2.2.2.1; cases this
     | true =>
      simp -dsimp -implicitDefEqProofs only [↓STP, STQ, seval, wl]
      refine stmts27_of b ihb hlb hb hlv' fun b2 hb2 => ?_
      cases b2 with
      | false =>
       simp -dsimp -implicitDefEqProofs only [↓STP, STQ, seval]
       exact no fun h => by have := hb2.2 (VS_mk.1 h).2.2.2.2.2.2.2.2.2.2; cases this
      | true =>
       simp -dsimp -implicitDefEqProofs only [↓STP, STQ, seval]
       exact hK true (iff_of_true rfl (VS_mk.2 ⟨by omega, by omega, by omega, by simpa using ce', fun _ => hnm, fun h => absurd h (by simp), fun _ => List.eq_nil_of_length_eq_zero (by omega), fun _ h => absurd rfl h, hp, hb1.1 rfl, hb2.1 rfl⟩))
  ·by_cases ce : (e.length : Int) = 1
   rotate_left
   ·simp -dsimp -implicitDefEqProofs only [↓STP, STQ, seval, Stm.v_mk, ir43, c0, List.length_map, eq_false ce]
    exact no fun h => ce (by have := (VS_mk.1 h).2.2.2.1; simp at this; omega)
   have ce' : e.length = 1 := by omega
   by_cases hnm : s = noName
   rotate_left
   ·simp -dsimp -implicitDefEqProofs only [↓STP, STQ, seval, Stm.v_mk, ir43, c0, List.length_map, ce', binS, bneS, eq_false (show ¬ s = ⟨#[]⟩ from hnm)]
    exact no fun h => hnm ((VS_mk.1 h).2.2.2.2.2.1 (by decide))
   by_cases cb : (0 : Int) < (b.length : Int)
   ·simp -dsimp -implicitDefEqProofs only [↓STP, STQ, seval, Stm.v_mk, ir43, c0, List.length_map, ce', binS, bneS, eq_true (show s = ⟨#[]⟩ from hnm), eq_true cb]
    exact no fun h => by have := (VS_mk.1 h).2.2.2.2.2.2.1 (by decide); subst this; simp at cb
   by_cases ca : (0 : Int) < (a.length : Int)
   ·simp -dsimp -implicitDefEqProofs only [↓STP, STQ, seval, Stm.v_mk, ir43, c0, List.length_map, ce', binS, bneS, eq_true (show s = ⟨#[]⟩ from hnm), eq_false cb, eq_true ca]
    exact no fun h => by have := (VS_mk.1 h).2.2.2.2.2.2.2.1 (by decide) (by decide); subst this; simp at ca
   simp -dsimp -implicitDefEqProofs only [↓STP, STQ, seval, Stm.v_mk, ir43, c0, List.length_map, ce', binS, bneS, eq_true (show s = ⟨#[]⟩ from hnm), eq_false cb, eq_false ca]
   refine codeT_for (N := 1) (fun i => ⟨upd (upd (upd (upd ρ0 1 (I lv)) 2 (.lptr 0 5 0)) 5 (I 1)) 7 (I i), upd m0 0 (some [I 5, .str s, .vec (e.map Exp.v) .any, .vec (a.map Stm.v) .any, .vec (b.map Stm.v) .any]), 1, [], h⟩) (fun i => ∀ x ∈ e.take i, VE x (lv + 1)) (by simp -dsimp -implicitDefEqProofs only [↓STP, STQ, seval] <;> rfl) (by simp) (fun i hi hp => ?_) (fun hp => ?_) mono
   ·have hi' : i < e.length := by omega
    simp -dsimp -implicitDefEqProofs only [↓STP, STQ, seval, eq_true (show (i : Int) < 1 by omega), get_map hi', Exp.v_clen, Exp.v_tk, Exp.v_ag, Exp.v_out, wl]
    refine expr27 _ (lv + 1) h _ (he _ (List.getElem_mem hi')) (by omega) fun b' hb' => ?_
    cases b' with
    | false =>
     simp -dsimp -implicitDefEqProofs only [↓STP, STQ, seval]
     exact no fun h => by have := hb'.2 ((VS_mk.1 h).2.2.2.2.2.2.2.2.1 _ (List.getElem_mem hi')); cases this
    | true =>
     simp -dsimp -implicitDefEqProofs only [↓STP, STQ, seval, wiM (show i < 9223372036854775807 by omega)]
     intro x hx
     rw [List.take_add_one, List.getElem?_eq_getElem hi'] at hx
     rcases List.mem_append.1 hx with hx | hx
     ·exact hp x hx
     ·simp at hx; subst hx; exact hb'.1 rfl
   ·rw [List.take_of_length_le (by omega)] at hp
    simp -dsimp -implicitDefEqProofs only [↓STP, STQ, seval, wl]
    refine stmts27_of a iha hla ha hlv' fun b1 hb1 => ?_
    cases b1 with
    | false =>
     simp -dsimp -implicitDefEqProofs only [↓STP, STQ, seval]
     exact no fun h => by have := hb1.2 (VS_mk.1 h).2.2.2.2.2.2.2.2.2.1; cases this
    | true =>
     simp -dsimp -implicitDefEqProofs only [↓STP, STQ, seval, wl]
     refine stmts27_of b ihb hlb hb hlv' fun b2 hb2 => ?_
     cases b2 with
     | false =>
      simp -dsimp -implicitDefEqProofs only [↓STP, STQ, seval]
      exact no fun h => by have := hb2.2 (VS_mk.1 h).2.2.2.2.2.2.2.2.2.2; cases this
     | true =>
      simp -dsimp -implicitDefEqProofs only [↓STP, STQ, seval]
      exact hK true (iff_of_true rfl (VS_mk.2 ⟨by omega, by omega, by omega, by simpa using ce', fun h => absurd h (by simp), fun _ => hnm, fun _ => List.eq_nil_of_length_eq_zero (by omega), fun _ _ => List.eq_nil_of_length_eq_zero (by omega), hp, hb1.1 rfl, hb2.1 rfl⟩))
theorem stmts27 {l : List Stm} (hl : l.length ≤ maxLen) (ok : ∀ x ∈ l, SOk x) {lv : Nat} (hlv : lv ≤ 100)
  (hK : ∀ b : Bool, (b = true ↔ VSs l lv) → K (.ret (.bool b)) h) : R 31 [.vec (l.map Stm.v) .any, I lv] h K :=
 stmts27_of l (fun x _ => stmt27 x) hl ok hlv hK
end
end YtihmoaibgmhjeaaDoor
end Go.Ab
