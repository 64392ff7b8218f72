import Derived.Test.YtihmoaibgmhjeaaDoorA6
import Derived.Test.YtihmoaibgmhjeaaDoorAb35
set_option linter.unusedVariables false
set_option linter.unusedSimpArgs false
namespace Go.Ab
theorem sumL_bulks {α : Type} {f : α → V} {g : α → Nat} {c : Nat} : ∀ {l : List α}, (∀ x ∈ l, g x ≤ c * (f x).bulk) → sumL g l ≤ c * V.bulks (l.map f)
 | [], _ => Nat.zero_le _
 | x :: l, h => by
  have h1 := h x (by simp)
  have h2 := sumL_bulks (l := l) (fun y hy => h y (by simp [hy]))
  rw [sumL, List.map_cons, V.bulks, Nat.mul_add]; omega
theorem exp_bulk {k o : Int} {n : Nat} {s : ByteArray} {ks : List Exp} : (Exp.mk k o n s ks).v.bulk = 6 + s.size + V.bulks (ks.map Exp.v) := by
 rw [Exp.v_mk]; simp only [V.bulk, V.bulks]; omega
theorem stm_bulk {k : Int} {s : ByteArray} {e : List Exp} {a b : List Stm} : (Stm.mk k s e a b).v.bulk = 6 + s.size + V.bulks (e.map Exp.v) + V.bulks (a.map Stm.v) + V.bulks (b.map Stm.v) := by
 rw [Stm.v_mk]; simp only [V.bulk, V.bulks]; omega
theorem prg_bulk {p : Prg} : p.v.bulk = 4 + V.bulks (p.ins.map InD.v) + V.bulks (p.arrays.map ArD.v) + V.bulks (p.body.map Stm.v) := by
 simp only [Prg.v, Prg.cells, V.bulk, V.bulks]; omega
theorem nth_sum : ∀ {l : List (Int × Nat)}, (nth l 0).2 + (nth l 1).2 + (nth l 2).2 ≤ sumL (fun x => x.2) l
 | [] => Nat.le_refl _
 | [a] => by simp [nth, sumL]
 | [a, b] => by simp [nth, sumL]
 | a :: b :: c :: r => by simp [nth, sumL] <;> omega
theorem at0_sum : ∀ {l : List Nat}, at0 l 0 + at0 l 1 ≤ sumL (fun x => x) l
 | [] => Nat.le_refl _
 | [a] => by simp [at0, sumL]
 | a :: b :: r => by simp [at0, sumL] <;> omega
theorem sumL_map {α β : Type} {f : α → β} {g : β → Nat} : ∀ {l : List α}, sumL g (l.map f) = sumL (fun x => g (f x)) l
 | [] => rfl
 | x :: l => by rw [List.map_cons, sumL, sumL, sumL_map]
theorem held_le {x : Int × Nat} {m : Int} : held x m ≤ x.2 + 2 := by unfold held; split <;> omega
theorem tlen_bulk (e : Exp) : EOk e → tlen e ≤ 4 * e.v.bulk := by
 induction e using Exp.ind with
 | h k o n s ks ih =>
  intro ok
  obtain ⟨_, _, hn, _, _, hks⟩ := EOk_mk ok
  have h1 : sumL tlen ks ≤ 4 * V.bulks (ks.map Exp.v) := sumL_bulks fun x hx => ih x hx (hks x hx)
  have h2 := nth_sum (l := ks.map tl)
  rw [sumL_map] at h2
  have h3 : sumL (fun x => (tl x).2) ks = sumL tlen ks := rfl
  have d := dlen_le20 hn
  have a1 := held_le (x := nth (ks.map tl) 0) (m := 8)
  have a2 := held_le (x := nth (ks.map tl) 0) (m := 2)
  have a3 := held_le (x := nth (ks.map tl) 0) (m := precE k o)
  have a4 := held_le (x := nth (ks.map tl) 1) (m := precE k o + 1)
  rw [tlen_mk, exp_bulk]
  unfold tlenOf
  repeat' split
  all_goals omega
theorem llen_bulk (x : Stm) : ∀ lv ind, VS x lv → SOk x → ind ≤ 2 * lv → llen x ind ≤ 40 * x.v.bulk := by
 induction x using Stm.ind with
 | h k s e a b iha ihb =>
  intro lv ind hv ok hi
  obtain ⟨v1, v2, v3, v4, v5, v6, v7, v8, v9, v10, v11⟩ := VS_mk.1 hv
  obtain ⟨_, hs, _, hla, hlb, oke, oka, okb⟩ := SOk_mk ok
  have g : ∀ (l : List Stm), llens l (ind + 2) = sumL (fun x => llen x (ind + 2)) l := fun l => by
   induction l with
   | nil => rfl
   | cons x l ih => rw [llens, sumL, ih]
  have h1 : llens a (ind + 2) ≤ 40 * V.bulks (a.map Stm.v) := by
   rw [g]
   exact sumL_bulks fun x hx => iha x hx (lv + 1) (ind + 2) (VSs_all.1 v10 x hx) (oka x hx) (by omega)
  have h2 : llens b (ind + 2) ≤ 40 * V.bulks (b.map Stm.v) := by
   rw [g]
   exact sumL_bulks fun x hx => ihb x hx (lv + 1) (ind + 2) (VSs_all.1 v11 x hx) (okb x hx) (by omega)
  have h3 : sumL tlen e ≤ 4 * V.bulks (e.map Exp.v) := sumL_bulks fun x hx => tlen_bulk x (oke x hx)
  have h4 := at0_sum (l := e.map tlen)
  rw [sumL_map] at h4
  have h5 : sumL (fun x => tlen x) e = sumL tlen e := rfl
  have e : llen (.mk k s e a b) ind = llenOf k s (e.map tlen) (llens a (ind + 2)) (llens b (ind + 2)) b.length ind := by rw [llen]
  rw [e, stm_bulk]
  unfold llenOf
  repeat' split
  all_goals omega
theorem flen_bulk {p : Prg} (ok : POk p) (hv : VSs p.body 1) : flen p ≤ 40 * p.v.bulk := by
 have h1 : sumL ilen p.ins ≤ 40 * V.bulks (p.ins.map InD.v) := sumL_bulks fun x hx => by
  obtain ⟨s, f, w, z⟩ := x
  have hx := ok.ins _ hx
  have g : ∀ {n : Int}, I64 n → dlen n.toNat ≤ 20 := fun h => dlen_le20 (by have := h.2; omega)
  have a1 := g hx.f
  have a2 := g hx.w
  have a3 := g hx.s
  simp only at a1 a2 a3
  have hb : (InD.v ⟨s, f, w, z⟩).bulk = 5 + s.size := by simp only [InD.v, InD.cells, V.bulk, V.bulks]; omega
  rw [hb]
  unfold ilen
  simp only
  split <;> omega
 have h2 : sumL alen p.arrays ≤ 40 * V.bulks (p.arrays.map ArD.v) := sumL_bulks fun x hx => by
  obtain ⟨s, z⟩ := x
  have hx := ok.arrays _ hx
  have g : ∀ {n : Int}, I64 n → dlen n.toNat ≤ 20 := fun h => dlen_le20 (by have := h.2; omega)
  have a3 := g hx.s
  simp only at a3
  have hb : (ArD.v ⟨s, z⟩).bulk = 3 + s.size := by simp only [ArD.v, ArD.cells, V.bulk, V.bulks]; omega
  rw [hb]
  unfold alen
  simp only
  omega
 have h3 : llens p.body 0 ≤ 40 * V.bulks (p.body.map Stm.v) := by
  have g : ∀ (l : List Stm), llens l 0 = sumL (fun x => llen x 0) l := fun l => by
   induction l with
   | nil => rfl
   | cons x l ih => rw [llens, sumL, ih]
  rw [g]
  exact sumL_bulks fun x hx => llen_bulk x 1 0 (VSs_all.1 hv x hx) (ok.body x hx) (by omega)
 rw [prg_bulk]
 unfold flen
 omega
end Go.Ab
