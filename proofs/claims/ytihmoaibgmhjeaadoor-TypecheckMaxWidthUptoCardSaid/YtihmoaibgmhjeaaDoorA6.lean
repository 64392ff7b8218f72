import Derived.Test.YtihmoaibgmhjeaaDoorA5
set_option linter.unusedVariables false
set_option linter.unusedSimpArgs false
namespace Go.Ab
structure VIn (x : InD) : Prop where
 name : isName x.name
 f1 : 1 ≤ x.frm
 f2 : x.frm ≤ 13
 w1 : 1 ≤ x.width
 w2 : x.width ≤ 16
 s1 : 0 ≤ x.size
 s2 : x.size ≤ 64
structure VAr (x : ArD) : Prop where
 name : isName x.name
 s1 : 1 ≤ x.size
 s2 : x.size ≤ 64
def ilen (x : InD) : Nat := 3 + x.name.size + (if x.size = 0 then 0 else 2 + dlen x.size.toNat) + 6 + dlen x.frm.toNat + 2 + dlen x.width.toNat + 2
def alen (x : ArD) : Nat := 6 + x.name.size + 1 + dlen x.size.toNat + 3
def sumL {α : Type} (f : α → Nat) : List α → Nat
 | [] => 0
 | x :: xs => f x + sumL f xs
theorem sumL_append {α : Type} (f : α → Nat) : ∀ a b : List α, sumL f (a ++ b) = sumL f a + sumL f b
 | [], b => by rw [List.nil_append, sumL, Nat.zero_add]
 | x :: a, b => by rw [List.cons_append, sumL, sumL, sumL_append f a, Nat.add_assoc]
theorem sumL_take {α : Type} {f : α → Nat} {l : List α} {i : Nat} (hi : i < l.length) : sumL f (l.take (i + 1)) = sumL f (l.take i) + f l[i] := by
 rw [List.take_add_one, List.getElem?_eq_getElem hi, sumL_append]; simp [sumL]
theorem sumL_le {α : Type} {f : α → Nat} {l : List α} {i : Nat} (hi : i < l.length) : sumL f (l.take i) + f l[i] ≤ sumL f l := by
 have : sumL f l = sumL f (l.take (i + 1)) + sumL f (l.drop (i + 1)) := by rw [← sumL_append, List.take_append_drop]
 rw [this, sumL_take hi]; omega
def flen (p : Prg) : Nat := sumL ilen p.ins + sumL alen p.arrays + llens p.body 0
structure VP (p : Prg) : Prop where
 ins : ∀ x ∈ p.ins, VIn x
 arrays : ∀ x ∈ p.arrays, VAr x
 body : VSs p.body 1
 len : flen p ≤ 20000
namespace YtihmoaibgmhjeaaDoor
section
variable {h : H} {K : Out → H → Prop}
theorem num27 {n : Nat} (hn : n < 9223372036854775808) (hK : ∀ s : ByteArray, s.size = dlen n → K (.ret (.str s)) h) : R 44 [I n] h K := by
 refine run44 (Nat.le_of_ble_eq_true rfl) ?_
 have w : IntKind.u64.wrap (n : Int) = (n : Int) := by rw [wrap_u64_self] <;> omega
 simp -dsimp -implicitDefEqProofs only [↓STP, STQ, seval, ir44, w]
 refine dec27 (by omega) fun s hs => ?_
 simp -dsimp -implicitDefEqProofs only [↓STP, STQ, seval]
 exact hK s hs
def prgCells (p : Prg) : List V := [.vec (p.ins.map InD.v) .any, .vec (p.arrays.map ArD.v) .any, .vec (p.body.map Stm.v) .any]
theorem format27 {p : Prg} (ok : POk p) (hi : ∀ x ∈ p.ins, VIn x) (ha : ∀ x ∈ p.arrays, VAr x) (hv : VSs p.body 1) (hl : flen p ≤ 1000000000) (hK : ∀ s : ByteArray, s.size = flen p → K (.ret (.str s)) h) : R 32 [p.v] h K := by
 have hm := maxLen_eq
 have hli := ok.li
 have hla := ok.la
 refine run32 (Nat.le_of_ble_eq_true rfl) ?_
 unfold flen at hl hK
 simp -dsimp -implicitDefEqProofs only [↓STP, STQ, seval, Prg.v, Prg.cells, ir32]
 refine codeT_loop (fun k st => ∃ (i : Nat) (s : ByteArray), k = p.ins.length - i ∧ i ≤ p.ins.length ∧ s.size = sumL ilen (p.ins.take i) ∧ st = ⟨upd (upd (upd ρ0 1 (.lptr 0 3 0)) 3 (.str s)) 4 (I i), upd m0 0 (some (prgCells p)), 1, [], h⟩) (i := p.ins.length) ⟨0, ⟨#[]⟩, rfl, by omega, rfl, by simp -dsimp -implicitDefEqProofs only [↓STP, STQ, seval, prgCells] <;> rfl⟩ ?_ mono
 rintro k st ⟨i, out, rfl, hi', hout, rfl⟩
 by_cases hlt : i < p.ins.length
 ·have hget := get_map (f := InD.v) hlt
  have hx := hi _ (List.getElem_mem hlt)
  have hle := sumL_le (f := ilen) hlt
  have htk := sumL_take (f := ilen) hlt
  have w1 := wiM (show i < 9223372036854775807 by omega)
  generalize p.ins[i] = x at *
  obtain ⟨s, f, w, z⟩ := x
  obtain ⟨x1, x2, x3, x4, x5, x6, x7⟩ := hx
  have hsz : s.size ≤ 20 := x1.2.1
  simp only at x2 x3 x4 x5 x6 x7
  obtain ⟨f, rfl⟩ : ∃ n : Nat, f = n := ⟨f.toNat, by omega⟩
  obtain ⟨w, rfl⟩ : ∃ n : Nat, w = n := ⟨w.toNat, by omega⟩
  obtain ⟨z, rfl⟩ : ∃ n : Nat, z = n := ⟨z.toNat, by omega⟩
  have d1 := dlen_le20 (show f < 18446744073709551616 by omega)
  have d2 := dlen_le20 (show w < 18446744073709551616 by omega)
  have d3 := dlen_le20 (show z < 18446744073709551616 by omega)
  by_cases cz : (z : Int) = 0
  ·have ht : ilen ⟨s, f, w, z⟩ = 3 + s.size + 0 + 6 + dlen f + 2 + dlen w + 2 := by simp [ilen, cz]
   rw [ht] at hle htk
   simp -dsimp -implicitDefEqProofs (disch := first | (simp -dsimp only [↓STP, STQ, seval]; done) | omega | (simp only [ByteArray.size_append, bsz, List.size_toArray, List.length_cons, List.length_nil]; omega)) only [↓STP, STQ, seval, addS, prgCells, List.length_map, Int.ofNat_lt, hlt, hget, InD.v, InD.cells, storeV, eq_self, eq_true cz]
   refine num27 (by omega) fun s1 h1 => ?_
   simp -dsimp -implicitDefEqProofs (disch := first | (simp -dsimp only [↓STP, STQ, seval]; done) | omega | (simp only [ByteArray.size_append, bsz, List.size_toArray, List.length_cons, List.length_nil]; omega)) only [↓STP, STQ, seval, addS, eq_self, storeV]
   refine num27 (by omega) fun s2 h2 => ?_
   simp -dsimp -implicitDefEqProofs (disch := first | (simp -dsimp only [↓STP, STQ, seval]; done) | omega | (simp only [ByteArray.size_append, bsz, List.size_toArray, List.length_cons, List.length_nil]; omega)) only [↓STP, STQ, seval, addS, eq_self, w1]
   refine ⟨p.ins.length - (i + 1), by omega, i + 1, _, rfl, by omega, ?_, rfl⟩
   simp only [ByteArray.size_append, bsz, List.size_toArray, List.length_cons, List.length_nil]; omega
  ·have ht : ilen ⟨s, f, w, z⟩ = 3 + s.size + (2 + dlen z) + 6 + dlen f + 2 + dlen w + 2 := by
    have : ¬ z = 0 := by omega
    simp [ilen, this]
   rw [ht] at hle htk
   simp -dsimp -implicitDefEqProofs (disch := first | (simp -dsimp only [↓STP, STQ, seval]; done) | omega | (simp only [ByteArray.size_append, bsz, List.size_toArray, List.length_cons, List.length_nil]; omega)) only [↓STP, STQ, seval, addS, prgCells, List.length_map, Int.ofNat_lt, hlt, hget, InD.v, InD.cells, storeV, eq_self, eq_false cz]
   refine num27 (by omega) fun s0 h0 => ?_
   simp -dsimp -implicitDefEqProofs (disch := first | (simp -dsimp only [↓STP, STQ, seval]; done) | omega | (simp only [ByteArray.size_append, bsz, List.size_toArray, List.length_cons, List.length_nil]; omega)) only [↓STP, STQ, seval, addS, eq_self]
   refine num27 (by omega) fun s1 h1 => ?_
   simp -dsimp -implicitDefEqProofs (disch := first | (simp -dsimp only [↓STP, STQ, seval]; done) | omega | (simp only [ByteArray.size_append, bsz, List.size_toArray, List.length_cons, List.length_nil]; omega)) only [↓STP, STQ, seval, addS, eq_self]
   refine num27 (by omega) fun s2 h2 => ?_
   simp -dsimp -implicitDefEqProofs (disch := first | (simp -dsimp only [↓STP, STQ, seval]; done) | omega | (simp only [ByteArray.size_append, bsz, List.size_toArray, List.length_cons, List.length_nil]; omega)) only [↓STP, STQ, seval, addS, eq_self, w1]
   refine ⟨p.ins.length - (i + 1), by omega, i + 1, _, rfl, by omega, ?_, rfl⟩
   simp only [ByteArray.size_append, bsz, List.size_toArray, List.length_cons, List.length_nil]; omega
 have hie : i = p.ins.length := by omega
 subst hie
 rw [List.take_length] at hout
 simp -dsimp -implicitDefEqProofs only [↓STP, STQ, seval, prgCells, List.length_map, Int.lt_irrefl]
 refine codeT_loop (fun k st => ∃ (i : Nat) (s : ByteArray), k = p.arrays.length - i ∧ i ≤ p.arrays.length ∧ s.size = sumL ilen p.ins + sumL alen (p.arrays.take i) ∧ st = ⟨upd (upd (upd ρ0 1 (.lptr 0 3 0)) 3 (.str s)) 7 (I i), upd m0 0 (some (prgCells p)), 1, [], h⟩) (i := p.arrays.length) ⟨0, out, rfl, by omega, by rw [hout, List.take_zero]; rfl, by simp -dsimp -implicitDefEqProofs only [↓STP, STQ, seval, prgCells] <;> rfl⟩ ?_ mono
 rintro k st ⟨i, out, rfl, hi'', hout, rfl⟩
 by_cases hlt : i < p.arrays.length
 ·have hget := get_map (f := ArD.v) hlt
  have hx := ha _ (List.getElem_mem hlt)
  have hle := sumL_le (f := alen) hlt
  have htk := sumL_take (f := alen) hlt
  have w1 := wiM (show i < 9223372036854775807 by omega)
  generalize p.arrays[i] = x at *
  obtain ⟨s, z⟩ := x
  obtain ⟨x1, x6, x7⟩ := hx
  have hsz : s.size ≤ 20 := x1.2.1
  simp only at x6 x7
  obtain ⟨z, rfl⟩ : ∃ n : Nat, z = n := ⟨z.toNat, by omega⟩
  have d3 := dlen_le20 (show z < 18446744073709551616 by omega)
  have ht : alen ⟨s, z⟩ = 6 + s.size + 1 + dlen z + 3 := by simp [alen]
  rw [ht] at hle htk
  simp -dsimp -implicitDefEqProofs (disch := first | (simp -dsimp only [↓STP, STQ, seval]; done) | omega | (simp only [ByteArray.size_append, bsz, List.size_toArray, List.length_cons, List.length_nil]; omega)) only [↓STP, STQ, seval, addS, prgCells, List.length_map, Int.ofNat_lt, hlt, hget, ArD.v, ArD.cells, storeV, eq_self]
  refine num27 (by omega) fun s1 h1 => ?_
  simp -dsimp -implicitDefEqProofs (disch := first | (simp -dsimp only [↓STP, STQ, seval]; done) | omega | (simp only [ByteArray.size_append, bsz, List.size_toArray, List.length_cons, List.length_nil]; omega)) only [↓STP, STQ, seval, addS, eq_self, w1]
  refine ⟨p.arrays.length - (i + 1), by omega, i + 1, _, rfl, by omega, ?_, rfl⟩
  simp only [ByteArray.size_append, bsz, List.size_toArray, List.length_cons, List.length_nil]; omega
 have hie : i = p.arrays.length := by omega
 subst hie
 rw [List.take_length] at hout
 simp -dsimp -implicitDefEqProofs only [↓STP, STQ, seval, prgCells, List.length_map, Int.lt_irrefl]
 refine lines27 p.body 1 _ _ _ hv ok.body ok.lb (by decide) (by show llens p.body 0 ≤ _; omega) fun s1 h1 => ?_
 have h1' : s1.size = llens p.body 0 := h1
 simp -dsimp -implicitDefEqProofs (disch := first | (simp -dsimp only [↓STP, STQ, seval]; done) | omega | (simp only [ByteArray.size_append, bsz, List.size_toArray, List.length_cons, List.length_nil]; omega)) only [↓STP, STQ, seval, addS]
 refine hK _ ?_
 rw [ByteArray.size_append]; omega
theorem valid27 {p : Prg} (ok : POk p) (hfl : (∀ x ∈ p.ins, VIn x) → (∀ x ∈ p.arrays, VAr x) → VSs p.body 1 → flen p ≤ 1000000000) (hK : ∀ b : Bool, (b = true ↔ VP p) → K (.ret (.bool b)) h) : R 22 [p.v] h K := by
 have hm := maxLen_eq
 have hli := ok.li
 have hla := ok.la
 have no : ¬ VP p → K (.ret (.bool false)) h := fun hn => hK false (iff_of_false (by simp) hn)
 refine run22 (Nat.le_of_ble_eq_true rfl) ?_
 simp -dsimp -implicitDefEqProofs only [↓STP, STQ, seval, Prg.v, Prg.cells, ir22]
 refine codeT_for (N := p.ins.length) (fun i => ⟨upd (upd ρ0 1 (.lptr 0 3 0)) 3 (I i), upd m0 0 (some (prgCells p)), 1, [], h⟩) (fun i => ∀ x ∈ p.ins.take i, VIn x) (by simp -dsimp -implicitDefEqProofs only [↓STP, STQ, seval, prgCells] <;> rfl) (by simp) (fun i hlt hp => ?_) (fun hp => ?_) mono
 ·have hget := get_map (f := InD.v) hlt
  have hx := ok.ins _ (List.getElem_mem hlt)
  have w1 := wiM (show i < 9223372036854775807 by omega)
  have no2 : ¬ VIn p.ins[i] → K (.ret (.bool false)) h := fun hn => no fun hv => hn (hv.ins _ (List.getElem_mem hlt))
  have yes : VIn p.ins[i] → ∀ x ∈ p.ins.take (i + 1), VIn x := fun hn x hx => by
   rw [List.take_add_one, List.getElem?_eq_getElem hlt] at hx
   rcases List.mem_append.1 hx with hx | hx
   ·exact hp x hx
   ·simp at hx; subst hx; exact hn
  generalize p.ins[i] = x at *
  obtain ⟨s, f, w, z⟩ := x
  simp -dsimp -implicitDefEqProofs only [↓STP, STQ, seval, prgCells, List.length_map, Int.ofNat_lt, hlt, hget, InD.v, InD.cells, storeV]
  refine isName_spec hx.n fun b hb => ?_
  cases b with
  | false =>
   simp -dsimp -implicitDefEqProofs only [↓STP, STQ, seval]
   exact no2 fun hv => by have := hb.2 hv.name; cases this
  | true =>
   by_cases c1 : f < 1
   ·simp -dsimp -implicitDefEqProofs only [↓STP, STQ, seval, c1]
    exact no2 fun hv => by have := hv.f1; simp only at this; omega
   by_cases c2 : 13 < f
   ·simp -dsimp -implicitDefEqProofs only [↓STP, STQ, seval, c1, c2]
    exact no2 fun hv => by have := hv.f2; simp only at this; omega
   by_cases c3 : w < 1
   ·simp -dsimp -implicitDefEqProofs only [↓STP, STQ, seval, c1, c2, c3]
    exact no2 fun hv => by have := hv.w1; simp only at this; omega
   by_cases c4 : 16 < w
   ·simp -dsimp -implicitDefEqProofs only [↓STP, STQ, seval, c1, c2, c3, c4]
    exact no2 fun hv => by have := hv.w2; simp only at this; omega
   by_cases c5 : z < 0
   ·simp -dsimp -implicitDefEqProofs only [↓STP, STQ, seval, c1, c2, c3, c4, c5]
    exact no2 fun hv => by have := hv.s1; simp only at this; omega
   by_cases c6 : 64 < z
   ·simp -dsimp -implicitDefEqProofs only [↓STP, STQ, seval, c1, c2, c3, c4, c5, c6]
    exact no2 fun hv => by have := hv.s2; simp only at this; omega
   simp -dsimp -implicitDefEqProofs only [↓STP, STQ, seval, c1, c2, c3, c4, c5, c6, prgCells, w1]
   exact yes ⟨hb.1 rfl, by simp only; omega, by simp only; omega, by simp only; omega, by simp only; omega, by simp only; omega, by simp only; omega⟩
 rw [List.take_length] at hp
 simp -dsimp -implicitDefEqProofs only [↓STP, STQ, seval, prgCells, List.length_map, Int.lt_irrefl]
 refine codeT_for (N := p.arrays.length) (fun i => ⟨upd (upd ρ0 1 (.lptr 0 3 0)) 5 (I i), upd m0 0 (some (prgCells p)), 1, [], h⟩) (fun i => ∀ x ∈ p.arrays.take i, VAr x) (by simp -dsimp -implicitDefEqProofs only [↓STP, STQ, seval, prgCells] <;> rfl) (by simp) (fun i hlt hp2 => ?_) (fun hp2 => ?_) mono
 ·have hget := get_map (f := ArD.v) hlt
  have hx := ok.arrays _ (List.getElem_mem hlt)
  have w1 := wiM (show i < 9223372036854775807 by omega)
  have no2 : ¬ VAr p.arrays[i] → K (.ret (.bool false)) h := fun hn => no fun hv => hn (hv.arrays _ (List.getElem_mem hlt))
  have yes : VAr p.arrays[i] → ∀ x ∈ p.arrays.take (i + 1), VAr x := fun hn x hx => by
   rw [List.take_add_one, List.getElem?_eq_getElem hlt] at hx
   rcases List.mem_append.1 hx with hx | hx
   ·exact hp2 x hx
   ·simp at hx; subst hx; exact hn
  generalize p.arrays[i] = x at *
  obtain ⟨s, z⟩ := x
  simp -dsimp -implicitDefEqProofs only [↓STP, STQ, seval, prgCells, List.length_map, Int.ofNat_lt, hlt, hget, ArD.v, ArD.cells, storeV]
  refine isName_spec hx.n fun b hb => ?_
  cases b with
  | false =>
   simp -dsimp -implicitDefEqProofs only [↓STP, STQ, seval]
   exact no2 fun hv => by have := hb.2 hv.name; cases this
  | true =>
   by_cases c5 : z < 1
   ·simp -dsimp -implicitDefEqProofs only [↓STP, STQ, seval, c5]
    exact no2 fun hv => by have := hv.s1; simp only at this; omega
   by_cases c6 : 64 < z
   ·simp -dsimp -implicitDefEqProofs only [↓STP, STQ, seval, c5, c6]
    exact no2 fun hv => by have := hv.s2; simp only at this; omega
   simp -dsimp -implicitDefEqProofs only [↓STP, STQ, seval, c5, c6, prgCells, w1]
   exact yes ⟨hb.1 rfl, by simp only; omega, by simp only; omega⟩
 rw [List.take_length] at hp2
 simp -dsimp -implicitDefEqProofs only [↓STP, STQ, seval, prgCells, List.length_map, Int.lt_irrefl]
 refine stmts27 (lv := 1) ok.lb ok.body (by decide) fun b hb => ?_
 cases b with
 | false =>
  simp -dsimp -implicitDefEqProofs only [↓STP, STQ, seval]
  exact no fun hv => by have := hb.2 hv.body; cases this
 | true =>
  have hbody := hb.1 rfl
  simp -dsimp -implicitDefEqProofs only [↓STP, STQ, seval]
  rw [show (V.agg [.vec (p.ins.map InD.v) .any, .vec (p.arrays.map ArD.v) .any, .vec (p.body.map Stm.v) .any]) = p.v from rfl]
  refine format27 ok hp hp2 hbody (hfl hp hp2 hbody) fun s hs => ?_
  by_cases c : (s.size : Int) ≤ 20000
  ·simp -dsimp -implicitDefEqProofs only [↓STP, STQ, seval, eq_true c]
   exact hK true (iff_of_true rfl ⟨hp, hp2, hbody, by omega⟩)
  ·simp -dsimp -implicitDefEqProofs only [↓STP, STQ, seval, eq_false c]
   exact no fun hv => by have := hv.len; omega
end
end YtihmoaibgmhjeaaDoor
end Go.Ab
