import Derived.Test.YtihmoaibgmhjeaaDoorA4
set_option linter.unusedVariables false
set_option linter.unusedSimpArgs false
namespace Go.Ab
def at0 (l : List Nat) (i : Nat) : Nat := l.getD i 0
def llenOf (k : Int) (s : ByteArray) (es : List Nat) (ta tb nb ind : Nat) : Nat :=
 if k = 1 then ind + s.size + 3 + at0 es 0 + 2
 else if k = 2 then ind + s.size + 1 + at0 es 0 + 4 + at0 es 1 + 2
 else if k = 5 then ind + 4 + at0 es 0 + 2
 else if k = 3 then ind + 4 + at0 es 0 + 4 + ta + (if nb = 0 then 0 else ind + 9 + tb) + ind + 2
 else ind + 4 + s.size + 3 + at0 es 0 + 4 + at0 es 1 + 3 + ta + ind + 2
mutual
def llen : Stm → Nat → Nat
 | .mk k s e a b, ind => llenOf k s (e.map tlen) (llens a (ind + 2)) (llens b (ind + 2)) b.length ind
def llens : List Stm → Nat → Nat
 | [], _ => 0
 | x :: xs, ind => llen x ind + llens xs ind
end
theorem llens_append : ∀ (a b : List Stm) (ind : Nat), llens (a ++ b) ind = llens a ind + llens b ind
 | [], b, ind => by rw [List.nil_append, llens, Nat.zero_add]
 | x :: a, b, ind => by rw [List.cons_append, llens, llens, llens_append a b, Nat.add_assoc]
theorem llens_take {l : List Stm} {i ind : Nat} (hi : i < l.length) : llens (l.take (i + 1)) ind = llens (l.take i) ind + llen l[i] ind := by
 rw [List.take_add_one, List.getElem?_eq_getElem hi, llens_append]
 simp [llens]
theorem llens_le {l : List Stm} {i ind : Nat} (hi : i < l.length) : llens (l.take i) ind + llen l[i] ind ≤ llens l ind := by
 have : llens l ind = llens (l.take (i + 1)) ind + llens (l.drop (i + 1)) ind := by rw [← llens_append, List.take_append_drop]
 rw [this, llens_take hi]; omega
theorem ind2 {b : ByteArray} : (b ++ (⟨#[32, 32]⟩ : ByteArray)).size = b.size + 2 := by
 rw [ByteArray.size_append]; rfl
namespace YtihmoaibgmhjeaaDoor
section
variable {h : H} {K : Out → H → Prop}
def LinesOk (l : List Stm) : Prop := ∀ (lv : Nat) (ind : ByteArray) (h : H) (K : Out → H → Prop), VSs l lv → (∀ x ∈ l, SOk x) → l.length ≤ maxLen → ind.size ≤ 1000000000 → llens l ind.size ≤ 1000000000 → (∀ s : ByteArray, s.size = llens l ind.size → K (.ret (.str s)) h) → R 45 [.vec (l.map Stm.v) .any, .str ind] h K
theorem lines27_of (l : List Stm) (ih : ∀ x ∈ l, LinesOk x.thn ∧ LinesOk x.els) : LinesOk l := by
 intro lv ind h K hv ok hl hind hll hK
 have hm := maxLen_eq
 refine run45 (Nat.le_of_ble_eq_true rfl) ?_
 simp -dsimp -implicitDefEqProofs only [↓STP, STQ, seval, ir45]
 refine codeT_loop (fun k st => ∃ (i : Nat) (s : ByteArray), k = l.length - i ∧ i ≤ l.length ∧ s.size = llens (l.take i) ind.size ∧ st = ⟨upd (upd (upd (upd ρ0 0 (.vec (l.map Stm.v) .any)) 1 (.str ind)) 5 (.str s)) 6 (I i), m0, 0, [], h⟩) (i := l.length) ⟨0, ⟨#[]⟩, rfl, by omega, rfl, by simp -dsimp -implicitDefEqProofs only [↓STP, STQ, seval] <;> rfl⟩ ?_ mono
 rintro k st ⟨i, out, rfl, hi, hout, rfl⟩
 by_cases hlt : i < l.length
 rotate_left
 ·have : i = l.length := by omega
  subst this
  rw [List.take_length] at hout
  simp -dsimp -implicitDefEqProofs only [↓STP, STQ, seval, List.length_map, Int.lt_irrefl]
  exact hK out hout
 have hget := get_map (f := Stm.v) hlt
 have hx := VSs_all.1 hv _ (List.getElem_mem hlt)
 have okx := ok _ (List.getElem_mem hlt)
 have hle := llens_le (ind := ind.size) hlt
 have htk := llens_take (ind := ind.size) hlt
 have ihx := ih _ (List.getElem_mem hlt)
 have w1 := wiM (show i < 9223372036854775807 by omega)
 generalize l[i] = x at *
 obtain ⟨k, s, e, a, b⟩ := x
 obtain ⟨v1, v2, v3, v4, v5, v6, v7, v8, v9, v10, v11⟩ := VS_mk.1 hx
 obtain ⟨_, hs, _, hla, hlb, oke, oka, okb⟩ := SOk_mk okx
 have hll2 : llen (.mk k s e a b) ind.size = llenOf k s (e.map tlen) (llens a (ind.size + 2)) (llens b (ind.size + 2)) b.length ind.size := by rw [llen]
 rw [hll2] at hle htk
 have text : ∀ x ∈ e, tlen x ≤ 1000000000 → TextOk x := fun x hx hl => text27 x (lv + 1) (v9 x hx) (oke x hx) hl
 have hA : LinesOk a := ihx.1
 have hB : LinesOk b := ihx.2
 have indS : ∀ {q : ByteArray}, q.size = ind.size + 2 → q.size ≤ 1000000002 := fun h => by omega
 have fin : ∀ (t : ByteArray), t.size = llens (l.take (i + 1)) ind.size → (∃ j, j < l.length - i ∧ ∃ (i' : Nat) (s : ByteArray), j = l.length - i' ∧ i' ≤ l.length ∧ s.size = llens (l.take i') ind.size ∧ (⟨upd (upd (upd (upd ρ0 0 (.vec (l.map Stm.v) .any)) 1 (.str ind)) 5 (.str t)) 6 (I ((i + 1 : Nat) : Int)), m0, 0, [], h⟩ : S) = ⟨upd (upd (upd (upd ρ0 0 (.vec (l.map Stm.v) .any)) 1 (.str ind)) 5 (.str s)) 6 (I i'), m0, 0, [], h⟩) :=
  fun t ht => ⟨l.length - (i + 1), by omega, i + 1, t, rfl, by omega, ht, rfl⟩
 have kk : k = 1 ∨ k = 2 ∨ k = 3 ∨ k = 4 ∨ k = 5 := by omega
 rcases kk with rfl | rfl | rfl | rfl | rfl
 ·obtain ⟨e0, rfl⟩ := len1 (show e.length = 1 by simpa using v4)
  have ht : llenOf 1 s ([e0].map tlen) (llens a (ind.size + 2)) (llens b (ind.size + 2)) b.length ind.size = ind.size + s.size + 3 + tlen e0 + 2 := by simp [llenOf, at0]
  rw [ht] at hle htk
  have hsz : s.size ≤ 20 := (v5 (by decide)).2.1
  simp -dsimp -implicitDefEqProofs (disch := first | (simp -dsimp only [↓STP, STQ, seval]; done) | omega | (simp only [ByteArray.size_append, bsz, List.size_toArray, List.length_cons, List.length_nil]; omega)) only [↓STP, STQ, seval, addS, List.length_map, Int.ofNat_lt, hlt, hget, Stm.v_mk, storeV, Exp.v_clen, Exp.v_tk, Exp.v_ag, Exp.v_out, eq_self]
  refine text e0 (by simp) (by omega) _ _ fun s1 h1 => ?_
  simp -dsimp -implicitDefEqProofs (disch := first | (simp -dsimp only [↓STP, STQ, seval]; done) | omega | (simp only [ByteArray.size_append, bsz, List.size_toArray, List.length_cons, List.length_nil]; omega)) only [↓STP, STQ, seval, addS, eq_self, w1]
  refine fin _ ?_
  simp only [ByteArray.size_append, bsz, List.size_toArray, List.length_cons, List.length_nil]; omega
 ·obtain ⟨e0, e1, rfl⟩ := len2 (show e.length = 2 by simpa using v4)
  have ht : llenOf 2 s ([e0, e1].map tlen) (llens a (ind.size + 2)) (llens b (ind.size + 2)) b.length ind.size = ind.size + s.size + 1 + tlen e0 + 4 + tlen e1 + 2 := by simp [llenOf, at0]
  rw [ht] at hle htk
  have hsz : s.size ≤ 20 := (v5 (by decide)).2.1
  simp -dsimp -implicitDefEqProofs (disch := first | (simp -dsimp only [↓STP, STQ, seval]; done) | omega | (simp only [ByteArray.size_append, bsz, List.size_toArray, List.length_cons, List.length_nil]; omega)) only [↓STP, STQ, seval, addS, List.length_map, Int.ofNat_lt, hlt, hget, Stm.v_mk, storeV, Exp.v_clen, Exp.v_tk, Exp.v_ag, Exp.v_out, eq_self]
  refine text e0 (by simp) (by omega) _ _ fun s1 h1 => ?_
  simp -dsimp -implicitDefEqProofs (disch := first | (simp -dsimp only [↓STP, STQ, seval]; done) | omega | (simp only [ByteArray.size_append, bsz, List.size_toArray, List.length_cons, List.length_nil]; omega)) only [↓STP, STQ, seval, addS, Exp.v_clen, Exp.v_tk, Exp.v_ag, Exp.v_out, eq_self]
  refine text e1 (by simp) (by omega) _ _ fun s2 h2 => ?_
  simp -dsimp -implicitDefEqProofs (disch := first | (simp -dsimp only [↓STP, STQ, seval]; done) | omega | (simp only [ByteArray.size_append, bsz, List.size_toArray, List.length_cons, List.length_nil]; omega)) only [↓STP, STQ, seval, addS, eq_self, w1]
  refine fin _ ?_
  simp only [ByteArray.size_append, bsz, List.size_toArray, List.length_cons, List.length_nil]; omega
 ·obtain ⟨e0, rfl⟩ := len1 (show e.length = 1 by simpa using v4)
  have ht : llenOf 3 s ([e0].map tlen) (llens a (ind.size + 2)) (llens b (ind.size + 2)) b.length ind.size = ind.size + 4 + tlen e0 + 4 + llens a (ind.size + 2) + (if b.length = 0 then 0 else ind.size + 9 + llens b (ind.size + 2)) + ind.size + 2 := by simp [llenOf, at0]
  rw [ht] at hle htk
  by_cases hb : (0 : Int) < (b.length : Int)
  ·rw [if_neg (show ¬ b.length = 0 by omega)] at hle htk
   simp -dsimp -implicitDefEqProofs (disch := first | (simp -dsimp only [↓STP, STQ, seval]; done) | omega | (simp only [ByteArray.size_append, bsz, List.size_toArray, List.length_cons, List.length_nil]; omega)) only [↓STP, STQ, seval, addS, List.length_map, Int.ofNat_lt, hlt, hget, Stm.v_mk, storeV, Exp.v_clen, Exp.v_tk, Exp.v_ag, Exp.v_out, eq_self]
   refine text e0 (by simp) (by omega) _ _ fun s1 h1 => ?_
   simp -dsimp -implicitDefEqProofs (disch := first | (simp -dsimp only [↓STP, STQ, seval]; done) | omega | (simp only [ByteArray.size_append, bsz, List.size_toArray, List.length_cons, List.length_nil]; omega)) only [↓STP, STQ, seval, addS, eq_self]
   refine hA (lv + 1) _ _ _ v10 oka hla (by rw [ind2]; omega) (by rw [ind2]; omega) fun s2 h2 => ?_
   have h2' : s2.size = llens a (ind.size + 2) := by rw [h2, ind2]
   simp -dsimp -implicitDefEqProofs (disch := first | (simp -dsimp only [↓STP, STQ, seval]; done) | omega | (simp only [ByteArray.size_append, bsz, List.size_toArray, List.length_cons, List.length_nil]; omega)) only [↓STP, STQ, seval, addS, List.length_map, eq_true hb]
   refine hB (lv + 1) _ _ _ v11 okb hlb (by rw [ind2]; omega) (by rw [ind2]; omega) fun s3 h3 => ?_
   have h3' : s3.size = llens b (ind.size + 2) := by rw [h3, ind2]
   simp -dsimp -implicitDefEqProofs (disch := first | (simp -dsimp only [↓STP, STQ, seval]; done) | omega | (simp only [ByteArray.size_append, bsz, List.size_toArray, List.length_cons, List.length_nil]; omega)) only [↓STP, STQ, seval, addS, eq_self, w1]
   refine fin _ ?_
   simp only [ByteArray.size_append, bsz, List.size_toArray, List.length_cons, List.length_nil]; omega
  ·rw [if_pos (show b.length = 0 by omega)] at hle htk
   simp -dsimp -implicitDefEqProofs (disch := first | (simp -dsimp only [↓STP, STQ, seval]; done) | omega | (simp only [ByteArray.size_append, bsz, List.size_toArray, List.length_cons, List.length_nil]; omega)) only [↓STP, STQ, seval, addS, List.length_map, Int.ofNat_lt, hlt, hget, Stm.v_mk, storeV, Exp.v_clen, Exp.v_tk, Exp.v_ag, Exp.v_out, eq_self]
   refine text e0 (by simp) (by omega) _ _ fun s1 h1 => ?_
   simp -dsimp -implicitDefEqProofs (disch := first | (simp -dsimp only [↓STP, STQ, seval]; done) | omega | (simp only [ByteArray.size_append, bsz, List.size_toArray, List.length_cons, List.length_nil]; omega)) only [↓STP, STQ, seval, addS, eq_self]
   refine hA (lv + 1) _ _ _ v10 oka hla (by rw [ind2]; omega) (by rw [ind2]; omega) fun s2 h2 => ?_
   have h2' : s2.size = llens a (ind.size + 2) := by rw [h2, ind2]
   simp -dsimp -implicitDefEqProofs (disch := first | (simp -dsimp only [↓STP, STQ, seval]; done) | omega | (simp only [ByteArray.size_append, bsz, List.size_toArray, List.length_cons, List.length_nil]; omega)) only [↓STP, STQ, seval, addS, List.length_map, eq_false hb, w1]
   refine fin _ ?_
   simp only [ByteArray.size_append, bsz, List.size_toArray, List.length_cons, List.length_nil]; omega
 ·obtain ⟨e0, e1, rfl⟩ := len2 (show e.length = 2 by simpa using v4)
  have ht : llenOf 4 s ([e0, e1].map tlen) (llens a (ind.size + 2)) (llens b (ind.size + 2)) b.length ind.size = ind.size + 4 + s.size + 3 + tlen e0 + 4 + tlen e1 + 3 + llens a (ind.size + 2) + ind.size + 2 := by simp [llenOf, at0]
  rw [ht] at hle htk
  have hsz : s.size ≤ 20 := (v5 (by decide)).2.1
  simp -dsimp -implicitDefEqProofs (disch := first | (simp -dsimp only [↓STP, STQ, seval]; done) | omega | (simp only [ByteArray.size_append, bsz, List.size_toArray, List.length_cons, List.length_nil]; omega)) only [↓STP, STQ, seval, addS, List.length_map, Int.ofNat_lt, hlt, hget, Stm.v_mk, storeV, Exp.v_clen, Exp.v_tk, Exp.v_ag, Exp.v_out, eq_self]
  refine text e0 (by simp) (by omega) _ _ fun s1 h1 => ?_
  simp -dsimp -implicitDefEqProofs (disch := first | (simp -dsimp only [↓STP, STQ, seval]; done) | omega | (simp only [ByteArray.size_append, bsz, List.size_toArray, List.length_cons, List.length_nil]; omega)) only [↓STP, STQ, seval, addS, Exp.v_clen, Exp.v_tk, Exp.v_ag, Exp.v_out, eq_self]
  refine text e1 (by simp) (by omega) _ _ fun s2 h2 => ?_
  simp -dsimp -implicitDefEqProofs (disch := first | (simp -dsimp only [↓STP, STQ, seval]; done) | omega | (simp only [ByteArray.size_append, bsz, List.size_toArray, List.length_cons, List.length_nil]; omega)) only [↓STP, STQ, seval, addS, eq_self]
  refine hA (lv + 1) _ _ _ v10 oka hla (by rw [ind2]; omega) (by rw [ind2]; omega) fun s3 h3 => ?_
  have h3' : s3.size = llens a (ind.size + 2) := by rw [h3, ind2]
  simp -dsimp -implicitDefEqProofs (disch := first | (simp -dsimp only [↓STP, STQ, seval]; done) | omega | (simp only [ByteArray.size_append, bsz, List.size_toArray, List.length_cons, List.length_nil]; omega)) only [↓STP, STQ, seval, addS, eq_self, w1]
  refine fin _ ?_
  simp only [ByteArray.size_append, bsz, List.size_toArray, List.length_cons, List.length_nil]; omega
 ·obtain ⟨e0, rfl⟩ := len1 (show e.length = 1 by simpa using v4)
  have ht : llenOf 5 s ([e0].map tlen) (llens a (ind.size + 2)) (llens b (ind.size + 2)) b.length ind.size = ind.size + 4 + tlen e0 + 2 := by simp [llenOf, at0]
  rw [ht] at hle htk
  skip
  simp -dsimp -implicitDefEqProofs (disch := first | (simp -dsimp only [↓STP, STQ, seval]; done) | omega | (simp only [ByteArray.size_append, bsz, List.size_toArray, List.length_cons, List.length_nil]; omega)) only [↓STP, STQ, seval, addS, List.length_map, Int.ofNat_lt, hlt, hget, Stm.v_mk, storeV, Exp.v_clen, Exp.v_tk, Exp.v_ag, Exp.v_out, eq_self]
  refine text e0 (by simp) (by omega) _ _ fun s1 h1 => ?_
  simp -dsimp -implicitDefEqProofs (disch := first | (simp -dsimp only [↓STP, STQ, seval]; done) | omega | (simp only [ByteArray.size_append, bsz, List.size_toArray, List.length_cons, List.length_nil]; omega)) only [↓STP, STQ, seval, addS, eq_self, w1]
  refine fin _ ?_
  simp only [ByteArray.size_append, bsz, List.size_toArray, List.length_cons, List.length_nil]; omega
theorem linesOk (x : Stm) : LinesOk x.thn ∧ LinesOk x.els := by
 induction x using Stm.ind with
 | h k s e a b iha ihb => exact ⟨lines27_of a iha, lines27_of b ihb⟩
theorem lines27 (l : List Stm) : LinesOk l := lines27_of l fun x _ => linesOk x
end
end YtihmoaibgmhjeaaDoor
end Go.Ab
