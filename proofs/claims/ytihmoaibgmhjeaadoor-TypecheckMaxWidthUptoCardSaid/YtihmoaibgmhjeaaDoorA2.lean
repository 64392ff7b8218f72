import Derived.Test.YtihmoaibgmhjeaaDoorEnv
import Derived.Test.YtihmoaibgmhjeaaDoorA1
set_option linter.unusedVariables false
set_option linter.unusedSimpArgs false
namespace Go.Ab
theorem Exp.v_mk {k o : Int} {n : Nat} {s : ByteArray} {ks : List Exp} : (Exp.mk k o n s ks).v = .agg [I k, I o, W n, .str s, .vec (ks.map Exp.v) .any] := Exp.v_eq _
theorem Stm.v_mk {k : Int} {s : ByteArray} {e : List Exp} {a b : List Stm} : (Stm.mk k s e a b).v = .agg [I k, .str s, .vec (e.map Exp.v) .any, .vec (a.map Stm.v) .any, .vec (b.map Stm.v) .any] := Stm.v_eq _
theorem Exp.v_clen {e : Exp} : e.v.cells.length = 5 := by rw [Exp.v_eq]; rfl
theorem Stm.v_clen {e : Stm} : e.v.cells.length = 5 := by rw [Stm.v_eq]; rfl
theorem InD.v_clen {e : InD} : e.v.cells.length = 4 := rfl
theorem ArD.v_clen {e : ArD} : e.v.cells.length = 2 := rfl
theorem Exp.v_tk {e : Exp} : List.take 5 e.v.cells = e.v.cells := List.take_of_length_le (by rw [Exp.v_clen]; decide)
theorem Stm.v_tk {e : Stm} : List.take 5 e.v.cells = e.v.cells := List.take_of_length_le (by rw [Stm.v_clen]; decide)
theorem Exp.v_ag {e : Exp} : V.agg e.v.cells = e.v := by rw [Exp.v_eq]; rfl
theorem Stm.v_ag {e : Stm} : V.agg e.v.cells = e.v := by rw [Stm.v_eq]; rfl
theorem Exp.v_out {e : Exp} : e.v.out = some e.v := by rw [Exp.v_eq]; rfl
theorem Stm.v_out {e : Stm} : e.v.out = some e.v := by rw [Stm.v_eq]; rfl
theorem InD.v_out {e : InD} : e.v.out = some e.v := rfl
theorem ArD.v_out {e : ArD} : e.v.out = some e.v := rfl
theorem Prg.v_out {e : Prg} : e.v.out = some e.v := rfl
theorem Exp.v_cells {e : Exp} : e.v.cells = [I e.kind, I e.op, W e.num, .str e.name, .vec (e.kids.map Exp.v) .any] := by rw [Exp.v_eq]; rfl
theorem Stm.v_cells {e : Stm} : e.v.cells = [I e.kind, .str e.name, .vec (e.e.map Exp.v) .any, .vec (e.thn.map Stm.v) .any, .vec (e.els.map Stm.v) .any] := by rw [Stm.v_eq]; rfl
theorem InD.v_cells {e : InD} : e.v.cells = [.str e.name, I e.frm, I e.width, I e.size] := rfl
theorem ArD.v_cells {e : ArD} : e.v.cells = [.str e.name, I e.size] := rfl
theorem storeE {st : S} {k : Nat} {e : Exp} : storeV st (.lptr k 5 0) e.v 5 = some { st with m := upd st.m k (some e.v.cells) } := by rw [Exp.v_eq]; rfl
theorem storeSt {st : S} {k : Nat} {e : Stm} : storeV st (.lptr k 5 0) e.v 5 = some { st with m := upd st.m k (some e.v.cells) } := by rw [Stm.v_eq]; rfl
theorem Exp.v_outs {e : Exp} : outs e.v.cells = some e.v.cells := by rw [Exp.v_eq]; rfl
theorem Stm.v_outs {e : Stm} : outs e.v.cells = some e.v.cells := by rw [Stm.v_eq]; rfl
theorem get_map {α : Type} {f : α → V} {l : List α} {i : Nat} (hi : i < l.length) : (l.map f)[i]? = some (f l[i]) := by rw [List.getElem?_map, List.getElem?_eq_getElem hi]; rfl
theorem beqS {x y : ByteArray} : (x == y) = decide (x = y) := by
 rcases x with ⟨a⟩
 rcases y with ⟨b⟩
 show (a == b) = _
 by_cases h : a = b
 ·subst h; simp
 ·rw [decide_eq_false (by simpa using h)]
  simpa using h
theorem wiM {i : Nat} (h : i < 9223372036854775807) : IntKind.i64.wrap ((i : Int) + 1) = ((i + 1 : Nat) : Int) := by rw [wrap_i64] <;> omega
theorem bneS {x y : ByteArray} : (x != y) = !decide (x = y) := by rw [bne, beqS]
def letterI (c : Int) : Bool := (decide (97 ≤ c) && decide (c ≤ 122)) || (decide (65 ≤ c) && decide (c ≤ 90))
def digitI (c : Int) : Bool := decide (48 ≤ c) && decide (c ≤ 57)
def partI (d : Bool) (c : UInt8) : Bool := digitI c.toNat || (!d && (letterI c.toNat || decide (((c.toNat : Nat) : Int) = 95)))
def runOf (d : Bool) (l : List UInt8) : Nat := (l.takeWhile (partI d)).length
def words26 : List ByteArray := [⟨#[105, 110]⟩, ⟨#[102, 114, 111, 109]⟩, ⟨#[97, 114, 114, 97, 121]⟩, ⟨#[105, 102]⟩, ⟨#[101, 108, 115, 101]⟩, ⟨#[102, 111, 114]⟩, ⟨#[116, 111]⟩, ⟨#[111, 117, 116]⟩]
def isName (s : ByteArray) : Prop := 1 ≤ s.size ∧ s.size ≤ 20 ∧ (∃ c r, s.data.toList = c :: r ∧ letterI c.toNat = true) ∧ runOf false s.data.toList = s.size ∧ s ∉ words26
theorem size_list {s : ByteArray} : s.data.toList.length = s.size := Array.length_toList ..
namespace YtihmoaibgmhjeaaDoor
section
variable {h : H} {K : Out → H → Prop}
theorem letter_spec {c : Nat} (hK : K (.ret (.bool (letterI c))) h) : R 40 [.int .u8 c, ] h K := by
 refine run40 (Nat.le_of_ble_eq_true rfl) ?_
 by_cases a : (97 : Int) ≤ c <;> by_cases b : (c : Int) ≤ 122 <;> by_cases d : (65 : Int) ≤ c <;> by_cases e : (c : Int) ≤ 90
 all_goals
  simp -dsimp -implicitDefEqProofs only [↓STP, STQ, seval, ir40, a, b, d, e]
  simpa [letterI, a, b, d, e] using hK
theorem digit_spec {c : Nat} (hK : K (.ret (.bool (digitI c))) h) : R 51 [.int .u8 c] h K := by
 refine run51 (Nat.le_of_ble_eq_true rfl) ?_
 by_cases a : (48 : Int) ≤ c <;> by_cases b : (c : Int) ≤ 57
 all_goals
  simp -dsimp -implicitDefEqProofs only [↓STP, STQ, seval, ir51, a, b]
  simpa [digitI, a, b] using hK
theorem takeWhile_get {p : UInt8 → Bool} {l : List UInt8} {i : Nat} (hi : i < (l.takeWhile p).length) : ∃ c, l[i]? = some c ∧ p c = true := by
 induction l generalizing i with
 | nil => simp at hi
 | cons a l ih =>
  by_cases ha : p a = true
  ·rw [List.takeWhile_cons_of_pos ha] at hi
   cases i with
   | zero => exact ⟨a, rfl, ha⟩
   | succ i => exact ih (by simpa using hi)
  ·rw [List.takeWhile_cons_of_neg ha] at hi; simp at hi
theorem takeWhile_end {p : UInt8 → Bool} {l : List UInt8} : (l.takeWhile p).length = l.length ∨ ∃ c, l[(l.takeWhile p).length]? = some c ∧ p c = false ∧ (l.takeWhile p).length < l.length := by
 induction l with
 | nil => exact .inl rfl
 | cons a l ih =>
  by_cases ha : p a = true
  ·rw [List.takeWhile_cons_of_pos ha]
   rcases ih with h | ⟨c, h1, h2, h3⟩
   ·exact .inl (by simp [h])
   ·exact .inr ⟨c, by simpa using h1, h2, by simpa using h3⟩
  ·rw [List.takeWhile_cons_of_neg ha]
   exact .inr ⟨a, rfl, by simpa using ha, by simp⟩
theorem long_spec {s : ByteArray} {d : Bool} (hs : s.size ≤ maxLen) (hK : K (.ret (I (runOf d s.data.toList : Nat))) h) : R 41 [.str s, .bool d] h K := by
 refine run41 (Nat.le_of_ble_eq_true rfl) ?_
 have hmx : maxLen ≤ 9223372036854775807 := by decide
 have hle : runOf d s.data.toList ≤ s.size := by rw [← size_list]; exact List.Sublist.length_le (List.takeWhile_sublist _)
 simp -dsimp -implicitDefEqProofs only [↓STP, STQ, seval, ir41]
 refine codeT_for (N := runOf d s.data.toList) (fun i => ⟨upd (upd (upd ρ0 0 (.str s)) 1 (.bool d)) 5 (I i), m0, 0, [], h⟩) (fun _ => True) (by simp -dsimp -implicitDefEqProofs only [↓STP, STQ, seval] <;> rfl) trivial (fun i hi _ => ?_) (fun _ => ?_) mono
 ·obtain ⟨c, hc, hp⟩ := takeWhile_get hi
  have hlt : i < s.size := by omega
  have w1 := wiM (show i < 9223372036854775807 by omega)
  by_cases a : digitI c.toNat = true
  ·simp -dsimp -implicitDefEqProofs only [↓STP, STQ, seval, Int.ofNat_lt, hlt, hc]
   refine digit_spec ?_
   simp -dsimp -implicitDefEqProofs only [↓STP, STQ, seval, a, w1]
  ·have a' : digitI c.toNat = false := by simpa using a
   have hd : d = false := by
    cases d with
    | false => rfl
    | true => rw [partI, a'] at hp; simp at hp
   subst hd
   simp -dsimp -implicitDefEqProofs only [↓STP, STQ, seval, Int.ofNat_lt, hlt, hc]
   refine digit_spec ?_
   simp -dsimp -implicitDefEqProofs only [↓STP, STQ, seval, a', hc]
   refine letter_spec ?_
   by_cases b : letterI c.toNat = true
   ·simp -dsimp -implicitDefEqProofs only [↓STP, STQ, seval, b, w1]
   ·have b' : letterI c.toNat = false := by simpa using b
    have e : ((c.toNat : Nat) : Int) = 95 := by
     rw [partI, a', b'] at hp
     simpa using hp
    simp -dsimp -implicitDefEqProofs only [↓STP, STQ, seval, b', hc, eq_true e, w1]
 ·rcases takeWhile_end (p := partI d) (l := s.data.toList) with he | ⟨c, hc, hp, hlt⟩
  ·rw [size_list] at he
   simp -dsimp -implicitDefEqProofs only [↓STP, STQ, seval, Int.ofNat_lt, runOf, he, Nat.lt_irrefl]
   rw [runOf, he] at hK
   exact hK
  ·rw [size_list] at hlt
   have hlt' : runOf d s.data.toList < s.size := hlt
   have hc' : s.data.toList[runOf d s.data.toList]? = some c := hc
   have a' : digitI c.toNat = false := by
    cases hh : digitI c.toNat with
    | false => rfl
    | true => rw [partI, hh] at hp; simp at hp
   simp -dsimp -implicitDefEqProofs only [↓STP, STQ, seval, Int.ofNat_lt, hlt', hc']
   refine digit_spec ?_
   cases d with
   | true =>
    simp -dsimp -implicitDefEqProofs only [↓STP, STQ, seval, a']
    exact hK
   | false =>
    rw [partI, a'] at hp
    have b' : letterI c.toNat = false := by
     cases hh : letterI c.toNat with
     | false => rfl
     | true => rw [hh] at hp; simp at hp
    have e : ¬ ((c.toNat : Nat) : Int) = 95 := by
     rw [b'] at hp
     simpa using hp
    simp -dsimp -implicitDefEqProofs only [↓STP, STQ, seval, a', hc']
    refine letter_spec ?_
    simp -dsimp -implicitDefEqProofs only [↓STP, STQ, seval, b', hc', eq_false e]
    exact hK
theorem word_spec {s : ByteArray} (hK : ∀ b : Bool, (b = true ↔ s ∈ words26) → K (.ret (.bool b)) h) : R 42 [.str s] h K := by
 refine run42 (Nat.le_of_ble_eq_true rfl) ?_
 simp -dsimp -implicitDefEqProofs only [↓STP, STQ, seval, ir42]
 refine codeT_for (N := 8) (fun i => ⟨upd (upd (upd ρ0 0 (.str s)) 3 (.vec (words26.map V.str) (.own 0))) 4 (I i), m0, 1, [], h⟩) (fun i => s ∉ words26.take i) (by simp -dsimp -implicitDefEqProofs only [↓STP, STQ, seval] <;> rfl) (by simp) (fun i hi hp => ?_) (fun hp => ?_) mono
 ·have hget : (words26.map V.str)[i]? = some (.str (words26[i]'hi)) := get_map hi
  have hlen : ((i : Nat) : Int) < (words26.map V.str).length := by rw [List.length_map]; show (i : Int) < (8 : Nat); omega
  by_cases e : s = words26[i]'hi
  ·simp -dsimp -implicitDefEqProofs only [↓STP, STQ, seval, eq_true hlen, hget, binS, beqS, eq_true e]
   refine hK true ⟨fun _ => ?_, fun _ => rfl⟩
   rw [e]; exact List.getElem_mem _
  ·simp -dsimp -implicitDefEqProofs only [↓STP, STQ, seval, eq_true hlen, hget, binS, beqS, eq_false e, wi (show i < 9000000000000000000 by omega)]
   rw [List.take_add_one, List.getElem?_eq_getElem (show i < words26.length from hi)]
   intro hm
   rcases List.mem_append.1 hm with hm | hm
   ·exact hp hm
   ·simp at hm; exact e hm
 ·have hlen : ¬ ((8 : Nat) : Int) < (words26.map V.str).length := by rw [List.length_map]; exact Int.lt_irrefl _
  simp -dsimp -implicitDefEqProofs only [↓STP, STQ, seval, List.length_map]
  refine hK false (iff_of_false (by simp) fun hm => ?_)
  exact absurd hm (by rw [List.take_of_length_le (Nat.le_refl 8)] at hp; exact hp)
theorem isName_spec {s : ByteArray} (hs : s.size ≤ maxLen) (hK : ∀ b : Bool, (b = true ↔ isName s) → K (.ret (.bool b)) h) : R 30 [.str s] h K := by
 refine run30 (Nat.le_of_ble_eq_true rfl) ?_
 have no : ¬ isName s → K (.ret (.bool false)) h := fun hn => hK false (iff_of_false (by simp) hn)
 by_cases a : (1 : Int) ≤ (s.size : Int)
 rotate_left
 ·simp -dsimp -implicitDefEqProofs only [↓STP, STQ, seval, ir30, a]
  exact no fun h => a (by have := h.1; omega)
 by_cases b : (s.size : Int) ≤ 20
 rotate_left
 ·simp -dsimp -implicitDefEqProofs only [↓STP, STQ, seval, ir30, a, b]
  exact no fun h => b (by have := h.2.1; omega)
 obtain ⟨c, r, hcr⟩ : ∃ c r, s.data.toList = c :: r := by
  cases hl : s.data.toList with
  | nil => have := size_list (s := s); rw [hl] at this; simp at this; omega
  | cons c r => exact ⟨c, r, rfl⟩
 have hget : s.data.toList[0]? = some c := by rw [hcr]; rfl
 simp -dsimp -implicitDefEqProofs only [↓STP, STQ, seval, ir30, a, b, hget]
 refine letter_spec ?_
 by_cases d : letterI c.toNat = true
 rotate_left
 ·have d' : letterI c.toNat = false := by simpa using d
  simp -dsimp -implicitDefEqProofs only [↓STP, STQ, seval, d']
  refine no fun h => ?_
  obtain ⟨c', r', h1, h2⟩ := h.2.2.1
  rw [hcr] at h1
  cases h1
  exact d h2
 simp -dsimp -implicitDefEqProofs only [↓STP, STQ, seval, d]
 refine long_spec hs ?_
 by_cases e : ((runOf false s.data.toList : Nat) : Int) = (s.size : Int)
 rotate_left
 ·simp -dsimp -implicitDefEqProofs only [↓STP, STQ, seval, eq_false e]
  exact no fun h => e (by rw [h.2.2.2.1])
 simp -dsimp -implicitDefEqProofs only [↓STP, STQ, seval, eq_true e]
 refine word_spec fun w hw => ?_
 cases w with
 | true =>
  simp -dsimp -implicitDefEqProofs only [↓STP, STQ, seval]
  exact no fun h => h.2.2.2.2 (hw.1 rfl)
 | false =>
  simp -dsimp -implicitDefEqProofs only [↓STP, STQ, seval]
  exact hK true (iff_of_true rfl ⟨by omega, by omega, ⟨c, r, hcr, d⟩, by omega, fun hm => by have := hw.2 hm; cases this⟩)
end
end YtihmoaibgmhjeaaDoor
end Go.Ab
