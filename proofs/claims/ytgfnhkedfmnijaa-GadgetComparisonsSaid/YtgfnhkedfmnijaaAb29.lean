/- Lemmas for stepping: arguments, numbers, words, objects. -/
import Derived.Test.YtgfnhkedfmnijaaAb28
set_option linter.unusedVariables false
set_option linter.unusedSimpArgs false
namespace Go.Ab

def ρ0 : Nat → V := fun _ => .undef
def m0 : Nat → Option (List V) := fun _ => none

theorem args_nil : args0 [] = ρ0 := by funext t; simp [args0, ρ0]
theorem args_snoc (l : List V) (v : V) : args0 (l ++ [v]) = upd (args0 l) l.length v := by
  funext t
  simp only [args0, upd, List.getD_eq_getElem?_getD]
  by_cases h : t = l.length
  · subst h; simp
  · rw [if_neg h]
    rcases Nat.lt_or_ge t l.length with h1 | h1
    · rw [List.getElem?_append_left h1]
    · rw [List.getElem?_append_right h1, List.getElem?_eq_none h1, List.getElem?_eq_none (by simp; omega)]
theorem args_1 (a : V) : args0 [a] = upd ρ0 0 a := by rw [← args_nil]; exact args_snoc [] a
theorem args_2 (a b : V) : args0 [a, b] = upd (upd ρ0 0 a) 1 b := by rw [← args_1]; exact args_snoc [a] b
theorem args_3 (a b c : V) : args0 [a, b, c] = upd (upd (upd ρ0 0 a) 1 b) 2 c := by rw [← args_2]; exact args_snoc [a, b] c
theorem args_4 (a b c d : V) : args0 [a, b, c, d] = upd (upd (upd (upd ρ0 0 a) 1 b) 2 c) 3 d := by rw [← args_3]; exact args_snoc [a, b, c] d
theorem args_5 (a b c d e : V) : args0 [a, b, c, d, e] = upd (upd (upd (upd (upd ρ0 0 a) 1 b) 2 c) 3 d) 4 e := by rw [← args_4]; exact args_snoc [a, b, c, d] e
theorem args_6 (a b c d e f : V) : args0 [a, b, c, d, e, f] = upd (upd (upd (upd (upd (upd ρ0 0 a) 1 b) 2 c) 3 d) 4 e) 5 f := by rw [← args_5]; exact args_snoc [a, b, c, d, e] f
theorem args_7 (a b c d e f g : V) : args0 [a, b, c, d, e, f, g] = upd (upd (upd (upd (upd (upd (upd ρ0 0 a) 1 b) 2 c) 3 d) 4 e) 5 f) 6 g := by rw [← args_6]; exact args_snoc [a, b, c, d, e, f] g

theorem ρ0_eq (t : Nat) : ρ0 t = .undef := rfl
theorem m0_eq (t : Nat) : m0 t = none := rfl
theorem m0_def : (fun _ => none : Nat → Option (List V)) = m0 := rfl


theorem beqI {x y : Int} : (x == y) = decide (x = y) := rfl
theorem bb_tt : (true == true) = true := rfl
theorem bb_tf : (true == false) = false := rfl
theorem bb_ft : (false == true) = false := rfl
theorem bb_ff : (false == false) = true := rfl
theorem castL {n : Nat} : (Nat.cast (no_index (OfNat.ofNat n)) : Int) = OfNat.ofNat n := rfl
theorem bneI {x y : Int} : (x != y) = !decide (x = y) := rfl

-- values as they leave
theorem out_bool {b : Bool} : (V.bool b).out = some (.bool b) := rfl
theorem out_int {k : IntKind} {n : Int} : (V.int k n).out = some (.int k n) := rfl
theorem out_str {s : ByteArray} : (V.str s).out = some (.str s) := rfl
theorem out_any {xs : List V} : (V.vec xs .any).out = some (.vec xs .any) := rfl
theorem out_full {xs : List V} : (V.vec xs .full).out = some (.vec xs .full) := rfl
theorem out_own {xs : List V} {s : Nat} : (V.vec xs (.own s)).out = some (.vec xs .any) := rfl
theorem out_ref {a b c d : Nat} : (V.ref a b c d).out = some (.ref a b c d) := rfl
theorem out_iptr {cs : List V} : (V.iptr cs).out = some (.iptr cs) := rfl
theorem out_ptr {a b : Nat} : (V.ptr a b).out = some (.ptr a b) := rfl
theorem out_nilptr : V.nilptr.out = some .nilptr := rfl
theorem out_map {a : Nat} : (V.map a).out = some (.map a) := rfl
theorem out_nilmap : V.nilmap.out = some .nilmap := rfl
theorem out_func {fn : Fn} {a b : List V} : (V.func fn a b).out = some (.func fn a b) := rfl
theorem out_nilfunc : V.nilfunc.out = some .nilfunc := rfl
theorem out_iface {t : TypeId} {v : V} : (V.iface t v).out = some (.iface t v) := rfl
theorem out_niliface : V.niliface.out = some .niliface := rfl
theorem out_agg {cs : List V} : (V.agg cs).out = some (.agg cs) := rfl

theorem cells_int {k : IntKind} {n : Int} : (V.int k n).cells = [.int k n] := rfl
theorem cells_bool {b : Bool} : (V.bool b).cells = [.bool b] := rfl
theorem cells_str {b : ByteArray} : (V.str b).cells = [.str b] := rfl
theorem cells_vec {xs : List V} {c : Cap} : (V.vec xs c).cells = [.vec xs c] := rfl
theorem cells_ref {a b c d : Nat} : (V.ref a b c d).cells = [.ref a b c d] := rfl
theorem cells_ptr {a b : Nat} : (V.ptr a b).cells = [.ptr a b] := rfl
theorem cells_nilptr : V.nilptr.cells = [.nilptr] := rfl
theorem cells_map {a : Nat} : (V.map a).cells = [.map a] := rfl
theorem cells_nilmap : V.nilmap.cells = [.nilmap] := rfl
theorem cells_iface {t : TypeId} {v : V} : (V.iface t v).cells = [.iface t v] := rfl
theorem cells_niliface : V.niliface.cells = [.niliface] := rfl
theorem cells_func {fn : Fn} {a b : List V} : (V.func fn a b).cells = [.func fn a b] := rfl
theorem cells_agg {cs : List V} : (V.agg cs).cells = cs := rfl

-- a loop's head
def keepV (v : V) (m : Nat → Option (List V)) (u : List Nat) (q : Kept) (t : Nat) : Kept :=
  match v with
  | .lptr s z o => match seekS q.mp s with
    | some s' => ⟨upd q.ρ t (.lptr s' z o), q.m, q.mp⟩
    | none => match m s with
      | some cs => match renVs u (q.mp ++ [(s, q.mp.length)]) cs with
        | (cs, mp) => ⟨upd q.ρ t (.lptr q.mp.length z o), upd q.m q.mp.length (some cs), mp⟩
      | none => q
  | v => match renV u q.mp v with
    | (v, mp) => ⟨upd q.ρ t v, q.m, mp⟩

def cl (ρ : Nat → V) (m : Nat → Option (List V)) (u : List Nat) (h : H) : List Nat → Kept → S
  | [], q => ⟨q.ρ, q.m, q.mp.length, [], h⟩
  | t :: l, q => cl ρ m u h l (keepV (ρ t) m u q t)

theorem clear_cl {ρ : Nat → V} {m : Nat → Option (List V)} {n : Nat} {u : List Nat} {h : H} {live : List Nat} : clear live ⟨ρ, m, n, u, h⟩ = cl ρ m u h live ⟨ρ0, m0, []⟩ := by
  have : ∀ (live : List Nat) (q : Kept), (match live.foldl (clear1 ⟨ρ, m, n, u, h⟩) q with | ⟨ρ, m, mp⟩ => (⟨ρ, m, mp.length, [], h⟩ : S)) = cl ρ m u h live q := by
    intro live
    induction live with
    | nil => intro q; rfl
    | cons t l ih => intro q; rw [List.foldl_cons, ih]; rfl
  exact this live _
theorem cl_nil {ρ ρ' : Nat → V} {m m' : Nat → Option (List V)} {mp : List (Nat × Nat)} {u : List Nat} {h : H} : cl ρ m u h [] ⟨ρ', m', mp⟩ = ⟨ρ', m', mp.length, [], h⟩ := rfl
theorem cl_cons {ρ : Nat → V} {m : Nat → Option (List V)} {u : List Nat} {h : H} {t : Nat} {l : List Nat} {q : Kept} : cl ρ m u h (t :: l) q = cl ρ m u h l (keepV (ρ t) m u q t) := rfl

/-- A value that a loop's head keeps as it is. -/
def V.stays : V → Bool
  | .vec _ (.own _) | .lptr .. | .tuple _ => false
  | _ => true
theorem keepV_plain {v : V} {m : Nat → Option (List V)} {u : List Nat} {ρ' : Nat → V} {m' : Nat → Option (List V)} {mp : List (Nat × Nat)} {t : Nat} (hv : v.stays = true) : keepV v m u ⟨ρ', m', mp⟩ t = ⟨upd ρ' t v, m', mp⟩ := by
  cases v with
  | vec xs c => cases c <;> first | rfl | simp [V.stays] at hv
  | lptr => simp [V.stays] at hv
  | tuple => simp [V.stays] at hv
  | _ => rfl
theorem keepV_own {xs : List V} {s : Nat} {m : Nat → Option (List V)} {u : List Nat} {ρ' : Nat → V} {m' : Nat → Option (List V)} {mp : List (Nat × Nat)} {t : Nat} (hu : s ∉ u) (hs : seekS mp s = none) :
    keepV (.vec xs (.own s)) m u ⟨ρ', m', mp⟩ t = ⟨upd ρ' t (.vec xs (.own mp.length)), m', mp ++ [(s, mp.length)]⟩ := by
  simp [keepV, renV, hu, hs]
theorem keepV_used {xs : List V} {s : Nat} {m : Nat → Option (List V)} {u : List Nat} {ρ' : Nat → V} {m' : Nat → Option (List V)} {mp : List (Nat × Nat)} {t : Nat} (hu : s ∈ u) :
    keepV (.vec xs (.own s)) m u ⟨ρ', m', mp⟩ t = ⟨upd ρ' t (.vec xs .any), m', mp⟩ := by
  simp [keepV, renV, hu]
theorem rd_load {st : S} {x : Arg} {n : Nat} {ag : Bool} : rd st (.load x n ag) = loadV st.m st.h (evA st.ρ x) n ag := rfl
theorem rd_len {st : S} {q : KK} {x : Arg} : rd st (.len q x) = lenOfV st.h q (evA st.ρ x) := by
  simp only [rd]; rfl
theorem rd_lkp {st : S} {q : KK} {x k : Arg} {zero : V} {ok : Bool} : rd st (.lkp q x k zero ok) = lkpV st.h q (evA st.ρ x) (evA st.ρ k) zero ok := rfl
theorem len_vec {h : H} {xs : List V} {c : Cap} : lenOfV h .i (.vec xs c) = some (.int .i64 xs.length) := rfl
theorem len_ref {h : H} {a b n z : Nat} : lenOfV h .i (.ref a b n z) = some (.int .i64 n) := rfl
theorem len_str {h : H} {s : ByteArray} : lenOfV h .s (.str s) = some (.int .i64 s.size) := rfl
theorem len_nilmap {h : H} : lenOfV h .b .nilmap = some (.int .i64 0) := rfl
theorem len_map {h : H} {id : Nat} : lenOfV h .b (.map id) = (match h.mapAt id with | some (es, _) => some (.int .i64 es.length) | none => none) := rfl
theorem load_iptr {m : Nat → Option (List V)} {h : H} {cs : List V} {n : Nat} {ag : Bool} : loadV m h (.iptr cs) n ag = takeV cs 0 n ag := rfl
theorem load_ptr {m : Nat → Option (List V)} {h : H} {id o n : Nat} {ag : Bool} : loadV m h (.ptr id o) n ag = (match h.get id with | some cs => takeV cs o n ag | none => none) := rfl
theorem load_lptr {m : Nat → Option (List V)} {h : H} {s z o n : Nat} {ag : Bool} : loadV m h (.lptr s z o) n ag = (match m s with | some cs => takeL cs o n ag | none => none) := rfl
theorem addP_iptr {cs : List V} {off : Nat} : addP (.iptr cs) off = if off ≤ cs.length then some (.iptr (cs.drop off)) else none := rfl
theorem addP_ptr {id o off : Nat} : addP (.ptr id o) off = some (.ptr id (o + off)) := rfl
theorem addP_lptr {s z o off : Nat} : addP (.lptr s z o) off = some (.lptr s z (o + off)) := rfl
theorem idx_vec {xs : List V} {c : Cap} {k : IntKind} {i : Int} {sz : Nat} : idxSV (.vec xs c) (.int k i) sz = (if 0 ≤ i then match xs[i.toNat]? with
      | some e => if e.cells.length = sz then some (.iptr e.cells) else none
      | none => none
    else none) := rfl
theorem idx_ref {id off len z : Nat} {k : IntKind} {i : Int} {sz : Nat} : idxSV (.ref id off len z) (.int k i) sz = if 0 ≤ i ∧ i < len ∧ z = sz then some (.ptr id (off + i.toNat * sz)) else none := rfl
theorem toNat_nat {n : Nat} : ((n : Int)).toNat = n := rfl
theorem nat_nonneg {n : Nat} : (0 ≤ (n : Int)) = True := eq_true (Int.natCast_nonneg n)

/-- All stay. -/
def allStays : List V → Bool
  | [] => true
  | v :: vs => v.stays && allStays vs
theorem all_nil : allStays [] = true := rfl
theorem all_cons {v : V} {vs : List V} : allStays (v :: vs) = (v.stays && allStays vs) := rfl
def keepB (o : Option Nat) (b : Option (List V)) (s z off : Nat) (u : List Nat) (ρ' : Nat → V) (m' : Nat → Option (List V)) (mp : List (Nat × Nat)) (t : Nat) : Kept :=
  match o with
  | some s' => ⟨upd ρ' t (.lptr s' z off), m', mp⟩
  | none => match b with
    | some cs => match renVs u (mp ++ [(s, mp.length)]) cs with
      | (cs, mp2) => ⟨upd ρ' t (.lptr mp.length z off), upd m' mp.length (some cs), mp2⟩
    | none => ⟨ρ', m', mp⟩
theorem keepV_l {s z off : Nat} {m : Nat → Option (List V)} {u : List Nat} {ρ' : Nat → V} {m' : Nat → Option (List V)} {mp : List (Nat × Nat)} {t : Nat} : keepV (.lptr s z off) m u ⟨ρ', m', mp⟩ t = keepB (seekS mp s) (m s) s z off u ρ' m' mp t := by
  unfold keepV keepB
  rfl
theorem renVs_stays {u : List Nat} {mp : List (Nat × Nat)} : ∀ {cs : List V}, allStays cs = true → renVs u mp cs = (cs, mp)
  | [], _ => rfl
  | v :: vs, h => by
    rw [all_cons, Bool.and_eq_true] at h
    have h1 : renV u mp v = (v, mp) := by
      have h0 := h.1
      cases v with
      | vec xs c => cases c <;> first | rfl | simp [V.stays] at h0
      | lptr => simp [V.stays] at h0
      | tuple => simp [V.stays] at h0
      | _ => rfl
    simp only [renVs, h1, renVs_stays h.2]
theorem keepB_new {cs : List V} {s z off : Nat} {u : List Nat} {ρ' : Nat → V} {m' : Nat → Option (List V)} {mp : List (Nat × Nat)} {t : Nat} (h : allStays cs = true) :
    keepB none (some cs) s z off u ρ' m' mp t = ⟨upd ρ' t (.lptr mp.length z off), upd m' mp.length (some cs), mp ++ [(s, mp.length)]⟩ := by
  simp only [keepB, renVs_stays h]
theorem keepB_old {s' : Nat} {b : Option (List V)} {s z off : Nat} {u : List Nat} {ρ' : Nat → V} {m' : Nat → Option (List V)} {mp : List (Nat × Nat)} {t : Nat} :
    keepB (some s') b s z off u ρ' m' mp t = ⟨upd ρ' t (.lptr s' z off), m', mp⟩ := rfl
theorem stays_vec {xs : List V} {c : Cap} : (V.vec xs c).stays = c.shared := by cases c <;> rfl
theorem out_sh {xs : List V} {c : Cap} (hc : c.shared = true) : (V.vec xs c).out = some (.vec xs c) := by cases c <;> first | rfl | simp [Cap.shared] at hc
theorem shared_any : Cap.any.shared = true := rfl
theorem shared_full : Cap.full.shared = true := rfl
theorem stays_int {k : IntKind} {n : Int} : (V.int k n).stays = true := rfl
theorem stays_bool {b : Bool} : (V.bool b).stays = true := rfl
theorem stays_str {b : ByteArray} : (V.str b).stays = true := rfl
theorem stays_ref {a b c d : Nat} : (V.ref a b c d).stays = true := rfl
theorem stays_ptr {a b : Nat} : (V.ptr a b).stays = true := rfl
theorem stays_iptr {cs : List V} : (V.iptr cs).stays = true := rfl
theorem stays_nilptr : V.nilptr.stays = true := rfl
theorem stays_map {a : Nat} : (V.map a).stays = true := rfl
theorem stays_nilmap : V.nilmap.stays = true := rfl
theorem stays_itr {a : Nat} : (V.itr a).stays = true := rfl
theorem stays_iface {t : TypeId} {v : V} : (V.iface t v).stays = true := rfl
theorem stays_niliface : V.niliface.stays = true := rfl
theorem stays_func {fn : Fn} {a b : List V} : (V.func fn a b).stays = true := rfl
theorem stays_nilfunc : V.nilfunc.stays = true := rfl
theorem stays_agg {cs : List V} : (V.agg cs).stays = true := rfl
theorem stays_undef : V.undef.stays = true := rfl
theorem seek_nil {s : Nat} : seekS [] s = none := rfl
theorem seek_cons {a b s : Nat} {l : List (Nat × Nat)} : seekS ((a, b) :: l) s = if a = s then some b else seekS l s := by
  unfold seekS
  by_cases h : a = s
  · simp [h]
  · simp [h]

-- lists at numerals
theorem get_zero {α : Type} {a : α} {l : List α} : (a :: l)[0]? = some a := rfl
theorem get_succ {α : Type} {a : α} {l : List α} {n : Nat} : (a :: l)[n + 1]? = l[n]? := rfl

-- the store
theorem get_new {h : H} {cs : List V} : (h.new (.cells cs)).get h.next = some cs := by simp [H.get, H.new, upd]
theorem get_new_ne {h : H} {o : O} {id : Nat} (hid : id ≠ h.next) : (h.new o).get id = h.get id := by simp [H.get, H.new, upd, hid]
theorem get_set {h : H} {cs : List V} {id : Nat} : (h.set id (.cells cs)).get id = some cs := by simp [H.get, H.set, upd]
theorem get_set_ne {h : H} {o : O} {id id' : Nat} (hid : id ≠ id') : (h.set id' o).get id = h.get id := by simp [H.get, H.set, upd, hid]
theorem get_move {h : H} {cs : List V} {id : Nat} : (h.move id (.cells cs)).get h.next = some cs := by simp [H.get, H.move, upd]
theorem get_move_ne {h : H} {o : O} {id id' : Nat} (hid : id ≠ h.next) (hne : id ≠ id') : (h.move id' o).get id = h.get id := by simp [H.get, H.move, upd, hid, hne]
theorem next_new {h : H} {o : O} : (h.new o).next = h.next + 1 := rfl
theorem next_set {h : H} {o : O} {id : Nat} : (h.set id o).next = h.next := rfl
theorem next_move {h : H} {o : O} {id : Nat} : (h.move id o).next = h.next + 1 := rfl

-- numbers
theorem wrap_i64 {n : Int} (h0 : -9223372036854775808 ≤ n) (h1 : n ≤ 9223372036854775807) : IntKind.i64.wrap n = n := by
  rw [IntKind.wrap_i64]; omega
theorem wrap_u64 {n : Int} : IntKind.u64.wrap n = n % 18446744073709551616 := by simp [IntKind.wrap, IntKind.bits, IntKind.signed]
theorem wrap_u64_self {n : Int} (h0 : 0 ≤ n) (h1 : n < 18446744073709551616) : IntKind.u64.wrap n = n := by rw [wrap_u64]; omega
theorem wrap_u8 {n : Int} : IntKind.u8.wrap n = n % 256 := IntKind.wrap_u8 n
theorem wrap_u16 {n : Int} : IntKind.u16.wrap n = n % 65536 := by simp [IntKind.wrap, IntKind.bits, IntKind.signed]
theorem wrap_u32 {n : Int} : IntKind.u32.wrap n = n % 4294967296 := IntKind.wrap_u32 n

/-- A word and a list of words. -/
abbrev W (n : Nat) : V := .int .u64 n
abbrev I (n : Int) : V := .int .i64 n
def Ws (l : List Nat) : List V := l.map W

theorem Ws_length {l : List Nat} : (Ws l).length = l.length := by simp [Ws]
theorem Ws_get {l : List Nat} {i : Nat} : (Ws l)[i]? = (l[i]?).map W := by simp [Ws]
theorem Ws_cells {l : List Nat} : ∀ e ∈ Ws l, e.cells.length = 1 := by
  intro e he
  obtain ⟨x, _, rfl⟩ := List.mem_map.1 he
  rfl
theorem Ws_flat {l : List Nat} : (Ws l).flatMap V.cells = Ws l := by
  induction l with
  | nil => rfl
  | cons a l ih => show [W a] ++ (Ws l).flatMap V.cells = W a :: Ws l; rw [ih]; rfl
theorem Ws_append {l l' : List Nat} : Ws (l ++ l') = Ws l ++ Ws l' := by simp [Ws]
theorem Ws_take {l : List Nat} {n : Nat} : (Ws l).take n = Ws (l.take n) := by simp [Ws, List.map_take]
theorem Ws_drop {l : List Nat} {n : Nat} : (Ws l).drop n = Ws (l.drop n) := by simp [Ws, List.map_drop]
theorem Ws_inj {l l' : List Nat} (h : Ws l = Ws l') : l = l' := by
  induction l generalizing l' with
  | nil => cases l' with
    | nil => rfl
    | cons b l' => simp [Ws] at h
  | cons a l ih => cases l' with
    | nil => simp [Ws] at h
    | cons b l' =>
      simp only [Ws, List.map_cons, List.cons.injEq, V.int.injEq, true_and] at h
      rw [ih h.2]
      have := h.1
      congr 1
      omega

theorem chunk_one {n : Nat} {cs : List V} (h : n ≤ cs.length) : chunk false 1 n cs = cs.take n := by
  induction n generalizing cs with
  | zero => simp [chunk]
  | succ n ih => cases cs with
    | nil => simp at h
    | cons c cs => simp only [chunk, List.take_succ_cons, List.drop_succ_cons, List.drop_zero]; rw [ih (by simpa using h)]; simp [mkEl]

-- appending words
theorem app_ws_none {st : S} {s : Nat} {a : List Nat} {c c2 : Cap} (ha : a.length ≤ 4294967296) : appV st s (.vec (Ws a) c) (.vec (Ws []) c2) 1 8 false false = some (.vec (Ws a) c, st) := by
  have h1 : a.length ≤ most ∧ ∀ e ∈ Ws a, e.cells.length = 1 := ⟨ha, Ws_cells⟩
  simp only [appV, lenV, flat, Ws_flat, Ws_length, List.length_nil, Nat.mul_one, Nat.zero_mul, Nat.add_zero, h1]
  simp
  exact Ws_cells
theorem app_ws_full {st : S} {s : Nat} {a b : List Nat} {c2 : Cap} (hb : b ≠ []) (ha : a.length + b.length ≤ 4294967296) : appV st s (.vec (Ws a) .full) (.vec (Ws b) c2) 1 8 false false = some (.vec (Ws (a ++ b)) (.own s), st) := by
  simp only [appV, lenV, flat, Ws_flat, Ws_length, Nat.mul_one]
  rw [if_pos ⟨trivial, by decide, by decide⟩, if_pos ⟨ha, Ws_cells⟩, if_neg (by simpa using hb), chunk_one (Nat.le_of_eq Ws_length.symm), List.take_of_length_le (Nat.le_of_eq Ws_length), Ws_append]
theorem app_ws_own {st : S} {s s' : Nat} {a b : List Nat} {c2 : Cap} (hs : s' ∉ st.u) (hb : b ≠ []) (ha : a.length + b.length ≤ 4294967296) :
    appV st s (.vec (Ws a) (.own s')) (.vec (Ws b) c2) 1 8 false false = some (.vec (Ws (a ++ b)) (.own s), { st with u := s' :: st.u }) := by
  simp only [appV, lenV, flat, Ws_flat, Ws_length, Nat.mul_one]
  rw [if_pos ⟨trivial, by decide, by decide⟩, if_pos ⟨ha, Ws_cells⟩, if_neg (by simpa using hb), if_neg hs, chunk_one (Nat.le_of_eq Ws_length.symm), List.take_of_length_le (Nat.le_of_eq Ws_length), Ws_append]
theorem Ws_nil : Ws [] = [] := rfl
theorem Ws_cons {n : Nat} {l : List Nat} : Ws (n :: l) = W n :: Ws l := rfl

theorem sub_nat {a b : Nat} (h : b ≤ a) : ((a : Int) - (b : Int)) = ((a - b : Nat) : Int) := by omega

end Go.Ab
