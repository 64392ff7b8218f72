import Derived.Test.YtihmoaibgmhjeaaDoorAb28
set_option linter.unusedVariables false
set_option linter.unusedSimpArgs false
namespace Go.Ab
def ρ0 : Nat → V := fun _ => .undef
def m0 : Nat → Option (List V) := fun _ => none
theorem args_nil : args0 [] = ρ0 := by funext t; simp [args0, ρ0]
theorem args_snoc (l : List V) (v : V) : args0 (l ++ [v]) = upd (args0 l) l.length v := by
 funext t
 simp only [args0, upd, List.getD_eq_getElem?_getD]
 by_cases h : t = l.length
 ·subst h; simp
 ·rw [if_neg h]
  rcases Nat.lt_or_ge t l.length with h1 | h1
  ·rw [List.getElem?_append_left h1]
  ·rw [List.getElem?_append_right h1, List.getElem?_eq_none h1, List.getElem?_eq_none (by simp; omega)]
theorem args_1 (a : V) : args0 [a] = upd ρ0 0 a := by rw [← args_nil]; exact args_snoc [] a
theorem args_2 (a b : V) : args0 [a, b] = upd (upd ρ0 0 a) 1 b := by rw [← args_1]; exact args_snoc [a] b
theorem args_3 (a b c : V) : args0 [a, b, c] = upd (upd (upd ρ0 0 a) 1 b) 2 c := by rw [← args_2]; exact args_snoc [a, b] c
theorem args_4 (a b c d : V) : args0 [a, b, c, d] = upd (upd (upd (upd ρ0 0 a) 1 b) 2 c) 3 d := by rw [← args_3]; exact args_snoc [a, b, c] d
theorem args_5 (a b c d e : V) : args0 [a, b, c, d, e] = upd (upd (upd (upd (upd ρ0 0 a) 1 b) 2 c) 3 d) 4 e := by rw [← args_4]; exact args_snoc [a, b, c, d] e
theorem args_6 (a b c d e f : V) : args0 [a, b, c, d, e, f] = upd (upd (upd (upd (upd (upd ρ0 0 a) 1 b) 2 c) 3 d) 4 e) 5 f := by rw [← args_5]; exact args_snoc [a, b, c, d, e] f
theorem args_7 (a b c d e f g : V) : args0 [a, b, c, d, e, f, g] = upd (upd (upd (upd (upd (upd (upd ρ0 0 a) 1 b) 2 c) 3 d) 4 e) 5 f) 6 g := by rw [← args_6]; exact args_snoc [a, b, c, d, e, f] g
theorem ρ0_eq (t : Nat) : ρ0 t = .undef := rfl
theorem m0_eq (t : Nat) : m0 t = none := rfl
theorem m0_def : (fun _ => none : Nat → Option (List V)) = m0 := rfl
theorem beqI {x y : Int} : (x == y) = decide (x = y) := rfl
theorem bb_tt : (true == true) = true := rfl
theorem bb_tf : (true == false) = false := rfl
theorem bb_ft : (false == true) = false := rfl
theorem bb_ff : (false == false) = true := rfl
theorem castL {n : Nat} : (Nat.cast (no_index (OfNat.ofNat n)) : Int) = OfNat.ofNat n := rfl
theorem bneI {x y : Int} : (x != y) = !decide (x = y) := rfl
theorem out_bool {b : Bool} : (V.bool b).out = some (.bool b) := rfl
theorem out_int {k : IntKind} {n : Int} : (V.int k n).out = some (.int k n) := rfl
theorem out_str {s : ByteArray} : (V.str s).out = some (.str s) := rfl
theorem out_vec {xs : List V} {c : Cap} : (V.vec xs c).out = some (.vec xs .any) := rfl
theorem outS_any {xs : List V} : (V.vec xs .any).outS = some (.vec xs .any) := rfl
theorem outS_full {xs : List V} : (V.vec xs .full).outS = some (.vec xs .full) := rfl
theorem outS_own {xs : List V} {s : Nat} : (V.vec xs (.own s)).outS = some (.vec xs .any) := rfl
theorem outS_bool {b : Bool} : (V.bool b).outS = some (.bool b) := rfl
theorem outS_int {k : IntKind} {n : Int} : (V.int k n).outS = some (.int k n) := rfl
theorem outS_str {s : ByteArray} : (V.str s).outS = some (.str s) := rfl
theorem outS_ref {a b c d : Nat} : (V.ref a b c d).outS = some (.ref a b c d) := rfl
theorem outS_iptr {cs : List V} : (V.iptr cs).outS = some (.iptr cs) := rfl
theorem outS_ptr {a b : Nat} : (V.ptr a b).outS = some (.ptr a b) := rfl
theorem outS_nilptr : V.nilptr.outS = some .nilptr := rfl
theorem outS_map {a : Nat} : (V.map a).outS = some (.map a) := rfl
theorem outS_nilmap : V.nilmap.outS = some .nilmap := rfl
theorem outS_func {fn : Fn} {a b : List V} : (V.func fn a b).outS = some (.func fn a b) := rfl
theorem outS_nilfunc : V.nilfunc.outS = some .nilfunc := rfl
theorem outS_iface {t : TypeId} {v : V} : (V.iface t v).outS = some (.iface t v) := rfl
theorem outS_niliface : V.niliface.outS = some .niliface := rfl
theorem outS_agg {cs : List V} : (V.agg cs).outS = some (.agg cs) := rfl
theorem resF_true {v : V} : resF true v = some v := rfl
theorem resF_false {v : V} : resF false v = v.out := rfl
theorem resV_tmp {st : S} {t : Nat} {fr : Bool} : resV st (.tmp t fr) = resF fr (st.ρ t) := rfl
theorem resV_cell {st : S} {t n : Nat} {ag fr : Bool} : resV st (.cell t n ag fr) = (loadV st.m st.h (st.ρ t) n ag).bind (resF fr) := by
 simp only [resV]; cases loadV st.m st.h (st.ρ t) n ag <;> rfl
theorem bind_some {v : V} {f : V → Option V} : (some v).bind f = f v := rfl
theorem out_ref {a b c d : Nat} : (V.ref a b c d).out = some (.ref a b c d) := rfl
theorem out_iptr {cs : List V} : (V.iptr cs).out = some (.iptr cs) := rfl
theorem out_ptr {a b : Nat} : (V.ptr a b).out = some (.ptr a b) := rfl
theorem out_nilptr : V.nilptr.out = some .nilptr := rfl
theorem out_map {a : Nat} : (V.map a).out = some (.map a) := rfl
theorem out_nilmap : V.nilmap.out = some .nilmap := rfl
theorem out_func {fn : Fn} {a b : List V} : (V.func fn a b).out = some (.func fn a b) := rfl
theorem out_nilfunc : V.nilfunc.out = some .nilfunc := rfl
theorem out_iface {t : TypeId} {v : V} : (V.iface t v).out = some (.iface t v) := rfl
theorem out_niliface : V.niliface.out = some .niliface := rfl
theorem out_agg {cs : List V} : (V.agg cs).out = some (.agg cs) := rfl
theorem cells_int {k : IntKind} {n : Int} : (V.int k n).cells = [.int k n] := rfl
theorem cells_bool {b : Bool} : (V.bool b).cells = [.bool b] := rfl
theorem cells_str {b : ByteArray} : (V.str b).cells = [.str b] := rfl
theorem cells_vec {xs : List V} {c : Cap} : (V.vec xs c).cells = [.vec xs c] := rfl
theorem cells_ref {a b c d : Nat} : (V.ref a b c d).cells = [.ref a b c d] := rfl
theorem cells_ptr {a b : Nat} : (V.ptr a b).cells = [.ptr a b] := rfl
theorem cells_nilptr : V.nilptr.cells = [.nilptr] := rfl
theorem cells_map {a : Nat} : (V.map a).cells = [.map a] := rfl
theorem cells_nilmap : V.nilmap.cells = [.nilmap] := rfl
theorem cells_iface {t : TypeId} {v : V} : (V.iface t v).cells = [.iface t v] := rfl
theorem cells_niliface : V.niliface.cells = [.niliface] := rfl
theorem cells_func {fn : Fn} {a b : List V} : (V.func fn a b).cells = [.func fn a b] := rfl
theorem cells_agg {cs : List V} : (V.agg cs).cells = cs := rfl
def keepV (v : V) (m : Nat → Option (List V)) (u : List Nat) (q : Kept) (t : Nat) : Kept :=
 match v with
 | .lptr s z o => match seekS q.mp s with
  | some s' => ⟨upd q.ρ t (.lptr s' z o), q.m, q.mp⟩
  | none => match m s with
   | some cs => match renVs u (q.mp ++ [(some s, q.mp.length)]) cs with
    | (cs, mp) => ⟨upd q.ρ t (.lptr q.mp.length z o), upd q.m q.mp.length (some cs), mp⟩
   | none => q
 | v => match renV u q.mp v with
  | (v, mp) => ⟨upd q.ρ t v, q.m, mp⟩
def cl (ρ : Nat → V) (m : Nat → Option (List V)) (u : List Nat) (h : H) : List Nat → Kept → S
 | [], q => ⟨q.ρ, q.m, q.mp.length, [], h⟩
 | t :: l, q => cl ρ m u h l (keepV (ρ t) m u q t)
theorem clear_cl {ρ : Nat → V} {m : Nat → Option (List V)} {n : Nat} {u : List Nat} {h : H} {live : List Nat} : clear live ⟨ρ, m, n, u, h⟩ = cl ρ m u h live ⟨ρ0, m0, []⟩ := by
 have : ∀ (live : List Nat) (q : Kept), (match live.foldl (clear1 ⟨ρ, m, n, u, h⟩) q with | ⟨ρ, m, mp⟩ => (⟨ρ, m, mp.length, [], h⟩ : S)) = cl ρ m u h live q := by
  intro live
  induction live with
  | nil => intro q; rfl
  | cons t l ih => intro q; rw [List.foldl_cons, ih]; rfl
 exact this live _
theorem cl_nil {ρ ρ' : Nat → V} {m m' : Nat → Option (List V)} {mp : List (Option Nat × Nat)} {u : List Nat} {h : H} : cl ρ m u h [] ⟨ρ', m', mp⟩ = ⟨ρ', m', mp.length, [], h⟩ := rfl
theorem cl_cons {ρ : Nat → V} {m : Nat → Option (List V)} {u : List Nat} {h : H} {t : Nat} {l : List Nat} {q : Kept} : cl ρ m u h (t :: l) q = cl ρ m u h l (keepV (ρ t) m u q t) := rfl
def V.stays : V → Bool
 | .vec _ .full | .vec _ (.own _) | .lptr .. | .tuple _ => false
 | _ => true
theorem keepV_plain {v : V} {m : Nat → Option (List V)} {u : List Nat} {ρ' : Nat → V} {m' : Nat → Option (List V)} {mp : List (Option Nat × Nat)} {t : Nat} (hv : v.stays = true) : keepV v m u ⟨ρ', m', mp⟩ t = ⟨upd ρ' t v, m', mp⟩ := by
 cases v with
 | vec xs c => cases c <;> first | rfl | simp [V.stays] at hv
 | lptr => simp [V.stays] at hv
 | tuple => simp [V.stays] at hv
 | _ => rfl
theorem keepV_own {xs : List V} {s : Nat} {m : Nat → Option (List V)} {u : List Nat} {ρ' : Nat → V} {m' : Nat → Option (List V)} {mp : List (Option Nat × Nat)} {t : Nat} (hu : s ∉ u) (hs : seekS mp s = none) :
  keepV (.vec xs (.own s)) m u ⟨ρ', m', mp⟩ t = ⟨upd ρ' t (.vec xs (.own mp.length)), m', mp ++ [(some s, mp.length)]⟩ := by
 simp [keepV, renV, hu, hs]
theorem keepV_full {xs : List V} {m : Nat → Option (List V)} {u : List Nat} {ρ' : Nat → V} {m' : Nat → Option (List V)} {mp : List (Option Nat × Nat)} {t : Nat} :
  keepV (.vec xs .full) m u ⟨ρ', m', mp⟩ t = ⟨upd ρ' t (.vec xs (.own mp.length)), m', mp ++ [(none, mp.length)]⟩ := rfl
theorem keepV_used {xs : List V} {s : Nat} {m : Nat → Option (List V)} {u : List Nat} {ρ' : Nat → V} {m' : Nat → Option (List V)} {mp : List (Option Nat × Nat)} {t : Nat} (hu : s ∈ u) :
  keepV (.vec xs (.own s)) m u ⟨ρ', m', mp⟩ t = ⟨upd ρ' t (.vec xs .any), m', mp⟩ := by
 simp [keepV, renV, hu]
theorem rd_load {st : S} {x : Arg} {n : Nat} {ag : Bool} : rd st (.load x n ag) = loadV st.m st.h (evA st.ρ x) n ag := rfl
theorem rd_len {st : S} {q : KK} {x : Arg} : rd st (.len q x) = lenOfV st.h q (evA st.ρ x) := by
 simp only [rd]; rfl
theorem rd_lkp {st : S} {q : KK} {x k : Arg} {zero : V} {ok : Bool} : rd st (.lkp q x k zero ok) = lkpV st.h q (evA st.ρ x) (evA st.ρ k) zero ok := rfl
theorem len_vec {h : H} {xs : List V} {c : Cap} : lenOfV h .i (.vec xs c) = some (.int .i64 xs.length) := rfl
theorem len_ref {h : H} {a b n z : Nat} : lenOfV h .i (.ref a b n z) = some (.int .i64 n) := rfl
theorem len_str {h : H} {s : ByteArray} : lenOfV h .s (.str s) = some (.int .i64 s.size) := rfl
theorem len_nilmap {h : H} : lenOfV h .b .nilmap = some (.int .i64 0) := rfl
theorem len_map {h : H} {id : Nat} : lenOfV h .b (.map id) = (match h.mapAt id with | some (es, _) => some (.int .i64 es.length) | none => none) := rfl
theorem load_iptr {m : Nat → Option (List V)} {h : H} {cs : List V} {n : Nat} {ag : Bool} : loadV m h (.iptr cs) n ag = takeV cs 0 n ag := rfl
theorem load_ptr {m : Nat → Option (List V)} {h : H} {id o n : Nat} {ag : Bool} : loadV m h (.ptr id o) n ag = (match h.get id with | some cs => takeV cs o n ag | none => none) := rfl
theorem load_lptr {m : Nat → Option (List V)} {h : H} {s z o n : Nat} {ag : Bool} : loadV m h (.lptr s z o) n ag = (match m s with | some cs => takeL cs o n ag | none => none) := rfl
theorem addP_iptr {cs : List V} {off : Nat} : addP (.iptr cs) off = if off ≤ cs.length then some (.iptr (cs.drop off)) else none := rfl
theorem addP_ptr {id o off : Nat} : addP (.ptr id o) off = some (.ptr id (o + off)) := rfl
theorem addP_lptr {s z o off : Nat} : addP (.lptr s z o) off = some (.lptr s z (o + off)) := rfl
theorem idx_vec {xs : List V} {c : Cap} {k : IntKind} {i : Int} {sz : Nat} : idxSV (.vec xs c) (.int k i) sz = (if 0 ≤ i then match xs[i.toNat]? with
   | some e => if e.cells.length = sz then some (.iptr e.cells) else none
   | none => none
  else none) := rfl
theorem idx_ref {id off len z : Nat} {k : IntKind} {i : Int} {sz : Nat} : idxSV (.ref id off len z) (.int k i) sz = if 0 ≤ i ∧ i < len ∧ z = sz then some (.ptr id (off + i.toNat * sz)) else none := rfl
theorem toNat_nat {n : Nat} : ((n : Int)).toNat = n := rfl
theorem nat_nonneg {n : Nat} : (0 ≤ (n : Int)) = True := eq_true (Int.natCast_nonneg n)
def allStays : List V → Bool
 | [] => true
 | v :: vs => v.stays && allStays vs
theorem all_nil : allStays [] = true := rfl
theorem all_cons {v : V} {vs : List V} : allStays (v :: vs) = (v.stays && allStays vs) := rfl
def keepB (o : Option Nat) (b : Option (List V)) (s z off : Nat) (u : List Nat) (ρ' : Nat → V) (m' : Nat → Option (List V)) (mp : List (Option Nat × Nat)) (t : Nat) : Kept :=
 match o with
 | some s' => ⟨upd ρ' t (.lptr s' z off), m', mp⟩
 | none => match b with
  | some cs => match renVs u (mp ++ [(some s, mp.length)]) cs with
   | (cs, mp2) => ⟨upd ρ' t (.lptr mp.length z off), upd m' mp.length (some cs), mp2⟩
  | none => ⟨ρ', m', mp⟩
theorem keepV_l {s z off : Nat} {m : Nat → Option (List V)} {u : List Nat} {ρ' : Nat → V} {m' : Nat → Option (List V)} {mp : List (Option Nat × Nat)} {t : Nat} : keepV (.lptr s z off) m u ⟨ρ', m', mp⟩ t = keepB (seekS mp s) (m s) s z off u ρ' m' mp t := by
 unfold keepV keepB
 rfl
theorem renVs_stays {u : List Nat} {mp : List (Option Nat × Nat)} : ∀ {cs : List V}, allStays cs = true → renVs u mp cs = (cs, mp)
 | [], _ => rfl
 | v :: vs, h => by
  rw [all_cons, Bool.and_eq_true] at h
  have h1 : renV u mp v = (v, mp) := by
   have h0 := h.1
   cases v with
   | vec xs c => cases c <;> first | rfl | simp [V.stays] at h0
   | lptr => simp [V.stays] at h0
   | tuple => simp [V.stays] at h0
   | _ => rfl
  simp only [renVs, h1, renVs_stays h.2]
theorem keepB_new {cs : List V} {s z off : Nat} {u : List Nat} {ρ' : Nat → V} {m' : Nat → Option (List V)} {mp : List (Option Nat × Nat)} {t : Nat} (h : allStays cs = true) :
  keepB none (some cs) s z off u ρ' m' mp t = ⟨upd ρ' t (.lptr mp.length z off), upd m' mp.length (some cs), mp ++ [(some s, mp.length)]⟩ := by
 simp only [keepB, renVs_stays h]
def keepC (p : List V × List (Option Nat × Nat)) (at_ z off : Nat) (ρ' : Nat → V) (m' : Nat → Option (List V)) (t : Nat) : Kept := ⟨upd ρ' t (.lptr at_ z off), upd m' at_ (some p.1), p.2⟩
theorem keepB_gen {cs : List V} {s z off : Nat} {u : List Nat} {ρ' : Nat → V} {m' : Nat → Option (List V)} {mp : List (Option Nat × Nat)} {t : Nat} :
  keepB none (some cs) s z off u ρ' m' mp t = keepC (renVs u (mp ++ [(some s, mp.length)]) cs) mp.length z off ρ' m' t := by
 unfold keepB keepC
 rfl
theorem keepC_mk {cs : List V} {mp : List (Option Nat × Nat)} {at_ z off : Nat} {ρ' : Nat → V} {m' : Nat → Option (List V)} {t : Nat} : keepC (cs, mp) at_ z off ρ' m' t = ⟨upd ρ' t (.lptr at_ z off), upd m' at_ (some cs), mp⟩ := rfl
def renG (u : List Nat) : List V → List V → List (Option Nat × Nat) → List V × List (Option Nat × Nat)
 | done, [], mp => (done.reverse, mp)
 | done, v :: vs, mp => match renV u mp v with
  | (a, mp) => renG u (a :: done) vs mp
theorem renVs_renG {u : List Nat} {mp : List (Option Nat × Nat)} {cs : List V} : renVs u mp cs = renG u [] cs mp := by
 have : ∀ (cs done : List V) (mp : List (Option Nat × Nat)), renG u done cs mp = (done.reverse ++ (renVs u mp cs).1, (renVs u mp cs).2) := by
  intro cs
  induction cs with
  | nil => intro done mp; simp [renG, renVs]
  | cons v vs ih => intro done mp; simp only [renG, renVs]; rw [ih]; simp
 rw [this cs [] mp]; simp
theorem renG_nil {u : List Nat} {done : List V} {mp : List (Option Nat × Nat)} : renG u done [] mp = (done.reverse, mp) := rfl
theorem renG_plain {u : List Nat} {done vs : List V} {mp : List (Option Nat × Nat)} {v : V} (hv : v.stays = true) : renG u done (v :: vs) mp = renG u (v :: done) vs mp := by
 have h1 : renV u mp v = (v, mp) := by
  cases v with
  | vec xs c => cases c <;> first | rfl | simp [V.stays] at hv
  | lptr => simp [V.stays] at hv
  | tuple => simp [V.stays] at hv
  | _ => rfl
 simp only [renG, h1]
theorem renG_full {u : List Nat} {done vs : List V} {mp : List (Option Nat × Nat)} {xs : List V} : renG u done (.vec xs .full :: vs) mp = renG u (.vec xs (.own mp.length) :: done) vs (mp ++ [(none, mp.length)]) := rfl
theorem renG_own {u : List Nat} {done vs : List V} {mp : List (Option Nat × Nat)} {xs : List V} {s : Nat} (hu : s ∉ u) (hs : seekS mp s = none) : renG u done (.vec xs (.own s) :: vs) mp = renG u (.vec xs (.own mp.length) :: done) vs (mp ++ [(some s, mp.length)]) := by
 simp [renG, renV, hu, hs]
theorem renG_used {u : List Nat} {done vs : List V} {mp : List (Option Nat × Nat)} {xs : List V} {s : Nat} (hu : s ∈ u) : renG u done (.vec xs (.own s) :: vs) mp = renG u (.vec xs .any :: done) vs mp := by
 simp [renG, renV, hu]
theorem keepB_old {s' : Nat} {b : Option (List V)} {s z off : Nat} {u : List Nat} {ρ' : Nat → V} {m' : Nat → Option (List V)} {mp : List (Option Nat × Nat)} {t : Nat} :
  keepB (some s') b s z off u ρ' m' mp t = ⟨upd ρ' t (.lptr s' z off), m', mp⟩ := rfl
theorem stays_any {xs : List V} : (V.vec xs .any).stays = true := rfl
theorem stays_full {xs : List V} : (V.vec xs .full).stays = false := rfl
theorem stays_own {xs : List V} {s : Nat} : (V.vec xs (.own s)).stays = false := rfl
theorem shared_any : Cap.any.shared = true := rfl
theorem shared_full : Cap.full.shared = true := rfl
theorem stays_int {k : IntKind} {n : Int} : (V.int k n).stays = true := rfl
theorem stays_bool {b : Bool} : (V.bool b).stays = true := rfl
theorem stays_str {b : ByteArray} : (V.str b).stays = true := rfl
theorem stays_ref {a b c d : Nat} : (V.ref a b c d).stays = true := rfl
theorem stays_ptr {a b : Nat} : (V.ptr a b).stays = true := rfl
theorem stays_iptr {cs : List V} : (V.iptr cs).stays = true := rfl
theorem stays_nilptr : V.nilptr.stays = true := rfl
theorem stays_map {a : Nat} : (V.map a).stays = true := rfl
theorem stays_nilmap : V.nilmap.stays = true := rfl
theorem stays_itr {a : Nat} : (V.itr a).stays = true := rfl
theorem stays_iface {t : TypeId} {v : V} : (V.iface t v).stays = true := rfl
theorem stays_niliface : V.niliface.stays = true := rfl
theorem stays_func {fn : Fn} {a b : List V} : (V.func fn a b).stays = true := rfl
theorem stays_nilfunc : V.nilfunc.stays = true := rfl
theorem stays_agg {cs : List V} : (V.agg cs).stays = true := rfl
theorem stays_undef : V.undef.stays = true := rfl
theorem seek_nil {s : Nat} : seekS [] s = none := rfl
theorem seek_none {b s : Nat} {l : List (Option Nat × Nat)} : seekS ((none, b) :: l) s = seekS l s := by
 unfold seekS
 simp
theorem seek_cons {a b s : Nat} {l : List (Option Nat × Nat)} : seekS ((some a, b) :: l) s = if a = s then some b else seekS l s := by
 unfold seekS
 by_cases h : a = s
 ·simp [h]
 ·simp [h]
theorem get_zero {α : Type} {a : α} {l : List α} : (a :: l)[0]? = some a := rfl
theorem get_succ {α : Type} {a : α} {l : List α} {n : Nat} : (a :: l)[n + 1]? = l[n]? := rfl
theorem get_new {h : H} {cs : List V} : (h.new (.cells cs)).get h.next = some cs := by simp [H.get, H.new, upd]
theorem get_new_ne {h : H} {o : O} {id : Nat} (hid : id ≠ h.next) : (h.new o).get id = h.get id := by simp [H.get, H.new, upd, hid]
theorem get_set {h : H} {cs : List V} {id : Nat} : (h.set id (.cells cs)).get id = some cs := by simp [H.get, H.set, upd]
theorem get_set_ne {h : H} {o : O} {id id' : Nat} (hid : id ≠ id') : (h.set id' o).get id = h.get id := by simp [H.get, H.set, upd, hid]
theorem get_move {h : H} {cs : List V} {id : Nat} : (h.move id (.cells cs)).get h.next = some cs := by simp [H.get, H.move, upd]
theorem get_move_ne {h : H} {o : O} {id id' : Nat} (hid : id ≠ h.next) (hne : id ≠ id') : (h.move id' o).get id = h.get id := by simp [H.get, H.move, upd, hid, hne]
theorem next_new {h : H} {o : O} : (h.new o).next = h.next + 1 := rfl
theorem next_set {h : H} {o : O} {id : Nat} : (h.set id o).next = h.next := rfl
theorem next_move {h : H} {o : O} {id : Nat} : (h.move id o).next = h.next + 1 := rfl
theorem wrap_i64 {n : Int} (h0 : -9223372036854775808 ≤ n) (h1 : n ≤ 9223372036854775807) : IntKind.i64.wrap n = n := by
 rw [IntKind.wrap_i64]; omega
theorem wrap_u64 {n : Int} : IntKind.u64.wrap n = n % 18446744073709551616 := by simp [IntKind.wrap, IntKind.bits, IntKind.signed]
theorem wrap_u64_self {n : Int} (h0 : 0 ≤ n) (h1 : n < 18446744073709551616) : IntKind.u64.wrap n = n := by rw [wrap_u64]; omega
theorem wrap_u8 {n : Int} : IntKind.u8.wrap n = n % 256 := IntKind.wrap_u8 n
theorem wrap_u16 {n : Int} : IntKind.u16.wrap n = n % 65536 := by simp [IntKind.wrap, IntKind.bits, IntKind.signed]
theorem wrap_u32 {n : Int} : IntKind.u32.wrap n = n % 4294967296 := IntKind.wrap_u32 n
abbrev W (n : Nat) : V := .int .u64 n
abbrev I (n : Int) : V := .int .i64 n
def Ws (l : List Nat) : List V := l.map W
theorem Ws_length {l : List Nat} : (Ws l).length = l.length := by simp [Ws]
theorem Ws_get {l : List Nat} {i : Nat} : (Ws l)[i]? = (l[i]?).map W := by simp [Ws]
theorem Ws_cells {l : List Nat} : ∀ e ∈ Ws l, e.cells.length = 1 := by
 intro e he
 obtain ⟨x, _, rfl⟩ := List.mem_map.1 he
 rfl
theorem Ws_flat {l : List Nat} : (Ws l).flatMap V.cells = Ws l := by
 induction l with
 | nil => rfl
 | cons a l ih => show [W a] ++ (Ws l).flatMap V.cells = W a :: Ws l; rw [ih]; rfl
theorem Ws_append {l l' : List Nat} : Ws (l ++ l') = Ws l ++ Ws l' := by simp [Ws]
theorem Ws_take {l : List Nat} {n : Nat} : (Ws l).take n = Ws (l.take n) := by simp [Ws, List.map_take]
theorem Ws_drop {l : List Nat} {n : Nat} : (Ws l).drop n = Ws (l.drop n) := by simp [Ws, List.map_drop]
theorem Ws_inj {l l' : List Nat} (h : Ws l = Ws l') : l = l' := by
 induction l generalizing l' with
 | nil => cases l' with
  | nil => rfl
  | cons b l' => simp [Ws] at h
 | cons a l ih => cases l' with
  | nil => simp [Ws] at h
  | cons b l' =>
   simp only [Ws, List.map_cons, List.cons.injEq, V.int.injEq, true_and] at h
   rw [ih h.2]
   have := h.1
   congr 1
   omega
theorem chunk_one {n : Nat} {cs : List V} (h : n ≤ cs.length) : chunk false 1 n cs = cs.take n := by
 induction n generalizing cs with
 | zero => simp [chunk]
 | succ n ih => cases cs with
  | nil => simp at h
  | cons c cs => simp only [chunk, List.take_succ_cons, List.drop_succ_cons, List.drop_zero]; rw [ih (by simpa using h)]; simp [mkEl]
theorem app_own {st : S} {s s' sz bytes : Nat} {xs ys : List V} {ag : Bool} {c2 : Cap} (hs : s' ∉ st.u) (hx : ∀ e ∈ xs, e.cells.length = sz) (hy : ∀ e ∈ ys, e.cells.length = sz ∧ mkEl ag e.cells = e) (hz : 0 < sz) (hb : bytes ≤ 4096) (hl : xs.length + ys.length ≤ 4294967296) :
  appV st s (.vec xs (.own s')) (.vec ys c2) sz bytes ag false = some (if ys.length = 0 then (.vec xs (.own s'), st) else (.vec (xs ++ ys) (.own s), { st with u := s' :: st.u })) := by
 have hf : ∀ (ys : List V), (∀ e ∈ ys, e.cells.length = sz ∧ mkEl ag e.cells = e) → (ys.flatMap V.cells).length = ys.length * sz ∧ chunk ag sz ys.length (ys.flatMap V.cells) = ys := by
  intro ys
  induction ys with
  | nil => intro _; exact ⟨by simp, rfl⟩
  | cons y ys ih =>
   intro h
   obtain ⟨h1, h2⟩ := h y (by simp)
   obtain ⟨h3, h4⟩ := ih (fun e he => h e (by simp [he]))
   refine ⟨by rw [List.flatMap_cons, List.length_append, h3, h1, List.length_cons, Nat.succ_mul]; omega, ?_⟩
   rw [List.flatMap_cons, List.length_cons, chunk, List.take_left' h1, List.drop_left' h1, h4, h2]
 obtain ⟨h1, h2⟩ := hf ys hy
 simp only [appV, lenV, flat]
 rw [if_pos ⟨h1, hz, hb⟩, if_pos ⟨hl, hx⟩, if_neg hs, h2]
 split <;> rfl
theorem app_full {st : S} {s sz bytes : Nat} {xs ys : List V} {ag : Bool} {c2 : Cap} (hx : ∀ e ∈ xs, e.cells.length = sz) (hy : ∀ e ∈ ys, e.cells.length = sz ∧ mkEl ag e.cells = e) (hz : 0 < sz) (hb : bytes ≤ 4096) (hl : xs.length + ys.length ≤ 4294967296) :
  appV st s (.vec xs .full) (.vec ys c2) sz bytes ag false = some (if ys.length = 0 then (.vec xs .full, st) else (.vec (xs ++ ys) (.own s), st)) := by
 have hf : ∀ (ys : List V), (∀ e ∈ ys, e.cells.length = sz ∧ mkEl ag e.cells = e) → (ys.flatMap V.cells).length = ys.length * sz ∧ chunk ag sz ys.length (ys.flatMap V.cells) = ys := by
  intro ys
  induction ys with
  | nil => intro _; exact ⟨by simp, rfl⟩
  | cons y ys ih =>
   intro h
   obtain ⟨h1, h2⟩ := h y (by simp)
   obtain ⟨h3, h4⟩ := ih (fun e he => h e (by simp [he]))
   refine ⟨by rw [List.flatMap_cons, List.length_append, h3, h1, List.length_cons, Nat.succ_mul]; omega, ?_⟩
   rw [List.flatMap_cons, List.length_cons, chunk, List.take_left' h1, List.drop_left' h1, h4, h2]
 obtain ⟨h1, h2⟩ := hf ys hy
 simp only [appV, lenV, flat]
 rw [if_pos ⟨h1, hz, hb⟩, if_pos ⟨hl, hx⟩, h2]
 split <;> rfl
theorem app1_own {st : S} {s s' sz bytes : Nat} {xs : List V} {x : V} {ag : Bool} {c2 : Cap} (hs : s' ∉ st.u) (hx : ∀ e ∈ xs, e.cells.length = sz) (hel : x.cells.length = sz) (hz : 0 < sz) (hb : bytes ≤ 4096) (hl : xs.length < 4294967296) :
  appV st s (.vec xs (.own s')) (.vec [x] c2) sz bytes ag false = some (.vec (xs ++ [mkEl ag x.cells]) (.own s), { st with u := s' :: st.u }) := by
 simp only [appV, lenV, flat, List.length_cons, List.length_nil, List.flatMap_cons, List.flatMap_nil, List.append_nil, Nat.zero_add, Nat.one_mul, chunk]
 rw [if_pos ⟨hel, hz, hb⟩, if_pos ⟨by unfold most; omega, hx⟩, if_neg (by decide), if_neg hs, List.take_of_length_le (Nat.le_of_eq hel)]
theorem app1_full {st : S} {s sz bytes : Nat} {xs : List V} {x : V} {ag : Bool} {c2 : Cap} (hx : ∀ e ∈ xs, e.cells.length = sz) (hel : x.cells.length = sz) (hz : 0 < sz) (hb : bytes ≤ 4096) (hl : xs.length < 4294967296) :
  appV st s (.vec xs .full) (.vec [x] c2) sz bytes ag false = some (.vec (xs ++ [mkEl ag x.cells]) (.own s), st) := by
 simp only [appV, lenV, flat, List.length_cons, List.length_nil, List.flatMap_cons, List.flatMap_nil, List.append_nil, Nat.zero_add, Nat.one_mul, chunk]
 rw [if_pos ⟨hel, hz, hb⟩, if_pos ⟨by unfold most; omega, hx⟩, if_neg (by decide), List.take_of_length_le (Nat.le_of_eq hel)]
theorem Ws_nil : Ws [] = [] := rfl
theorem Ws_cons {n : Nat} {l : List Nat} : Ws (n :: l) = W n :: Ws l := rfl
theorem wi {i : Nat} (h : i < 9000000000000000000) : IntKind.i64.wrap ((i : Int) + 1) = ((i + 1 : Nat) : Int) := by rw [wrap_i64] <;> omega
theorem wadd {i j : Nat} (h : i + j < 9000000000000000000) : IntKind.i64.wrap ((i : Int) + (j : Int)) = ((i + j : Nat) : Int) := by rw [wrap_i64] <;> omega
theorem wuadd {i j : Nat} (h : i + j < 18446744073709551616) : IntKind.u64.wrap ((i : Int) + (j : Int)) = ((i + j : Nat) : Int) := by rw [wrap_u64_self] <;> omega
theorem codeT_for {call : CallT} {live : List Nat} {c : C} {st : S} {K : Ex → S → Prop} {N : Nat} (F : Nat → S) (P : Nat → Prop) (h0 : clear live st = F 0) (p0 : P 0)
  (hs : ∀ j, j < N → P j → codeT call c (F j) (Ex.then (fun st' => clear live st' = F (j + 1) ∧ P (j + 1)) K) ⟨⟩) (hN : P N → codeT call c (F N) (Ex.then (fun _ => False) K) ⟨⟩) (hm : MonoT call) : codeT call (.loop live c) st K ⟨⟩ := by
 refine codeT_loop (fun k s => ∃ j, j ≤ N ∧ k = N - j ∧ P j ∧ s = F j) (i := N) ⟨0, by omega, by omega, p0, h0⟩ ?_ hm
 rintro k s ⟨j, hj, rfl, pj, rfl⟩
 rcases Nat.lt_or_ge j N with h | h
 ·refine codeW_le hm (fun e st' h' => ?_) (hs j h pj)
  cases e with
  | normal => exact ⟨N - (j + 1), by omega, j + 1, by omega, rfl, h'.2, h'.1⟩
  | _ => exact h'
 ·have : j = N := by omega
  subst this
  refine codeW_le hm (fun e st' h' => ?_) (hN pj)
  cases e with
  | normal => exact h'.elim
  | _ => exact h'
theorem sub_nat {a b : Nat} (h : b ≤ a) : ((a : Int) - (b : Int)) = ((a - b : Nat) : Int) := by omega
end Go.Ab
