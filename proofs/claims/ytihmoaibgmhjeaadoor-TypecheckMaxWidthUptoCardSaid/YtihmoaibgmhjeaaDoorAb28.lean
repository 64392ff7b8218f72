import Derived.Test.YtihmoaibgmhjeaaDoorMc
set_option linter.unusedVariables false
set_option linter.unusedSimpArgs false
namespace Go.Ab
structure Fix {α : Sort _} (a : α) : Type where mk ::
structure Fix2 {α : Sort _} {β : Sort _} (a : α) (b : β) : Type where mk ::
def withV (o : Option V) (f : V → Prop) (F : Fix f) : Prop := match o with | some v => f v | none => False
theorem withV_some {v : V} {f : V → Prop} {F : Fix f} : withV (some v) f F = f v := rfl
theorem withV_none {f : V → Prop} {F : Fix f} : withV none f F = False := rfl
def withVs (o : Option (List V)) (f : List V → Prop) (F : Fix f) : Prop := match o with | some v => f v | none => False
theorem withVs_some {v : List V} {f : List V → Prop} {F : Fix f} : withVs (some v) f F = f v := rfl
theorem withVs_none {f : List V → Prop} {F : Fix f} : withVs none f F = False := rfl
def withS (o : Option S) (f : S → Prop) (F : Fix f) : Prop := match o with | some v => f v | none => False
theorem withS_some {v : S} {f : S → Prop} {F : Fix f} : withS (some v) f F = f v := rfl
theorem withS_none {f : S → Prop} {F : Fix f} : withS none f F = False := rfl
def withVS (o : Option (V × S)) (f : V → S → Prop) (F : Fix f) : Prop := match o with | some (v, s) => f v s | none => False
theorem withVS_some {v : V} {s : S} {f : V → S → Prop} {F : Fix f} : withVS (some (v, s)) f F = f v s := rfl
theorem withVS_none {f : V → S → Prop} {F : Fix f} : withVS none f F = False := rfl
def withH (o : Option H) (f : H → Prop) (F : Fix f) : Prop := match o with | some v => f v | none => False
theorem withH_some {v : H} {f : H → Prop} {F : Fix f} : withH (some v) f F = f v := rfl
theorem withH_none {f : H → Prop} {F : Fix f} : withH none f F = False := rfl
def withN (o : Option Nat) (f : Nat → Prop) (F : Fix f) : Prop := match o with | some v => f v | none => False
theorem withN_some {v : Nat} {f : Nat → Prop} {F : Fix f} : withN (some v) f F = f v := rfl
theorem withN_none {f : Nat → Prop} {F : Fix f} : withN none f F = False := rfl
def onB (o : Option Bool) (A B : Prop) (F : Fix2 A B) : Prop := match o with | some true => A | some false => B | none => False
theorem onB_true {A B : Prop} {F : Fix2 A B} : onB (some true) A B F = A := rfl
theorem onB_false {A B : Prop} {F : Fix2 A B} : onB (some false) A B F = B := rfl
theorem onB_none {A B : Prop} {F : Fix2 A B} : onB none A B F = False := rfl
theorem wantV_true {c : Bool} : wantV true (.bool c) = some c := by cases c <;> rfl
theorem wantV_false {c : Bool} : wantV false (.bool c) = some (!c) := by cases c <;> rfl
theorem wantV_skip {b : Bool} : wantV b (.tuple []) = some false := rfl
def opsT (call : CallT) (os : List IOp) (st : S) (K : Ex → S → Prop) (F : Fix2 os K) : Prop := ops call os st K
def drawsT (call : CallT) (os : Go.Ab.Ord) (past : List (Option Go.Ab.K × V)) (st : S) (K : Ex → S → Prop) (F : Fix2 os K) (F2 : Fix past) : Prop := draws call os past st K
def codeT (call : CallT) (c : C) (st : S) (K : Ex → S → Prop) (F : Fix K) : Prop := codeW call c st K
def callT (call : CallT) (f : FuncId) (vs : List V) (h : H) (K : Out → H → Prop) (F : Fix K) : Prop := call f vs h K
def opT (call : CallT) (d : Option Nat) (k : Go.Ab.K) (st : S) (next : S → Prop) (K : Ex → S → Prop) (F : Fix2 next K) : Prop := op1 call st.n ⟨d, none, k⟩ st (Ex.then next K)
section
variable {call : CallT} {os : List IOp} {ord : Go.Ab.Ord} {ρ : Nat → V} {m : Nat → Option (List V)} {n : Nat} {u : List Nat} {h : H} {K : Ex → S → Prop} {next : S → Prop} {st : S} {k : Go.Ab.K} {d : Option Nat} {t : Nat}
variable {past : List (Option Go.Ab.K × V)}
theorem op1_guard {g : Option (Nat × Bool)} {s : Nat} : op1 call s ⟨d, g, k⟩ st K = op1 call s ⟨d, none, k⟩ st K := rfl
theorem opsT_nil : opsT call [] st K ⟨⟩ = K .normal st := rfl
theorem opsT_cons : opsT call (⟨d, none, k⟩ :: os) ⟨ρ, m, n, u, h⟩ K ⟨⟩ = opT call d k ⟨ρ, m, n, u, h⟩ (fun st' => opsT call os st'.tick K ⟨⟩) K ⟨⟩ := rfl
theorem opsT_guard {g : Nat} {b : Bool} : opsT call (⟨d, some (g, b), k⟩ :: os) ⟨ρ, m, n, u, h⟩ K ⟨⟩ =
  onB (wantV b (ρ g)) (opT call d k ⟨ρ, m, n, u, h⟩ (fun st' => opsT call os st'.tick K ⟨⟩) K ⟨⟩) (opsT call os (S.put ⟨ρ, m, n, u, h⟩ d (.tuple [])).tick K ⟨⟩) ⟨⟩ := by
 simp only [opsT, ops, wantI, opT]
 cases wantV b (ρ g) with
 | none => rfl
 | some c => cases c <;> rfl
theorem drawsT_nil : drawsT call [] past st K ⟨⟩ ⟨⟩ = K .normal st := rfl
theorem drawsT_cons {i j : Nat} {js : List Nat} : drawsT call ((⟨d, none, k⟩, i, j :: js) :: ord) past ⟨ρ, m, n, u, h⟩ K ⟨⟩ ⟨⟩ =
  opT call d k ⟨ρ, m, n, u, h⟩ (fun st' => again st' past (j :: js) ∧ drawsT call ord (past ++ [(if isRd k then some k else none, match d with | some d => st'.ρ d | none => .undef)]) st'.tick K ⟨⟩ ⟨⟩) K ⟨⟩ := rfl
theorem drawsT_guard {g : Nat} {b : Bool} {i j : Nat} {js : List Nat} : drawsT call ((⟨d, some (g, b), k⟩, i, j :: js) :: ord) past ⟨ρ, m, n, u, h⟩ K ⟨⟩ ⟨⟩ =
  onB (wantV b (ρ g)) (opT call d k ⟨ρ, m, n, u, h⟩ (fun st' => again st' past (j :: js) ∧ drawsT call ord (past ++ [(if isRd k then some k else none, match d with | some d => st'.ρ d | none => .undef)]) st'.tick K ⟨⟩ ⟨⟩) K ⟨⟩) (drawsT call ord (past ++ [(none, .undef)]) (S.put ⟨ρ, m, n, u, h⟩ d (.tuple [])).tick K ⟨⟩ ⟨⟩) ⟨⟩ := by
 simp only [drawsT, draws, wantI, opT]
 cases wantV b (ρ g) with
 | none => rfl
 | some c => cases c <;> rfl
theorem again_nil : again st past [] = True := rfl
theorem drawsT_cons0 {i : Nat} : drawsT call ((⟨d, none, k⟩, i, []) :: ord) past ⟨ρ, m, n, u, h⟩ K ⟨⟩ ⟨⟩ =
  opT call d k ⟨ρ, m, n, u, h⟩ (fun st' => drawsT call ord (past ++ [(if isRd k then some k else none, match d with | some d => st'.ρ d | none => .undef)]) st'.tick K ⟨⟩ ⟨⟩) K ⟨⟩ := by
 simp only [drawsT, draws, wantI, opT, again_nil, true_and]; rfl
theorem drawsT_guard0 {g : Nat} {b : Bool} {i : Nat} : drawsT call ((⟨d, some (g, b), k⟩, i, []) :: ord) past ⟨ρ, m, n, u, h⟩ K ⟨⟩ ⟨⟩ =
  onB (wantV b (ρ g)) (opT call d k ⟨ρ, m, n, u, h⟩ (fun st' => drawsT call ord (past ++ [(if isRd k then some k else none, match d with | some d => st'.ρ d | none => .undef)]) st'.tick K ⟨⟩ ⟨⟩) K ⟨⟩)
   (drawsT call ord (past ++ [(none, .undef)]) (S.put ⟨ρ, m, n, u, h⟩ d (.tuple [])).tick K ⟨⟩ ⟨⟩) ⟨⟩ := by
 simp only [drawsT, draws, wantI, opT, again_nil, true_and]
 cases wantV b (ρ g) with
 | none => rfl
 | some c => cases c <;> rfl
theorem evA_tmp : evA ρ (.tmp t) = ρ t := rfl
theorem evA_cst {v : V} : evA ρ (.cst v) = v := rfl
theorem evA_glob {g : Nat} {cs : List V} : evA ρ (.glob g cs) = .iptr cs := rfl
theorem opT_rd (hk : isRd k = true) (hb : ∀ size, k ≠ .bare size) : opT call d k ⟨ρ, m, n, u, h⟩ next K ⟨⟩ = withV (rd ⟨ρ, m, n, u, h⟩ k) (fun v => next (S.put ⟨ρ, m, n, u, h⟩ d v)) ⟨⟩ := by
 unfold opT op1
 split
 ·rename_i size heq; exact absurd heq (hb size)
 ·simp only [hk, if_true]
  unfold withV
  cases rd ⟨ρ, m, n, u, h⟩ k <;> rfl
theorem opT_mv {x : Arg} : opT call d (.mv x) ⟨ρ, m, n, u, h⟩ next K ⟨⟩ = next (S.put ⟨ρ, m, n, u, h⟩ d (evA ρ x)) := rfl
def pickV (c : Option Bool) (a b : V) : Option V := match c with | some t => some (if t then a else b) | none => none
theorem pickV_true {a b : V} : pickV (some true) a b = some a := rfl
theorem pickV_false {a b : V} : pickV (some false) a b = some b := rfl
theorem opT_pick {c a b : Arg} : opT call d (.pick c a b) ⟨ρ, m, n, u, h⟩ next K ⟨⟩ = withV (pickV (asB (evA ρ c)) (evA ρ a) (evA ρ b)) (fun v => next (S.put ⟨ρ, m, n, u, h⟩ d v)) ⟨⟩ := by
 rw [opT_rd rfl (by simp)]; simp only [rd, withV, pickV]; cases asB (evA ρ c) <;> rfl
theorem opT_load {x : Arg} {z : Nat} {ag : Bool} : opT call d (.load x z ag) ⟨ρ, m, n, u, h⟩ next K ⟨⟩ = withV (loadV m h (evA ρ x) z ag) (fun v => next (S.put ⟨ρ, m, n, u, h⟩ d v)) ⟨⟩ := opT_rd rfl (by simp)
theorem opT_fad {x : Arg} {z : Nat} : opT call d (.fad x z) ⟨ρ, m, n, u, h⟩ next K ⟨⟩ = withV (addP (evA ρ x) z) (fun v => next (S.put ⟨ρ, m, n, u, h⟩ d v)) ⟨⟩ := opT_rd rfl (by simp)
theorem opT_idxS {x i : Arg} {z : Nat} : opT call d (.idxS x i z) ⟨ρ, m, n, u, h⟩ next K ⟨⟩ = withV (idxSV (evA ρ x) (evA ρ i) z) (fun v => next (S.put ⟨ρ, m, n, u, h⟩ d v)) ⟨⟩ := opT_rd rfl (by simp)
def idxPV (x i : V) (len sz : Nat) : Option V := match i with
  | .int _ i => if 0 ≤ i ∧ i < len then addP x (i.toNat * sz) else none
  | _ => none
theorem opT_idxP {x i : Arg} {len z : Nat} : opT call d (.idxP x i len z) ⟨ρ, m, n, u, h⟩ next K ⟨⟩ = withV (idxPV (evA ρ x) (evA ρ i) len z) (fun v => next (S.put ⟨ρ, m, n, u, h⟩ d v)) ⟨⟩ := opT_rd rfl (by simp)
def idxStrV (x i : V) : Option V := match x, i with
  | .str s, .int _ i => if 0 ≤ i then match s.data.toList[i.toNat]? with
    | some b => some (.int .u8 b.toNat)
    | none => none
   else none
  | _, _ => none
theorem opT_idxStr {x i : Arg} : opT call d (.idxStr x i) ⟨ρ, m, n, u, h⟩ next K ⟨⟩ = withV (idxStrV (evA ρ x) (evA ρ i)) (fun v => next (S.put ⟨ρ, m, n, u, h⟩ d v)) ⟨⟩ := opT_rd rfl (by simp)
def idxAV (x i : V) (len sz : Nat) (ag : Bool) : Option V := match x, i with
  | .agg cs, .int _ i => if 0 ≤ i ∧ i < len then takeV cs (i.toNat * sz) sz ag else none
  | _, _ => none
theorem opT_idxA {x i : Arg} {len z : Nat} {ag : Bool} : opT call d (.idxA x i len z ag) ⟨ρ, m, n, u, h⟩ next K ⟨⟩ = withV (idxAV (evA ρ x) (evA ρ i) len z ag) (fun v => next (S.put ⟨ρ, m, n, u, h⟩ d v)) ⟨⟩ := opT_rd rfl (by simp)
def fldV (x : V) (off n : Nat) (ag : Bool) : Option V := match x with
  | .agg cs => takeV cs off n ag
  | _ => none
theorem opT_fld {x : Arg} {off z : Nat} {ag : Bool} : opT call d (.fld x off z ag) ⟨ρ, m, n, u, h⟩ next K ⟨⟩ = withV (fldV (evA ρ x) off z ag) (fun v => next (S.put ⟨ρ, m, n, u, h⟩ d v)) ⟨⟩ := opT_rd rfl (by simp)
theorem opT_bin {op : BinOp} {ek : EqK} {x y : Arg} : opT call d (.bin op ek x y) ⟨ρ, m, n, u, h⟩ next K ⟨⟩ = withV (binV op ek (evA ρ x) (evA ρ y)) (fun v => next (S.put ⟨ρ, m, n, u, h⟩ d v)) ⟨⟩ := opT_rd rfl (by simp)
theorem opT_un {op : UnOp} {x : Arg} : opT call d (.un op x) ⟨ρ, m, n, u, h⟩ next K ⟨⟩ = withV (unV op (evA ρ x)) (fun v => next (S.put ⟨ρ, m, n, u, h⟩ d v)) ⟨⟩ := opT_rd rfl (by simp)
def cvIV (k : IntKind) (x : V) : Option V := match x with
  | .int _ n => some (.int k (k.wrap n))
  | _ => none
theorem opT_cvI {k : IntKind} {x : Arg} : opT call d (.cvI k x) ⟨ρ, m, n, u, h⟩ next K ⟨⟩ = withV (cvIV k (evA ρ x)) (fun v => next (S.put ⟨ρ, m, n, u, h⟩ d v)) ⟨⟩ := opT_rd rfl (by simp)
def cvSV (x : V) : Option V := match x with
  | .str s => some (.str s)
  | _ => none
def cvBV (x : V) : Option V := match x with
  | .vec xs _ => match bytesOf xs with
   | some bs => some (.str ⟨bs.toArray⟩)
   | none => none
  | _ => none
theorem opT_cvB {x : Arg} : opT call d (.cvB x) ⟨ρ, m, n, u, h⟩ next K ⟨⟩ = withV (cvBV (evA ρ x)) (fun v => next (S.put ⟨ρ, m, n, u, h⟩ d v)) ⟨⟩ := opT_rd rfl (by simp)
theorem opT_cvS {x : Arg} : opT call d (.cvS x) ⟨ρ, m, n, u, h⟩ next K ⟨⟩ = withV (cvSV (evA ρ x)) (fun v => next (S.put ⟨ρ, m, n, u, h⟩ d v)) ⟨⟩ := opT_rd rfl (by simp)
def mkIV (t : TypeId) (x : Option V) : Option V := match x with
  | some v => some (.iface t v)
  | none => none
theorem opT_mkI {t : TypeId} {x : Arg} : opT call d (.mkI t x) ⟨ρ, m, n, u, h⟩ next K ⟨⟩ = withV (mkIV t (evA ρ x).out) (fun v => next (S.put ⟨ρ, m, n, u, h⟩ d v)) ⟨⟩ := opT_rd rfl (by simp)
def asrtV (t : TypeId) (x : V) : Option V := match x with
  | .iface t' v => if t' = t then some v else none
  | _ => none
theorem opT_asrt {t : TypeId} {x : Arg} : opT call d (.asrt t x) ⟨ρ, m, n, u, h⟩ next K ⟨⟩ = withV (asrtV t (evA ρ x)) (fun v => next (S.put ⟨ρ, m, n, u, h⟩ d v)) ⟨⟩ := opT_rd rfl (by simp)
def extV (x : V) (i : Nat) : Option V := match x with
  | .tuple vs => vs[i]?
  | _ => none
theorem opT_ext {x : Arg} {i : Nat} : opT call d (.ext x i) ⟨ρ, m, n, u, h⟩ next K ⟨⟩ = withV (extV (evA ρ x) i) (fun v => next (S.put ⟨ρ, m, n, u, h⟩ d v)) ⟨⟩ := opT_rd rfl (by simp)
def lenOfV (h : H) (q : KK) (x : V) : Option V := match q, x with
  | .i, .vec xs _ => some (.int .i64 xs.length)
  | .i, .ref _ _ n _ => some (.int .i64 n)
  | .s, .str s => some (.int .i64 s.size)
  | .b, .nilmap => some (.int .i64 0)
  | .b, .map id => match h.mapAt id with
   | some (es, _) => some (.int .i64 es.length)
   | none => none
  | _, _ => none
theorem opT_len {q : KK} {x : Arg} : opT call d (.len q x) ⟨ρ, m, n, u, h⟩ next K ⟨⟩ = withV (lenOfV h q (evA ρ x)) (fun v => next (S.put ⟨ρ, m, n, u, h⟩ d v)) ⟨⟩ := by
 rw [opT_rd rfl (by simp)]; rfl
theorem opT_lenK {z : Nat} : opT call d (.lenK z) ⟨ρ, m, n, u, h⟩ next K ⟨⟩ = next (S.put ⟨ρ, m, n, u, h⟩ d (.int .i64 z)) := rfl
def maxsV : List V → Option V
  | v :: r => maxV v r
  | [] => none
def minsV : List V → Option V
  | v :: r => minV v r
  | [] => none
theorem opT_max {xs : List Arg} : opT call d (.max xs) ⟨ρ, m, n, u, h⟩ next K ⟨⟩ = withV (maxsV (xs.map (evA ρ))) (fun v => next (S.put ⟨ρ, m, n, u, h⟩ d v)) ⟨⟩ := opT_rd rfl (by simp)
theorem opT_min {xs : List Arg} : opT call d (.min xs) ⟨ρ, m, n, u, h⟩ next K ⟨⟩ = withV (minsV (xs.map (evA ρ))) (fun v => next (S.put ⟨ρ, m, n, u, h⟩ d v)) ⟨⟩ := opT_rd rfl (by simp)
theorem opT_slc {x : Arg} {lo hi mx : Option Arg} {z : Nat} : opT call d (.slc x lo hi mx z) ⟨ρ, m, n, u, h⟩ next K ⟨⟩ = withV (slcV (evA ρ x) (lo.map (evA ρ)) (hi.map (evA ρ)) (mx.map (evA ρ)) z) (fun v => next (S.put ⟨ρ, m, n, u, h⟩ d v)) ⟨⟩ := opT_rd rfl (by simp)
theorem opT_slcS {x : Arg} {lo hi mx : Option Arg} : opT call d (.slcS x lo hi mx) ⟨ρ, m, n, u, h⟩ next K ⟨⟩ = withV (slcSV (evA ρ x) (lo.map (evA ρ)) (hi.map (evA ρ)) (mx.map (evA ρ))) (fun v => next (S.put ⟨ρ, m, n, u, h⟩ d v)) ⟨⟩ := opT_rd rfl (by simp)
theorem opT_bld {zero : List V} {parts : List (Nat × Nat × Arg)} : opT call d (.bld zero parts) ⟨ρ, m, n, u, h⟩ next K ⟨⟩ = withVs (fillV ρ zero parts) (fun cs => next (S.put ⟨ρ, m, n, u, h⟩ d (.agg cs))) ⟨⟩ := by
 rw [opT_rd rfl (by simp)]; simp only [rd, withV, withVs]; cases fillV ρ zero parts <;> rfl
theorem opT_bsl {len sz : Nat} {ag : Bool} {zero : List V} {parts : List (Nat × Nat × Arg)} : opT call d (.bsl len sz ag zero parts) ⟨ρ, m, n, u, h⟩ next K ⟨⟩ =
  withVs (fillV ρ ((List.replicate len zero).flatten) parts) (fun cs => next (S.put ⟨ρ, m, n, u, h⟩ d (.vec (chunk ag sz len cs) .full))) ⟨⟩ := by
 rw [opT_rd rfl (by simp)]; simp only [rd, withV, withVs]; cases fillV ρ ((List.replicate len zero).flatten) parts <;> rfl
def mkFV (fn : Fn) (a b : Option (List V)) : Option V := match a, b with
  | some a, some b => some (.func fn a b)
  | _, _ => none
theorem opT_mkF {fn : Fn} {a b : List Arg} : opT call d (.mkF fn a b) ⟨ρ, m, n, u, h⟩ next K ⟨⟩ = withV (mkFV fn (outs (a.map (evA ρ))) (outs (b.map (evA ρ)))) (fun v => next (S.put ⟨ρ, m, n, u, h⟩ d v)) ⟨⟩ := opT_rd rfl (by simp)
def nilcV (x : V) : Option V := match x with
  | .iptr cs => some (.iptr cs)
  | .ptr id o => some (.ptr id o)
  | .lptr s z o => some (.lptr s z o)
  | _ => none
theorem opT_nilc {x : Arg} : opT call d (.nilc x) ⟨ρ, m, n, u, h⟩ next K ⟨⟩ = withV (nilcV (evA ρ x)) (fun v => next (S.put ⟨ρ, m, n, u, h⟩ d v)) ⟨⟩ := opT_rd rfl (by simp)
theorem opT_lkp {q : KK} {x k : Arg} {zero : V} {ok : Bool} : opT call d (.lkp q x k zero ok) ⟨ρ, m, n, u, h⟩ next K ⟨⟩ = withV (lkpV h q (evA ρ x) (evA ρ k) zero ok) (fun v => next (S.put ⟨ρ, m, n, u, h⟩ d v)) ⟨⟩ := opT_rd rfl (by simp)
theorem opT_add64 {x y c : Arg} : opT call d (.add64 x y c) ⟨ρ, m, n, u, h⟩ next K ⟨⟩ = withV (add64V (evA ρ x) (evA ρ y) (evA ρ c)) (fun v => next (S.put ⟨ρ, m, n, u, h⟩ d v)) ⟨⟩ := opT_rd rfl (by simp)
theorem opT_nilS {x : Arg} {neg : Bool} {xs : List V} {c : Cap} (hx : evA ρ x = .vec xs c) : opT call d (.nilS x neg) ⟨ρ, m, n, u, h⟩ next K ⟨⟩ = ((xs = [] → next (S.put ⟨ρ, m, n, u, h⟩ d (.bool !neg))) ∧ next (S.put ⟨ρ, m, n, u, h⟩ d (.bool neg))) := by
 simp only [opT, op1, isRd, eff, hx]; rfl
theorem opT_nilS_ref {x : Arg} {neg : Bool} {a b c e : Nat} (hx : evA ρ x = .ref a b c e) : opT call d (.nilS x neg) ⟨ρ, m, n, u, h⟩ next K ⟨⟩ = next (S.put ⟨ρ, m, n, u, h⟩ d (.bool neg)) := by
 simp only [opT, op1, isRd, eff, hx]; rfl
theorem opT_pan {x : Arg} {t : TypeId} {v : V} (hx : (evA ρ x).out = some (.iface t v)) : opT call d (.pan x) ⟨ρ, m, n, u, h⟩ next K ⟨⟩ = K (.pan (.iface t v)) (.blank h) := by
 simp only [opT, op1, isRd, eff, hx]; rfl
theorem opT_bare {size : Nat} : opT call d (.bare size) ⟨ρ, m, n, u, h⟩ next K ⟨⟩ = next (S.put ⟨ρ, m, n, u, h⟩ d (.lptr n size 0)) := rfl
theorem opT_store {x v : Arg} {z : Nat} : opT call d (.store x v z) ⟨ρ, m, n, u, h⟩ next K ⟨⟩ = withS (storeV ⟨ρ, m, n, u, h⟩ (evA ρ x) (evA ρ v) z) (fun st' => next (st'.put d .undef)) ⟨⟩ := by
 simp only [opT, op1, isRd, eff, withS]
 cases storeV ⟨ρ, m, n, u, h⟩ (evA ρ x) (evA ρ v) z <;> rfl
theorem opT_boxO {x : Arg} : opT call d (.box x true) ⟨ρ, m, n, u, h⟩ next K ⟨⟩ = withV (evA ρ x).out (fun v => next (S.put ⟨ρ, m, n, u, h.new (.cells v.cells)⟩ d (.ptr h.next 0))) ⟨⟩ := by
 simp only [opT, op1, isRd, eff, withV]
 cases (evA ρ x).out <;> rfl
def boxable : V → Bool
 | .lptr .. | .itr _ | .tuple _ | .undef => false
 | _ => true
theorem opT_boxL {x : Arg} (hb : boxable (evA ρ x) = true) : opT call d (.box x false) ⟨ρ, m, n, u, h⟩ next K ⟨⟩ = next { (S.put ⟨ρ, m, n, u, h⟩ d (.lptr n (evA ρ x).cells.length 0)) with m := upd m n (some (evA ρ x).cells) } := by
 simp only [opT, op1, isRd, eff]
 generalize evA ρ x = v at hb ⊢
 cases v <;> first | rfl | simp [boxable] at hb
theorem opT_allocO {zero : List V} : opT call d (.allocz zero true) ⟨ρ, m, n, u, h⟩ next K ⟨⟩ = next (S.put ⟨ρ, m, n, u, h.new (.cells zero)⟩ d (.ptr h.next 0)) := rfl
theorem opT_allocL {zero : List V} : opT call d (.allocz zero false) ⟨ρ, m, n, u, h⟩ next K ⟨⟩ = next { (S.put ⟨ρ, m, n, u, h⟩ d (.lptr n zero.length 0)) with m := upd m n (some zero) } := rfl
theorem opT_bslO {len sz : Nat} {zero : List V} {parts : List (Nat × Nat × Arg)} : opT call d (.bslO len sz zero parts) ⟨ρ, m, n, u, h⟩ next K ⟨⟩ =
  withVs (fillV ρ ((List.replicate len zero).flatten) parts) (fun cs => next (S.put ⟨ρ, m, n, u, h.new (.cells cs)⟩ d (.ref h.next 0 len sz))) ⟨⟩ := by
 simp only [opT, op1, isRd, eff, withVs]
 cases fillV ρ ((List.replicate len zero).flatten) parts <;> rfl
def mksN (l c : V) (sz bytes : Nat) : Option Nat := match isInt l, isInt c with
 | some l, some c => if 0 ≤ l ∧ l = c ∧ l ≤ most ∧ bytes ≤ 4096 ∧ 0 < sz then some l.toNat else none
 | _, _ => none
theorem mksN_ok {n sz bytes : Nat} {k k' : IntKind} (hn : n ≤ 4294967296) (hb : bytes ≤ 4096) (hz : 0 < sz) : mksN (.int k (n : Int)) (.int k' (n : Int)) sz bytes = some n := by
 simp only [mksN, isInt]
 rw [if_pos ⟨Int.natCast_nonneg n, trivial, by unfold most; omega, hb, hz⟩, Int.toNat_natCast]
theorem opT_mksL {l c : Arg} {sz bytes : Nat} {ag : Bool} {zero : List V} : opT call d (.mks l c sz bytes ag zero false) ⟨ρ, m, n, u, h⟩ next K ⟨⟩ =
  withN (mksN (evA ρ l) (evA ρ c) sz bytes) (fun i => next (S.put ⟨ρ, m, n, u, h⟩ d (.vec (List.replicate i (mkEl ag zero)) .full))) ⟨⟩ := by
 simp only [opT, op1, isRd, eff, withN, mksN]
 cases isInt (evA ρ l) with
 | none => rfl
 | some a => cases isInt (evA ρ c) with
  | none => rfl
  | some b =>
   simp only [Bool.false_eq_true, if_false]
   split <;> rfl
theorem opT_mksO {l c : Arg} {sz bytes : Nat} {ag : Bool} {zero : List V} : opT call d (.mks l c sz bytes ag zero true) ⟨ρ, m, n, u, h⟩ next K ⟨⟩ =
  withN (mksN (evA ρ l) (evA ρ c) sz bytes) (fun i => next (S.put ⟨ρ, m, n, u, h.new (.cells (List.replicate i zero).flatten)⟩ d (.ref h.next 0 i sz))) ⟨⟩ := by
 simp only [opT, op1, isRd, eff, withN, mksN]
 cases isInt (evA ρ l) with
 | none => rfl
 | some a => cases isInt (evA ρ c) with
  | none => rfl
  | some b =>
   simp only [Bool.false_eq_true, if_false, if_true]
   split <;> rfl
theorem opT_app {x y : Arg} {sz bytes : Nat} {ag obj : Bool} : opT call d (.app x y sz bytes ag obj) ⟨ρ, m, n, u, h⟩ next K ⟨⟩ =
  withVS (appV ⟨ρ, m, n, u, h⟩ n (evA ρ x) (evA ρ y) sz bytes ag obj) (fun v st' => next (st'.put d v)) ⟨⟩ := by
 simp only [opT, op1, isRd, eff, withVS]
 cases appV ⟨ρ, m, n, u, h⟩ n (evA ρ x) (evA ρ y) sz bytes ag obj <;> rfl
theorem opT_mkM : opT call d .mkM ⟨ρ, m, n, u, h⟩ next K ⟨⟩ = next (S.put ⟨ρ, m, n, u, h.new (.map [] 0)⟩ d (.map h.next)) := rfl
theorem opT_mup {q : KK} {x y z : Arg} : opT call d (.mup q x y z) ⟨ρ, m, n, u, h⟩ next K ⟨⟩ =
  withV (evA ρ z).out (fun v => withV (evA ρ y).out (fun w => withH (mupV h q (evA ρ x) w v) (fun h' => next (S.put ⟨ρ, m, n, u, h'⟩ d .undef)) ⟨⟩) ⟨⟩) ⟨⟩ := by
 simp only [opT, op1, isRd, eff, withV, withH]
 cases (evA ρ z).out with
 | none => rfl
 | some v =>
  cases (evA ρ y).out with
  | none => rfl
  | some w => cases h1 : mupV h q (evA ρ x) w v <;> simp [h1, Ex.then, S.withH]
theorem opT_mdel {q : KK} {x y : Arg} : opT call d (.mdel q x y) ⟨ρ, m, n, u, h⟩ next K ⟨⟩ =
  withH (mdelV h q (evA ρ x) (evA ρ y)) (fun h' => next (S.put ⟨ρ, m, n, u, h'⟩ d (.tuple []))) ⟨⟩ := by
 simp only [opT, op1, isRd, eff, withH]
 cases mdelV h q (evA ρ x) (evA ρ y) <;> rfl
theorem opT_call {f : FuncId} {args : List Arg} : opT call d (.call f args) ⟨ρ, m, n, u, h⟩ next K ⟨⟩ =
  withVs (outs (args.map (evA ρ))) (fun vs => callT call f vs h (fun o h' => match o with
   | .ret v => next (S.put ⟨ρ, m, n, u, h'⟩ d (landV n v))
   | .pan v => K (.pan v) (.blank h')) ⟨⟩) ⟨⟩ := by
 simp only [opT, op1, isRd, eff, withVs]
 cases outs (args.map (evA ρ)) <;> rfl
def isFn : V → Option (FuncId × List V × List V)
 | .func (.func g) a b => some (g, a, b)
 | _ => none
theorem opT_callv {f : Arg} {args : List Arg} {g : FuncId} {a b : List V} (hf : evA ρ f = .func (.func g) a b) : opT call d (.callv f args) ⟨ρ, m, n, u, h⟩ next K ⟨⟩ =
  withVs (outs (args.map (evA ρ))) (fun vs => callT call g (a ++ vs ++ b) h (fun o h' => match o with
   | .ret v => next (S.put ⟨ρ, m, n, u, h'⟩ d (landV n v))
   | .pan v => K (.pan v) (.blank h')) ⟨⟩) ⟨⟩ := by
 simp only [opT, op1, isRd, eff, withVs, hf]
 cases outs (args.map (evA ρ)) <;> rfl
theorem codeT_skip : codeT call .skip st K ⟨⟩ = K .normal st := rfl
theorem codeT_reg : codeT call (.reg os) st K ⟨⟩ = opsT call os st K ⟨⟩ := rfl
theorem codeT_draw : codeT call (.draw ord) st K ⟨⟩ = drawsT call ord [] st K ⟨⟩ ⟨⟩ := rfl
theorem codeT_seq {a b : C} : codeT call (.seq a b) st K ⟨⟩ = codeT call a st (Ex.then (fun st' => codeT call b st' K ⟨⟩) K) ⟨⟩ := rfl
theorem codeT_cond {x : Arg} {a b : C} : codeT call (.cond x a b) ⟨ρ, m, n, u, h⟩ K ⟨⟩ = onB (asB (evA ρ x)) (codeT call a ⟨ρ, m, n, u, h⟩ K ⟨⟩) (codeT call b ⟨ρ, m, n, u, h⟩ K ⟨⟩) ⟨⟩ := by
 simp only [codeT, codeW, onB]
 cases asB (evA ρ x) with
 | none => rfl
 | some c => cases c <;> rfl
def blockK (id : Nat) (K : Ex → S → Prop) : Ex → S → Prop := fun e st' => match e with
 | .brk i => if i = id then K .normal st' else K (.brk i) st'
 | e => K e st'
theorem codeT_block {id : Nat} {c : C} : codeT call (.block id c) st K ⟨⟩ = codeT call c st (blockK id K) ⟨⟩ := rfl
theorem blockK_brk {id i : Nat} : blockK id K (.brk i) st = if i = id then K .normal st else K (.brk i) st := rfl
theorem blockK_normal {id : Nat} : blockK id K .normal st = K .normal st := rfl
theorem blockK_ret {id : Nat} : blockK id K .ret st = K .ret st := rfl
theorem blockK_pan {id : Nat} {v : V} : blockK id K (.pan v) st = K (.pan v) st := rfl
theorem codeT_brk {id : Nat} : codeT call (.brk id) st K ⟨⟩ = K (.brk id) st := rfl
theorem codeT_ret : codeT call .ret st K ⟨⟩ = K .ret st := rfl
theorem then_normal : Ex.then next K .normal st = next st := rfl
theorem then_ret : Ex.then next K .ret st = K .ret st := rfl
theorem then_brk {id : Nat} : Ex.then next K (.brk id) st = K (.brk id) st := rfl
theorem then_pan {v : V} : Ex.then next K (.pan v) st = K (.pan v) st := rfl
theorem put_some {v : V} : S.put ⟨ρ, m, n, u, h⟩ (some t) v = ⟨upd ρ t v, m, n, u, h⟩ := rfl
theorem put_none {v : V} : S.put ⟨ρ, m, n, u, h⟩ none v = ⟨ρ, m, n, u, h⟩ := rfl
theorem tick_mk : S.tick ⟨ρ, m, n, u, h⟩ = ⟨ρ, m, n + 1, u, h⟩ := rfl
theorem upd_ite {α : Type} {f : Nat → α} {a b : Nat} {v : α} : upd f a v b = if b = a then v else f b := rfl
theorem codeT_loop {live : List Nat} {c : C} (I : Nat → S → Prop) {i : Nat} (h0 : I i (clear live st))
  (hs : ∀ (i : Nat) (st : S), I i st → codeT call c st (Ex.then (fun st' => ∃ j, j < i ∧ I j (clear live st')) K) ⟨⟩) (hm : MonoT call) : codeT call (.loop live c) st K ⟨⟩ := by
 suffices H : ∀ (N i : Nat) (st : S), i ≤ N → I i (clear live st) → loopN live (codeW call c) (N + 1) st K from ⟨i + 1, H i i st (Nat.le_refl i) h0⟩
 intro N
 induction N with
 | zero =>
  intro i st hi h0
  refine codeW_le hm (fun e st' h' => ?_) (hs i _ h0)
  cases e with
  | normal => obtain ⟨j, hj, _⟩ := h'; omega
  | _ => exact h'
 | succ N ih =>
  intro i st hi h0
  refine codeW_le hm (fun e st' h' => ?_) (hs i _ h0)
  cases e with
  | normal => obtain ⟨j, hj, h2⟩ := h'; exact ih j st' (by omega) h2
  | _ => exact h'
end
def endT (res : List IRes) (K : Out → H → Prop) (st : S) (F : Fix2 res K) : Prop := withV (finish st res) (fun v => K (.ret v) st.h) ⟨⟩
def endK (res : List IRes) (K : Out → H → Prop) : Ex → S → Prop := fun e st => match e with
 | .normal | .ret => endT res K st ⟨⟩
 | .pan v => K (.pan v) st.h
 | .brk _ => False
theorem endK_normal {res : List IRes} {K : Out → H → Prop} {st : S} : endK res K .normal st = endT res K st ⟨⟩ := rfl
theorem endK_ret {res : List IRes} {K : Out → H → Prop} {st : S} : endK res K .ret st = endT res K st ⟨⟩ := rfl
theorem endK_pan {res : List IRes} {K : Out → H → Prop} {st : S} {v : V} : endK res K (.pan v) st = K (.pan v) st.h := rfl
theorem endT_mk {res : List IRes} {K : Out → H → Prop} {ρ : Nat → V} {m : Nat → Option (List V)} {n : Nat} {u : List Nat} {h : H} : endT res K ⟨ρ, m, n, u, h⟩ ⟨⟩ = withV (finish ⟨ρ, m, n, u, h⟩ res) (fun v => K (.ret v) h) ⟨⟩ := rfl
theorem runs_fn {E : Env} (hE : ExtOK2 E) {f : FuncId} {F : IFn} {args : List V} {h : H} {K : Out → H → Prop} (hx : E.ext f = none) (hF : E.ir f = some F) (hl : args.length ≤ F.ntmps)
  (hb : codeT (Runs E) F.body ⟨args0 args, fun _ => none, 0, [], h⟩ (endK F.results K) ⟨⟩) : Runs E f args h K := by
 refine runs_of hE hx hF hl (codeW_le (runs_mono hE.toExtOK) (fun e st h' => ?_) hb)
 cases e with
 | normal => simp only [endK, endT, withV] at h'; split at h' <;> simp_all [endW]
 | ret => simp only [endK, endT, withV] at h'; split at h' <;> simp_all [endW]
 | pan v => exact h'
 | brk id => exact h'.elim
end Go.Ab
