/- Part of a proof: Lemmas for stepping: arguments, numbers, words, objects. -/
import Derived.Test.YtljoifdccjcidaaDoorR3
import Derived.Test.YtljoifdccjcidaaDoorR4
set_option linter.unusedVariables false
set_option linter.unusedSimpArgs false
namespace Go.Ab
def ρ0:Nat→V:=fun _=>.undef
def m0:Nat→Option (List V):=fun _=>none
theorem args_nil:Zct []=ρ0:=by funext t; simp [Zct,ρ0]
theorem Zdo (l:List V) (v:V):Zct (l ++ [v])=upd (Zct l) l.length v:=by
 funext t
 simp only [Zct,upd,List.getD_eq_getElem?_getD]
 by_cases h:t=l.length
 ·subst h; simp
 ·rw [if_neg h]
  rcases Nat.lt_or_ge t l.length with h1 | h1
  ·rw [List.getElem?_append_left h1]
  ·rw [List.getElem?_append_right h1,List.getElem?_eq_none h1,List.getElem?_eq_none (by simp; omega)]
theorem args_1 (a:V):Zct [a]=upd ρ0 0 a:=by rw [← args_nil]; exact Zdo [] a
theorem args_2 (a b:V):Zct [a,b]=upd (upd ρ0 0 a) 1 b:=by rw [← args_1]; exact Zdo [a] b
theorem args_3 (a b c:V):Zct [a,b,c]=upd (upd (upd ρ0 0 a) 1 b) 2 c:=by rw [← args_2]; exact Zdo [a,b] c
theorem args_4 (a b c d:V):Zct [a,b,c,d]=upd (upd (upd (upd ρ0 0 a) 1 b) 2 c) 3 d:=by rw [← args_3]; exact Zdo [a,b,c] d
theorem args_5 (a b c d e:V):Zct [a,b,c,d,e]=upd (upd (upd (upd (upd ρ0 0 a) 1 b) 2 c) 3 d) 4 e:=by rw [← args_4]; exact Zdo [a,b,c,d] e
theorem args_6 (a b c d e f:V):Zct [a,b,c,d,e,f]=upd (upd (upd (upd (upd (upd ρ0 0 a) 1 b) 2 c) 3 d) 4 e) 5 f:=by rw [← args_5]; exact Zdo [a,b,c,d,e] f
theorem args_7 (a b c d e f g:V):Zct [a,b,c,d,e,f,g]=upd (upd (upd (upd (upd (upd (upd ρ0 0 a) 1 b) 2 c) 3 d) 4 e) 5 f) 6 g:=by rw [← args_6]; exact Zdo [a,b,c,d,e,f] g
theorem ρ0_eq (t:Nat):ρ0 t=.undef:=rfl
theorem m0_eq (t:Nat):m0 t=none:=rfl
theorem m0_def:(fun _=>none:Nat→Option (List V))=m0:=rfl
theorem beqI {x y:Int}:(x == y)=decide (x=y):=rfl
theorem bb_tt:(true == true)=true:=rfl
theorem bb_tf:(true == false)=false:=rfl
theorem bb_ft:(false == true)=false:=rfl
theorem bb_ff:(false == false)=true:=rfl
theorem castL {n:Nat}:(Nat.cast (no_index (OfNat.ofNat n)):Int)=OfNat.ofNat n:=rfl
theorem bneI {x y:Int}:(x != y)=!decide (x=y):=rfl
theorem out_bool {b:Bool}:(V.bool b).out=some (.bool b):=rfl
theorem out_int {k:IntKind} {n:Int}:(V.int k n).out=some (.int k n):=rfl
theorem out_str {s:ByteArray}:(V.str s).out=some (.str s):=rfl
theorem out_vec {xs:List V} {c:Cap}:(V.vec xs c).out=some (.vec xs .any):=rfl
theorem outS_any {xs:List V}:(V.vec xs .any).outS=some (.vec xs .any):=rfl
theorem outS_full {xs:List V}:(V.vec xs .full).outS=some (.vec xs .full):=rfl
theorem outS_own {xs:List V} {s:Nat}:(V.vec xs (.own s)).outS=some (.vec xs .any):=rfl
theorem outS_bool {b:Bool}:(V.bool b).outS=some (.bool b):=rfl
theorem outS_int {k:IntKind} {n:Int}:(V.int k n).outS=some (.int k n):=rfl
theorem outS_str {s:ByteArray}:(V.str s).outS=some (.str s):=rfl
theorem outS_ref {a b c d:Nat}:(V.ref a b c d).outS=some (.ref a b c d):=rfl
theorem outS_iptr {cs:List V}:(V.iptr cs).outS=some (.iptr cs):=rfl
theorem outS_ptr {a b:Nat}:(V.ptr a b).outS=some (.ptr a b):=rfl
theorem outS_nilptr:V.nilptr.outS=some .nilptr:=rfl
theorem outS_map {a:Nat}:(V.map a).outS=some (.map a):=rfl
theorem outS_nilmap:V.nilmap.outS=some .nilmap:=rfl
theorem outS_func {fn:Fn} {a b:List V}:(V.func fn a b).outS=some (.func fn a b):=rfl
theorem outS_nilfunc:V.nilfunc.outS=some .nilfunc:=rfl
theorem outS_iface {t:TypeId} {v:V}:(V.iface t v).outS=some (.iface t v):=rfl
theorem outS_niliface:V.niliface.outS=some .niliface:=rfl
theorem outS_agg {cs:List V}:(V.agg cs).outS=some (.agg cs):=rfl
theorem resF_true {v:V}:resF true v=some v:=rfl
theorem resF_false {v:V}:resF false v=v.out:=rfl
theorem resV_tmp {st:S} {t:Nat} {fr:Bool}:resV st (.tmp t fr)=resF fr (st.ρ t):=rfl
theorem resV_cell {st:S} {t n:Nat} {ag fr:Bool}:resV st (.cell t n ag fr)=(Ze0 st.m st.h (st.ρ t) n ag).bind (resF fr):=by
 simp only [resV]; cases Ze0 st.m st.h (st.ρ t) n ag <;> rfl
theorem bind_some {v:V} {f:V→Option V}:(some v).bind f=f v:=rfl
theorem out_ref {a b c d:Nat}:(V.ref a b c d).out=some (.ref a b c d):=rfl
theorem out_iptr {cs:List V}:(V.iptr cs).out=some (.iptr cs):=rfl
theorem out_ptr {a b:Nat}:(V.ptr a b).out=some (.ptr a b):=rfl
theorem out_nilptr:V.nilptr.out=some .nilptr:=rfl
theorem out_map {a:Nat}:(V.map a).out=some (.map a):=rfl
theorem out_nilmap:V.nilmap.out=some .nilmap:=rfl
theorem out_func {fn:Fn} {a b:List V}:(V.func fn a b).out=some (.func fn a b):=rfl
theorem out_nilfunc:V.nilfunc.out=some .nilfunc:=rfl
theorem out_iface {t:TypeId} {v:V}:(V.iface t v).out=some (.iface t v):=rfl
theorem out_niliface:V.niliface.out=some .niliface:=rfl
theorem out_agg {cs:List V}:(V.agg cs).out=some (.agg cs):=rfl
theorem cells_int {k:IntKind} {n:Int}:(V.int k n).cells=[.int k n]:=rfl
theorem cells_bool {b:Bool}:(V.bool b).cells=[.bool b]:=rfl
theorem cells_str {b:ByteArray}:(V.str b).cells=[.str b]:=rfl
theorem cells_vec {xs:List V} {c:Cap}:(V.vec xs c).cells=[.vec xs c]:=rfl
theorem cells_ref {a b c d:Nat}:(V.ref a b c d).cells=[.ref a b c d]:=rfl
theorem cells_ptr {a b:Nat}:(V.ptr a b).cells=[.ptr a b]:=rfl
theorem cells_nilptr:V.nilptr.cells=[.nilptr]:=rfl
theorem cells_map {a:Nat}:(V.map a).cells=[.map a]:=rfl
theorem cells_nilmap:V.nilmap.cells=[.nilmap]:=rfl
theorem cells_iface {t:TypeId} {v:V}:(V.iface t v).cells=[.iface t v]:=rfl
theorem Zlj:V.niliface.cells=[.niliface]:=rfl
theorem cells_func {fn:Fn} {a b:List V}:(V.func fn a b).cells=[.func fn a b]:=rfl
theorem cells_agg {cs:List V}:(V.agg cs).cells=cs:=rfl
def Zlh (v:V) (m:Nat→Option (List V)) (u:List Nat) (q:Kept) (t:Nat):Kept:=
 match v with
 | .lptr s z o=>match Zff q.mp s with
  | some s'=>⟨upd q.ρ t (.lptr s' z o),q.m,q.mp⟩
  | none=>match m s with
   | some cs=>match Zfm u (q.mp ++ [(some s,q.mp.length)]) cs with
    | (cs,mp)=>⟨upd q.ρ t (.lptr q.mp.length z o),upd q.m q.mp.length (some cs),mp⟩
   | none=>q
 | v=>match renV u q.mp v with
  | (v,mp)=>⟨upd q.ρ t v,q.m,mp⟩
def cl (ρ:Nat→V) (m:Nat→Option (List V)) (u:List Nat) (h:H):List Nat→Kept→S
 | [],q=>⟨q.ρ,q.m,q.mp.length,[],h⟩
 | t :: l,q=>cl ρ m u h l (Zlh (ρ t) m u q t)
theorem clear_cl {ρ:Nat→V} {m:Nat→Option (List V)} {n:Nat} {u:List Nat} {h:H} {live:List Nat}:clear live ⟨ρ,m,n,u,h⟩=cl ρ m u h live ⟨ρ0,m0,[]⟩:=by
 have:∀ (live:List Nat) (q:Kept),(match live.foldl (Zmi ⟨ρ,m,n,u,h⟩) q with | ⟨ρ,m,mp⟩=>(⟨ρ,m,mp.length,[],h⟩:S))=cl ρ m u h live q:=by
  intro live
  induction live with
  | nil=>intro q; rfl
  | cons t l ih=>intro q; rw [List.foldl_cons,ih]; rfl
 exact this live _
theorem cl_nil {ρ ρ':Nat→V} {m m':Nat→Option (List V)} {mp:List (Option Nat × Nat)} {u:List Nat} {h:H}:cl ρ m u h [] ⟨ρ',m',mp⟩=⟨ρ',m',mp.length,[],h⟩:=rfl
theorem cl_cons {ρ:Nat→V} {m:Nat→Option (List V)} {u:List Nat} {h:H} {t:Nat} {l:List Nat} {q:Kept}:cl ρ m u h (t :: l) q=cl ρ m u h l (Zlh (ρ t) m u q t):=rfl
def V.stays:V→Bool
 | .vec _ .full | .vec _ (.own _) | .lptr .. | .tuple _=>false
 | _=>true
theorem keepV_plain {v:V} {m:Nat→Option (List V)} {u:List Nat} {ρ':Nat→V} {m':Nat→Option (List V)} {mp:List (Option Nat × Nat)} {t:Nat} (hv:v.stays=true):Zlh v m u ⟨ρ',m',mp⟩ t=⟨upd ρ' t v,m',mp⟩:=by
 cases v with
 | vec xs c=>cases c <;> first | rfl | simp [V.stays] at hv
 | lptr=>simp [V.stays] at hv
 | tuple=>simp [V.stays] at hv
 | _=>rfl
theorem keepV_own {xs:List V} {s:Nat} {m:Nat→Option (List V)} {u:List Nat} {ρ':Nat→V} {m':Nat→Option (List V)} {mp:List (Option Nat × Nat)} {t:Nat} (hu:s ∉ u) (hs:Zff mp s=none) :
  Zlh (.vec xs (.own s)) m u ⟨ρ',m',mp⟩ t=⟨upd ρ' t (.vec xs (.own mp.length)),m',mp ++ [(some s,mp.length)]⟩:=by
 simp [Zlh,renV,hu,hs]
theorem keepV_full {xs:List V} {m:Nat→Option (List V)} {u:List Nat} {ρ':Nat→V} {m':Nat→Option (List V)} {mp:List (Option Nat × Nat)} {t:Nat} :
  Zlh (.vec xs .full) m u ⟨ρ',m',mp⟩ t=⟨upd ρ' t (.vec xs (.own mp.length)),m',mp ++ [(none,mp.length)]⟩:=rfl
theorem keepV_used {xs:List V} {s:Nat} {m:Nat→Option (List V)} {u:List Nat} {ρ':Nat→V} {m':Nat→Option (List V)} {mp:List (Option Nat × Nat)} {t:Nat} (hu:s ∈ u) :
  Zlh (.vec xs (.own s)) m u ⟨ρ',m',mp⟩ t=⟨upd ρ' t (.vec xs .any),m',mp⟩:=by
 simp [Zlh,renV,hu]
theorem rd_load {st:S} {x:Arg} {n:Nat} {ag:Bool}:rd st (.load x n ag)=Ze0 st.m st.h (evA st.ρ x) n ag:=rfl
theorem rd_len {st:S} {q:KK} {x:Arg}:rd st (.len q x)=Zfa st.h q (evA st.ρ x):=by
 simp only [rd]; rfl
theorem rd_lkp {st:S} {q:KK} {x k:Arg} {zero:V} {ok:Bool}:rd st (.lkp q x k zero ok)=lkpV st.h q (evA st.ρ x) (evA st.ρ k) zero ok:=rfl
theorem len_vec {h:H} {xs:List V} {c:Cap}:Zfa h .i (.vec xs c)=some (.int .i64 xs.length):=rfl
theorem len_ref {h:H} {a b n z:Nat}:Zfa h .i (.ref a b n z)=some (.int .i64 n):=rfl
theorem len_str {h:H} {s:ByteArray}:Zfa h .s (.str s)=some (.int .i64 s.size):=rfl
theorem len_nilmap {h:H}:Zfa h .b .nilmap=some (.int .i64 0):=rfl
theorem len_map {h:H} {id:Nat}:Zfa h .b (.map id)=(match h.mapAt id with | some (es,_)=>some (.int .i64 es.length) | none=>none):=rfl
theorem load_iptr {m:Nat→Option (List V)} {h:H} {cs:List V} {n:Nat} {ag:Bool}:Ze0 m h (.iptr cs) n ag=takeV cs 0 n ag:=rfl
theorem load_ptr {m:Nat→Option (List V)} {h:H} {id o n:Nat} {ag:Bool}:Ze0 m h (.ptr id o) n ag=(match h.get id with | some cs=>takeV cs o n ag | none=>none):=rfl
theorem load_lptr {m:Nat→Option (List V)} {h:H} {s z o n:Nat} {ag:Bool}:Ze0 m h (.lptr s z o) n ag=(match m s with | some cs=>takeL cs o n ag | none=>none):=rfl
theorem addP_iptr {cs:List V} {off:Nat}:addP (.iptr cs) off=if off ≤ cs.length then some (.iptr (cs.drop off)) else none:=rfl
theorem addP_ptr {id o off:Nat}:addP (.ptr id o) off=some (.ptr id (o + off)):=rfl
theorem addP_lptr {s z o off:Nat}:addP (.lptr s z o) off=some (.lptr s z (o + off)):=rfl
theorem idx_vec {xs:List V} {c:Cap} {k:IntKind} {i:Int} {sz:Nat}:Zi4 (.vec xs c) (.int k i) sz=(if 0 ≤ i then match xs[i.toNat]? with
   | some e=>if e.cells.length=sz then some (.iptr e.cells) else none
   | none=>none
  else none):=rfl
theorem idx_ref {id off len z:Nat} {k:IntKind} {i:Int} {sz:Nat}:Zi4 (.ref id off len z) (.int k i) sz=if 0 ≤ i∧i < len∧z=sz then some (.ptr id (off + i.toNat * sz)) else none:=rfl
theorem toNat_nat {n:Nat}:((n:Int)).toNat=n:=rfl
theorem nat_nonneg {n:Nat}:(0 ≤ (n:Int))=True:=eq_true (Int.natCast_nonneg n)
def Zgp:List V→Bool
 | []=>true
 | v :: vs=>v.stays && Zgp vs
theorem all_nil:Zgp []=true:=rfl
theorem all_cons {v:V} {vs:List V}:Zgp (v :: vs)=(v.stays && Zgp vs):=rfl
def keepB (o:Option Nat) (b:Option (List V)) (s z off:Nat) (u:List Nat) (ρ':Nat→V) (m':Nat→Option (List V)) (mp:List (Option Nat × Nat)) (t:Nat):Kept:=
 match o with
 | some s'=>⟨upd ρ' t (.lptr s' z off),m',mp⟩
 | none=>match b with
  | some cs=>match Zfm u (mp ++ [(some s,mp.length)]) cs with
   | (cs,mp2)=>⟨upd ρ' t (.lptr mp.length z off),upd m' mp.length (some cs),mp2⟩
  | none=>⟨ρ',m',mp⟩
theorem keepV_l {s z off:Nat} {m:Nat→Option (List V)} {u:List Nat} {ρ':Nat→V} {m':Nat→Option (List V)} {mp:List (Option Nat × Nat)} {t:Nat}:Zlh (.lptr s z off) m u ⟨ρ',m',mp⟩ t=keepB (Zff mp s) (m s) s z off u ρ' m' mp t:=by
 unfold Zlh keepB
 rfl
theorem Zkc {u:List Nat} {mp:List (Option Nat × Nat)}:∀ {cs:List V},Zgp cs=true→Zfm u mp cs=(cs,mp)
 | [],_=>rfl
 | v :: vs,h=>by
  rw [all_cons,Bool.and_eq_true] at h
  have h1:renV u mp v=(v,mp):=by
   have h0:=h.1
   cases v with
   | vec xs c=>cases c <;> first | rfl | simp [V.stays] at h0
   | lptr=>simp [V.stays] at h0
   | tuple=>simp [V.stays] at h0
   | _=>rfl
  simp only [Zfm,h1,Zkc h.2]
theorem keepB_new {cs:List V} {s z off:Nat} {u:List Nat} {ρ':Nat→V} {m':Nat→Option (List V)} {mp:List (Option Nat × Nat)} {t:Nat} (h:Zgp cs=true) :
  keepB none (some cs) s z off u ρ' m' mp t=⟨upd ρ' t (.lptr mp.length z off),upd m' mp.length (some cs),mp ++ [(some s,mp.length)]⟩:=by
 simp only [keepB,Zkc h]
def keepC (p:List V × List (Option Nat × Nat)) (at_ z off:Nat) (ρ':Nat→V) (m':Nat→Option (List V)) (t:Nat):Kept:=⟨upd ρ' t (.lptr at_ z off),upd m' at_ (some p.1),p.2⟩
theorem keepB_gen {cs:List V} {s z off:Nat} {u:List Nat} {ρ':Nat→V} {m':Nat→Option (List V)} {mp:List (Option Nat × Nat)} {t:Nat} :
  keepB none (some cs) s z off u ρ' m' mp t=keepC (Zfm u (mp ++ [(some s,mp.length)]) cs) mp.length z off ρ' m' t:=by
 unfold keepB keepC
 rfl
theorem keepC_mk {cs:List V} {mp:List (Option Nat × Nat)} {at_ z off:Nat} {ρ':Nat→V} {m':Nat→Option (List V)} {t:Nat}:keepC (cs,mp) at_ z off ρ' m' t=⟨upd ρ' t (.lptr at_ z off),upd m' at_ (some cs),mp⟩:=rfl
def renG (u:List Nat):List V→List V→List (Option Nat × Nat)→List V × List (Option Nat × Nat)
 | done,[],mp=>(done.reverse,mp)
 | done,v :: vs,mp=>match renV u mp v with
  | (a,mp)=>renG u (a :: done) vs mp
theorem renVs_renG {u:List Nat} {mp:List (Option Nat × Nat)} {cs:List V}:Zfm u mp cs=renG u [] cs mp:=by
 have:∀ (cs done:List V) (mp:List (Option Nat × Nat)),renG u done cs mp=(done.reverse ++ (Zfm u mp cs).1,(Zfm u mp cs).2):=by
  intro cs
  induction cs with
  | nil=>intro done mp; simp [renG,Zfm]
  | cons v vs ih=>intro done mp; simp only [renG,Zfm]; rw [ih]; simp
 rw [this cs [] mp]; simp
theorem renG_nil {u:List Nat} {done:List V} {mp:List (Option Nat × Nat)}:renG u done [] mp=(done.reverse,mp):=rfl
theorem renG_plain {u:List Nat} {done vs:List V} {mp:List (Option Nat × Nat)} {v:V} (hv:v.stays=true):renG u done (v :: vs) mp=renG u (v :: done) vs mp:=by
 have h1:renV u mp v=(v,mp):=by
  cases v with
  | vec xs c=>cases c <;> first | rfl | simp [V.stays] at hv
  | lptr=>simp [V.stays] at hv
  | tuple=>simp [V.stays] at hv
  | _=>rfl
 simp only [renG,h1]
theorem renG_full {u:List Nat} {done vs:List V} {mp:List (Option Nat × Nat)} {xs:List V}:renG u done (.vec xs .full :: vs) mp=renG u (.vec xs (.own mp.length) :: done) vs (mp ++ [(none,mp.length)]):=rfl
theorem renG_own {u:List Nat} {done vs:List V} {mp:List (Option Nat × Nat)} {xs:List V} {s:Nat} (hu:s ∉ u) (hs:Zff mp s=none):renG u done (.vec xs (.own s) :: vs) mp=renG u (.vec xs (.own mp.length) :: done) vs (mp ++ [(some s,mp.length)]):=by
 simp [renG,renV,hu,hs]
theorem renG_used {u:List Nat} {done vs:List V} {mp:List (Option Nat × Nat)} {xs:List V} {s:Nat} (hu:s ∈ u):renG u done (.vec xs (.own s) :: vs) mp=renG u (.vec xs .any :: done) vs mp:=by
 simp [renG,renV,hu]
theorem keepB_old {s':Nat} {b:Option (List V)} {s z off:Nat} {u:List Nat} {ρ':Nat→V} {m':Nat→Option (List V)} {mp:List (Option Nat × Nat)} {t:Nat} :
  keepB (some s') b s z off u ρ' m' mp t=⟨upd ρ' t (.lptr s' z off),m',mp⟩:=rfl
theorem stays_any {xs:List V}:(V.vec xs .any).stays=true:=rfl
theorem stays_full {xs:List V}:(V.vec xs .full).stays=false:=rfl
theorem stays_own {xs:List V} {s:Nat}:(V.vec xs (.own s)).stays=false:=rfl
theorem stays_int {k:IntKind} {n:Int}:(V.int k n).stays=true:=rfl
theorem stays_bool {b:Bool}:(V.bool b).stays=true:=rfl
theorem stays_str {b:ByteArray}:(V.str b).stays=true:=rfl
theorem stays_ref {a b c d:Nat}:(V.ref a b c d).stays=true:=rfl
theorem stays_ptr {a b:Nat}:(V.ptr a b).stays=true:=rfl
theorem stays_iptr {cs:List V}:(V.iptr cs).stays=true:=rfl
theorem stays_nilptr:V.nilptr.stays=true:=rfl
theorem stays_map {a:Nat}:(V.map a).stays=true:=rfl
theorem stays_nilmap:V.nilmap.stays=true:=rfl
theorem stays_itr {a:Nat}:(V.itr a).stays=true:=rfl
theorem stays_iface {t:TypeId} {v:V}:(V.iface t v).stays=true:=rfl
theorem Zld:V.niliface.stays=true:=rfl
theorem stays_func {fn:Fn} {a b:List V}:(V.func fn a b).stays=true:=rfl
theorem stays_nilfunc:V.nilfunc.stays=true:=rfl
theorem stays_agg {cs:List V}:(V.agg cs).stays=true:=rfl
theorem stays_undef:V.undef.stays=true:=rfl
theorem seek_nil {s:Nat}:Zff [] s=none:=rfl
theorem seek_none {b s:Nat} {l:List (Option Nat × Nat)}:Zff ((none,b) :: l) s=Zff l s:=by
 unfold Zff
 simp
theorem seek_cons {a b s:Nat} {l:List (Option Nat × Nat)}:Zff ((some a,b) :: l) s=if a=s then some b else Zff l s:=by
 unfold Zff
 by_cases h:a=s
 ·simp [h]
 ·simp [h]
theorem get_zero {α:Type} {a:α} {l:List α}:(a :: l)[0]?=some a:=rfl
theorem get_succ {α:Type} {a:α} {l:List α} {n:Nat}:(a :: l)[n + 1]?=l[n]?:=rfl
theorem get_new {h:H} {cs:List V}:(h.new (.cells cs)).get h.next=some cs:=by simp [H.get,H.new,upd]
theorem get_new_ne {h:H} {o:O} {id:Nat} (hid:id ≠ h.next):(h.new o).get id=h.get id:=by simp [H.get,H.new,upd,hid]
theorem Zkm {h:H} {cs:List V} {id:Nat}:(h.set id (.cells cs)).get id=some cs:=by simp [H.get,H.set,upd]
theorem Zei {h:H} {o:O} {id id':Nat} (hid:id ≠ id'):(h.set id' o).get id=h.get id:=by simp [H.get,H.set,upd,hid]
theorem get_move {h:H} {cs:List V} {id:Nat}:(h.move id (.cells cs)).get h.next=some cs:=by simp [H.get,H.move,upd]
theorem get_move_ne {h:H} {o:O} {id id':Nat} (hid:id ≠ h.next) (hne:id ≠ id'):(h.move id' o).get id=h.get id:=by simp [H.get,H.move,upd,hid,hne]
theorem wrap_i64 {n:Int} (h0:-9223372036854775808 ≤ n) (h1:n ≤ 9223372036854775807):IntKind.i64.wrap n=n:=by
 rw [IntKind.wrap_i64]; omega
theorem Zmp {n:Int}:IntKind.u64.wrap n=n % 18446744073709551616:=by simp [IntKind.wrap,IntKind.bits,IntKind.signed]
theorem Zaq {n:Int} (h0:0 ≤ n) (h1:n < 18446744073709551616):IntKind.u64.wrap n=n:=by rw [Zmp]; omega
theorem wrap_u8 {n:Int}:IntKind.u8.wrap n=n % 256:=IntKind.wrap_u8 n
abbrev W (n:Nat):V:=.int .u64 n
abbrev I (n:Int):V:=.int .i64 n
def Ws (l:List Nat):List V:=l.map W
theorem Za7 {l:List Nat}:(Ws l).length=l.length:=by simp [Ws]
theorem Zmn {l:List Nat} {i:Nat}:(Ws l)[i]?=(l[i]?).map W:=by simp [Ws]
theorem Ws_cells {l:List Nat}:∀ e ∈ Ws l,e.cells.length=1:=by
 intro e he
 obtain ⟨x,_,rfl⟩:=List.mem_map.1 he
 rfl
theorem Ws_take {l:List Nat} {n:Nat}:(Ws l).take n=Ws (l.take n):=by simp [Ws,List.map_take]
theorem Ws_drop {l:List Nat} {n:Nat}:(Ws l).drop n=Ws (l.drop n):=by simp [Ws,List.map_drop]
theorem app_full {st:S} {s sz bytes:Nat} {xs ys:List V} {ag:Bool} {c2:Cap} (hx:∀ e ∈ xs,e.cells.length=sz) (hy:∀ e ∈ ys,e.cells.length=sz∧mkEl ag e.cells=e) (hz:0 < sz) (hb:bytes ≤ 4096) (hl:xs.length + ys.length ≤ 4294967296) :
  appV st s (.vec xs .full) (.vec ys c2) sz bytes ag false=some (if ys.length=0 then (.vec xs .full,st) else (.vec (xs ++ ys) (.own s),st)):=by
 have hf:∀ (ys:List V),(∀ e ∈ ys,e.cells.length=sz∧mkEl ag e.cells=e)→(ys.flatMap V.cells).length=ys.length * sz∧chunk ag sz ys.length (ys.flatMap V.cells)=ys:=by
  intro ys
  induction ys with
  | nil=>intro _; exact ⟨by simp,rfl⟩
  | cons y ys ih =>
   intro h
   obtain ⟨h1,h2⟩:=h y (by simp)
   obtain ⟨h3,h4⟩:=ih (fun e he=>h e (by simp [he]))
   refine ⟨by rw [List.flatMap_cons,List.length_append,h3,h1,List.length_cons,Nat.succ_mul]; omega,?_⟩
   rw [List.flatMap_cons,List.length_cons,chunk,List.take_left' h1,List.drop_left' h1,h4,h2]
 obtain ⟨h1,h2⟩:=hf ys hy
 simp only [appV,lenV,flat]
 rw [if_pos ⟨h1,hz,hb⟩,if_pos ⟨hl,hx⟩,h2]
 split <;> rfl
theorem Zd0 {st:S} {s s' sz bytes:Nat} {xs:List V} {x:V} {ag:Bool} {c2:Cap} (hs:s' ∉ st.u) (hx:∀ e ∈ xs,e.cells.length=sz) (hel:x.cells.length=sz) (hz:0 < sz) (hb:bytes ≤ 4096) (hl:xs.length < 4294967296) :
  appV st s (.vec xs (.own s')) (.vec [x] c2) sz bytes ag false=some (.vec (xs ++ [mkEl ag x.cells]) (.own s),{ st with u:=s' :: st.u }):=by
 simp only [appV,lenV,flat,List.length_cons,List.length_nil,List.flatMap_cons,List.flatMap_nil,List.append_nil,Nat.zero_add,Nat.one_mul,chunk]
 rw [if_pos ⟨hel,hz,hb⟩,if_pos ⟨by unfold most; omega,hx⟩,if_neg (by decide),if_neg hs,List.take_of_length_le (Nat.le_of_eq hel)]
theorem app1_full {st:S} {s sz bytes:Nat} {xs:List V} {x:V} {ag:Bool} {c2:Cap} (hx:∀ e ∈ xs,e.cells.length=sz) (hel:x.cells.length=sz) (hz:0 < sz) (hb:bytes ≤ 4096) (hl:xs.length < 4294967296) :
  appV st s (.vec xs .full) (.vec [x] c2) sz bytes ag false=some (.vec (xs ++ [mkEl ag x.cells]) (.own s),st):=by
 simp only [appV,lenV,flat,List.length_cons,List.length_nil,List.flatMap_cons,List.flatMap_nil,List.append_nil,Nat.zero_add,Nat.one_mul,chunk]
 rw [if_pos ⟨hel,hz,hb⟩,if_pos ⟨by unfold most; omega,hx⟩,if_neg (by decide),List.take_of_length_le (Nat.le_of_eq hel)]
theorem wi {i:Nat} (h:i < 9000000000000000000):IntKind.i64.wrap ((i:Int) + 1)=((i + 1:Nat):Int):=by rw [wrap_i64] <;> omega
theorem wuadd {i j:Nat} (h:i + j < 18446744073709551616):IntKind.u64.wrap ((i:Int) + (j:Int))=((i + j:Nat):Int):=by rw [Zaq] <;> omega
theorem Zar {call:Za2} {live:List Nat} {c:C} {st:S} {K:Ex→S→Prop} {N:Nat} (F:Nat→S) (P:Nat→Prop) (h0:clear live st=F 0) (p0:P 0)
  (hs:∀ j,j < N→P j→Zde call c (F j) (Ex.then (fun st'=>clear live st'=F (j + 1)∧P (j + 1)) K) ⟨⟩) (hN:P N→Zde call c (F N) (Ex.then (fun _=>False) K) ⟨⟩) (hm:Zcy call):Zde call (.loop live c) st K ⟨⟩:=by
 refine Zal (fun k s=>∃ j,j ≤ N∧k=N - j∧P j∧s=F j) (i:=N) ⟨0,by omega,by omega,p0,h0⟩ ?_ hm
 rintro k s ⟨j,hj,rfl,pj,rfl⟩
 rcases Nat.lt_or_ge j N with h | h
 ·refine Ze6 hm (fun e st' h'=>?_) (hs j h pj)
  cases e with
  | normal=>exact ⟨N - (j + 1),by omega,j + 1,by omega,rfl,h'.2,h'.1⟩
  | _=>exact h'
 ·have:j=N:=by omega
  subst this
  refine Ze6 hm (fun e st' h'=>?_) (hN pj)
  cases e with
  | normal=>exact h'.elim
  | _=>exact h'
end Go.Ab
set_option linter.defProp false
namespace Go.Ab
def STP:=(And.intro (And.intro (And.intro @blockK_brk (And.intro @blockK_normal @blockK_ret)) (And.intro (And.intro @blockK_pan @then_normal) (And.intro @then_ret @then_brk))) (And.intro (And.intro (And.intro @then_pan @endK_normal) (And.intro @endK_ret @endK_pan)) (And.intro (And.intro @upd_ite @evA_tmp) (And.intro @evA_cst @evA_glob))))
def STQ:=(And.intro (And.intro (And.intro (And.intro (And.intro (And.intro (And.intro (And.intro @codeT_skip @codeT_reg) (And.intro @codeT_draw (And.intro @codeT_draw2 @codeT_seq))) (And.intro (And.intro @codeT_cond @codeT_block) (And.intro @codeT_brk (And.intro @codeT_ret @endT_mk)))) (And.intro (And.intro (And.intro @opsT_nil @opsT_cons) (And.intro @opsT_guard (And.intro @drawsT_nil @drawsT_cons0))) (And.intro (And.intro @drawsT_guard0 @drawsT_cons) (And.intro @drawsT_guard (And.intro @opT_mv @opT_pick))))) (And.intro (And.intro (And.intro (And.intro @opT_load @opT_fad) (And.intro @opT_idxS (And.intro @opT_idxP @opT_idxStr))) (And.intro (And.intro @opT_idxA @opT_fld) (And.intro @opT_bin (And.intro @opT_un @opT_cvI)))) (And.intro (And.intro (And.intro @opT_cvS @opT_cvB) (And.intro @opT_mkI (And.intro @opT_asrt @opT_ext))) (And.intro (And.intro @opT_len @opT_lenK) (And.intro @opT_max (And.intro @opT_min @opT_slc)))))) (And.intro (And.intro (And.intro (And.intro (And.intro @opT_slcS @opT_bld) (And.intro @opT_bsl (And.intro @opT_mkF @opT_nilc))) (And.intro (And.intro @opT_lkp @opT_add64) (And.intro @opT_bare (And.intro @opT_store @opT_boxO)))) (And.intro (And.intro (And.intro @opT_boxL @opT_allocO) (And.intro @opT_allocL (And.intro @opT_bslO @opT_mksL))) (And.intro (And.intro @opT_mksO @opT_app) (And.intro @opT_mkM (And.intro @opT_mup @opT_mdel))))) (And.intro (And.intro (And.intro (And.intro @opT_call @withV_some) (And.intro @withV_none (And.intro @withVs_some @withVs_none))) (And.intro (And.intro @withS_some @withS_none) (And.intro @withVS_some (And.intro @withVS_none @withH_some)))) (And.intro (And.intro (And.intro @withH_none @withN_some) (And.intro @withN_none (And.intro @onB_true @onB_false))) (And.intro (And.intro @onB_none @put_some) (And.intro @put_none (And.intro @tick_mk @wantV_true))))))) (And.intro (And.intro (And.intro (And.intro (And.intro (And.intro @wantV_false @wantV_skip) (And.intro @pickV_true (And.intro @pickV_false @not_false_eq_true))) (And.intro (And.intro @Option.map_some.{0,0} @Option.map_none.{0,0}) (And.intro @Bool.not_true (And.intro @Bool.not_false @true_and)))) (And.intro (And.intro (And.intro @and_true @false_and) (And.intro @and_false (And.intro @and_self @false_and))) (And.intro (And.intro @and_false @and_self) (And.intro @out_bool (And.intro @out_int @out_str))))) (And.intro (And.intro (And.intro (And.intro @out_vec @outS_any) (And.intro @outS_full (And.intro @outS_own @outS_bool))) (And.intro (And.intro @outS_int @outS_str) (And.intro @outS_ref (And.intro @outS_iptr @outS_ptr)))) (And.intro (And.intro (And.intro @outS_nilptr @outS_map) (And.intro @outS_nilmap (And.intro @outS_func @outS_nilfunc))) (And.intro (And.intro @outS_iface @outS_niliface) (And.intro @outS_agg (And.intro @resF_true @resF_false)))))) (And.intro (And.intro (And.intro (And.intro (And.intro @resV_tmp @resV_cell) (And.intro @bind_some (And.intro @out_ref @out_iptr))) (And.intro (And.intro @out_ptr @out_nilptr) (And.intro @out_map (And.intro @out_nilmap @out_func)))) (And.intro (And.intro (And.intro @out_nilfunc @out_iface) (And.intro @out_niliface (And.intro @out_agg @cells_int))) (And.intro (And.intro @cells_bool @cells_str) (And.intro @cells_vec (And.intro @cells_ref @cells_ptr))))) (And.intro (And.intro (And.intro (And.intro @cells_nilptr @cells_map) (And.intro @cells_nilmap (And.intro @cells_iface @Zlj))) (And.intro (And.intro @cells_func @cells_agg) (And.intro @args_nil (And.intro @args_1 @args_2)))) (And.intro (And.intro (And.intro @args_3 @args_4) (And.intro @args_5 (And.intro @args_6 @args_7))) (And.intro (And.intro @m0_def (And.intro @ρ0_eq @m0_eq)) (And.intro @List.map_cons.{0,0} (And.intro @List.map_nil.{0,0} @List.not_mem_nil.{0})))))))) (And.intro (And.intro (And.intro (And.intro (And.intro (And.intro (And.intro @List.length_cons.{0} @List.length_nil.{0}) (And.intro @List.drop_zero.{0} (And.intro @List.drop_succ_cons.{0} @List.take_succ_cons.{0}))) (And.intro (And.intro @List.take_zero.{0} @List.take_nil.{0}) (And.intro @get_zero (And.intro @get_succ @Nat.zero_add)))) (And.intro (And.intro (And.intro @Nat.add_zero @Nat.not_lt_zero) (And.intro @beqI (And.intro @bneI @decide_true))) (And.intro (And.intro @decide_false @Nat.zero_lt_one) (And.intro @Nat.zero_le (And.intro @List.headD_cons.{0} @clear_cl))))) (And.intro (And.intro (And.intro (And.intro @cl_nil @cl_cons) (And.intro @keepV_plain (And.intro @keepV_own @keepV_full))) (And.intro (And.intro @keepV_used @rd_load) (And.intro @rd_len (And.intro @rd_lkp @len_vec)))) (And.intro (And.intro (And.intro @len_ref @len_str) (And.intro @len_nilmap (And.intro @len_map @load_iptr))) (And.intro (And.intro @load_ptr @load_lptr) (And.intro @addP_iptr (And.intro @addP_ptr @addP_lptr)))))) (And.intro (And.intro (And.intro (And.intro (And.intro @idx_vec @idx_ref) (And.intro @toNat_nat (And.intro @nat_nonneg @all_nil))) (And.intro (And.intro @all_cons @keepV_l) (And.intro @keepB_new (And.intro @keepB_gen @keepC_mk)))) (And.intro (And.intro (And.intro @renVs_renG @renG_nil) (And.intro @renG_plain (And.intro @renG_full @renG_own))) (And.intro (And.intro @renG_used @List.reverse_cons.{0}) (And.intro @List.reverse_nil.{0} (And.intro @keepB_old @Bool.and_self))))) (And.intro (And.intro (And.intro (And.intro @Bool.and_true @Bool.true_and) (And.intro @stays_any (And.intro @stays_full @stays_own))) (And.intro (And.intro @stays_int @stays_bool) (And.intro @stays_str (And.intro @stays_ref @stays_ptr)))) (And.intro (And.intro (And.intro @stays_iptr @stays_nilptr) (And.intro @stays_map (And.intro @stays_nilmap @stays_itr))) (And.intro (And.intro @stays_iface (And.intro @Zld @stays_func)) (And.intro @stays_nilfunc (And.intro @stays_agg @stays_undef))))))) (And.intro (And.intro (And.intro (And.intro (And.intro (And.intro @seek_nil @seek_none) (And.intro @seek_cons (And.intro @List.nil_append.{0} @List.cons_append.{0}))) (And.intro (And.intro @List.mem_cons.{0} @List.mem_singleton.{0}) (And.intro @or_false (And.intro @or_true @false_or)))) (And.intro (And.intro (And.intro @true_or @not_true_eq_false) (And.intro @not_false_eq_true (And.intro @List.replicate_succ.{0} @List.replicate_zero.{0}))) (And.intro (And.intro @List.flatten_cons.{0} @List.flatten_nil.{0}) (And.intro @List.append_nil.{0} (And.intro @Bool.false_eq_true @Nat.le_refl))))) (And.intro (And.intro (And.intro (And.intro @Nat.le_add_left @List.drop_nil.{0}) (And.intro @List.head?_cons.{0} (And.intro @Option.getD_some.{0} @castL))) (And.intro (And.intro @bb_tt @bb_tf) (And.intro @bb_ft (And.intro @bb_ff @gt_iff_lt.{0})))) (And.intro (And.intro (And.intro @ge_iff_le.{0} @isRd.eq_def) (And.intro @idxPV.eq_def (And.intro @idxStrV.eq_def @idxAV.eq_def))) (And.intro (And.intro @fldV.eq_def @cvIV.eq_def) (And.intro @cvSV.eq_def (And.intro @cvBV.eq_def @mkIV.eq_def)))))) (And.intro (And.intro (And.intro (And.intro (And.intro @asrtV.eq_def @extV.eq_def) (And.intro @maxsV.eq_def (And.intro @minsV.eq_def @mkFV.eq_def))) (And.intro (And.intro @nilcV.eq_def @asB.eq_def) (And.intro @S.blank.eq_def (And.intro @S.withH.eq_def @landV.eq_def)))) (And.intro (And.intro (And.intro @stampV.eq_def @finish.eq_def) (And.intro @outR.eq_def (And.intro @takeV.eq_def @takeL.eq_def))) (And.intro (And.intro @binV.eq_def @binI.eq_def) (And.intro @cmpI.eq_def (And.intro @unV.eq_def @boxable.eq_def))))) (And.intro (And.intro (And.intro (And.intro @over.eq_def @mkEl.eq_def) (And.intro @eqV.eq_def (And.intro @eqC.eq_def @nils.eq_def))) (And.intro (And.intro @isNilM.eq_def @isNilI.eq_def) (And.intro @again.eq_1 (And.intro @again.eq_2 @outs.eq_1)))) (And.intro (And.intro (And.intro @outs.eq_2 @resVs.eq_1) (And.intro @resVs.eq_2 (And.intro @outRs.eq_1 @outRs.eq_2))) (And.intro (And.intro @fillV.eq_1 (And.intro @fillV.eq_2 @chunk.eq_1)) (And.intro @chunk.eq_2 (And.intro @eqCs.eq_1 @eqCs.eq_2)))))))))
end Go.Ab
set_option maxRecDepth 100000
namespace Go.Ab.YtljoifdccjcidaaDoor
open Go.Proofs (Tryd.prog)
noncomputable def gB:Code:=bodyC Go.Proofs.Tryd.f37
noncomputable def cB:Code:=bodyC Go.Proofs.Tryd.f51
noncomputable def goneDef:Defers Go.Proofs.Tryd.prog 37 51 hs37 ir37 where
 fn:=Go.Proofs.Tryd.f37
 r0:=cS1 gB
 rest:=cS2 (cS2 gB)
 rid:=cId (cS1 (cS2 gB))
 o0:=cOp (cS1 (cS2 gB)) 0
 o1:=cOp (cS1 (cS2 gB)) 1
 c1:=match ir37.body with | .seq _ c=>c | _=>.skip
 hfn:=Go.Proofs.Tryd.func37
 name:=by decide +kernel
 body:=by kernel_rfl
 q0:=⟨by kernel_rfl,by kernel_rfl,by kernel_rfl⟩
 q1:=⟨by kernel_rfl,by kernel_rfl,callTys (cOp (cS1 (cS2 gB)) 1),by kernel_rfl⟩
 nt:=Nat.le_of_ble_eq_true (by kernel_rfl)
 tr:=tr37
 shape:=by kernel_rfl
 res:=by kernel_rfl
noncomputable def goneClo:Closure Go.Proofs.Tryd.prog 51 93 hs51 ir51 where
 gn:=Go.Proofs.Tryd.f51
 r2:=cThen (cS2 (cS2 cB))
 i0:=cId (cS1 cB)
 i1:=cId (cS1 (cS2 cB))
 p0:=cOp (cS1 cB) 0
 p1:=cOp (cS1 cB) 1
 p2:=cOp (cS1 (cS2 cB)) 0
 p3:=cOp (cS1 (cS2 cB)) 1
 ti:=(binT (cOp (cS1 (cS2 cB)) 1)).1
 ti':=(binT (cOp (cS1 (cS2 cB)) 1)).2
 hgn:=Go.Proofs.Tryd.func51
 gname:=by decide +kernel
 body:=by kernel_rfl
 res:=by kernel_rfl
 nt:=by kernel_rfl
 q0:=⟨by kernel_rfl,by kernel_rfl,callTys (cOp (cS1 cB) 0),by kernel_rfl⟩
 q1:=⟨by kernel_rfl,by kernel_rfl,by kernel_rfl⟩
 q2:=⟨by kernel_rfl,by kernel_rfl,by kernel_rfl⟩
 q3:=⟨by kernel_rfl,by kernel_rfl,by kernel_rfl⟩
 tiu:=⟨#[],by kernel_rfl⟩
 tr:=by kernel_rfl
theorem catches:Catches ir51 93:=by
 intro call fuel h j0 j1 n x0 x1 K hne g0 g1 hK
 show Zde call ir51.body _ K ⟨⟩
 have g1':(h.set j0 (.cells [.int .i64 0])).objs j1=some (.cells [x1]):=by simp only [H.set,upd]; rw [if_neg (fun e=>hne e.symm)]; exact g1
 simp -dsimp -implicitDefEqProofs only [↓STP,STQ,seval,ir51,rho3,Zae,H.get,g0,g1',Nat.lt_succ_self]
 exact hK _ rfl
def exts:FuncId→Option (Za2→List V→H→(Out→H→Prop)→Prop):=fun f =>
 if f=37 then some (Ziz ir37 93) else if f=86 then some Zfb else if f=29 then some Zfb else none
theorem Zil {f:FuncId} {x:Za2→List V→H→(Out→H→Prop)→Prop} (h:exts f=some x) :
  (f=37∧x=Ziz ir37 93)∨(f=86∧x=Zfb)∨(f=29∧x=Zfb):=by
 unfold exts at h
 split at h
 ·rename_i hf; cases h; exact .inl ⟨hf,rfl⟩
 ·split at h
  ·rename_i hf; cases h; exact .inr (.inl ⟨hf,rfl⟩)
  ·split at h
   ·rename_i hf; cases h; exact .inr (.inr ⟨hf,rfl⟩)
   ·cases h
theorem exts_le:∀ f x,exts f=some x→∀ (call call2:Za2),Le2 call call2→∀ args h (K K':Out→H→Prop),(∀ o h',K o h'→K' o h')→x call args h K→x call2 args h K':=by
 intro f x hx
 rcases Zil hx with ⟨_,rfl⟩ | ⟨_,rfl⟩ | ⟨_,rfl⟩
 ·exact deferX_le
 ·exact cloneX_le
 ·exact cloneX_le
theorem exts_cont:∀ f x,exts f=some x→∀ (call:Za2),Cont call→Zcy call→∀ args h (Q:Nat→Out→H→Prop),(∀ m m' o h',m ≤ m'→Q m o h'→Q m' o h')→x call args h (fun o h'=>∃ m,Q m o h')→∃ m,x call args h (Q m):=by
 intro f x hx
 rcases Zil hx with ⟨_,rfl⟩ | ⟨_,rfl⟩ | ⟨_,rfl⟩
 ·exact deferX_cont
 ·exact Zk2
 ·exact Zk2
theorem exts_sound:∀ f x,exts f=some x→∀ call,Zb9 Go.Proofs.Tryd.prog Zik call→Zcy call→∀ args h K,x call args h K→Zh7 Go.Proofs.Tryd.prog f∧∀ k w xs,WR k h w Zik→Zi3 k w args xs →
  Calls Go.Proofs.Tryd.prog f xs w fun en w'=>∃ o h',K o h'∧Zc3 Zik k h w o h' en w':=by
 intro f x hx
 rcases Zil hx with ⟨rfl,rfl⟩ | ⟨rfl,rfl⟩ | ⟨rfl,rfl⟩
 ·exact fun call hc hm args h K hxx=>defer_sound goneDef goneClo catches (by kernel_rfl) (fun g cells h=>h) (fun g cells h=>h) call hc hm args h K hxx
 ·exact fun call hc hm args h K hxx=>clone_sound call hc hm args h K hxx
 ·exact fun call hc hm args h K hxx=>clone_sound2 call hc hm args h K hxx
end Go.Ab.YtljoifdccjcidaaDoor
