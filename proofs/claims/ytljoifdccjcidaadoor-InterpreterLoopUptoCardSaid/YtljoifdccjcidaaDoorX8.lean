/- Part of a proof: What the checker says depends on the declarations and on the statements; its errors are not zero. -/
import Derived.Test.YtljoifdccjcidaaDoorX7
import Derived.Test.YtljoifdccjcidaaDoorX6
import Derived.Lib.LaidTab
set_option linter.unusedVariables false
set_option linter.unusedSimpArgs false
namespace Go.Ab
theorem TOk_init {p:Prg} (hin:∀ d ∈ p.ins,VIn d) (har:∀ d ∈ p.arrays,VAr d):TOk p (initT p):=by
 refine ⟨⟨(fun s k w h=>by cases h),(fun s n h=>by cases h),by simp [initT],fun i l d hl hd=>?_⟩,Nat.zero_le _,by have:=maxI_le hin; show maxI p.ins ≤ 60; omega⟩
 have hl:(p.arrays.map fun d=>List.replicate d.size.toNat 1)[i]?=some l:=hl
 rw [List.getElem?_map,hd] at hl
 cases hl
 have:=(har d (List.mem_of_getElem? hd)).s1
 refine ⟨by rw [List.length_replicate]; omega,fun w hw=>?_⟩
 have:=(List.mem_replicate.1 hw).2
 omega
theorem PV_of {p:Prg} (v:VT p) (h:unlikeT p=true):PV p:=
 ⟨fun d hd=>⟨(v.ins d hd).w1,(v.ins d hd).w2,(v.ins d hd).s1,(v.ins d hd).s2⟩,fun d hd=>⟨(v.ars d hd).s1,(v.ars d hd).s2⟩,of_decide_eq_true h⟩
theorem check_inv {p:Prg} {σ:TS} (h:checkT p=.ok σ):unlikeT p=true∧stmtsT p p.body (initT p)=.ok σ:=by
 unfold checkT at h
 split at h
 ·rename_i hu; exact ⟨hu,h⟩
 ·cases h
theorem errT_ok {r:TR TS} (h:errT r=0) (hne:∀ e,r=.error e→e ≠ 0):∃ σ,r=.ok σ:=by
 cases r with
 | ok σ=>exact ⟨σ,rfl⟩
 | error e=>exact absurd h (hne e rfl)
def Nz {α:Type} (r:TR α):Prop:=∀ e,r=.error e→e ≠ 0
theorem Nz.ok {α:Type} {a:α}:Nz (.ok a:TR α):=fun e h=>by cases h
theorem Nz.err {α:Type} {e:Int} (h:e ≠ 0):Nz (.error e:TR α):=fun e' h'=>by cases h'; exact h
theorem Nz.and {α β:Type} {r:TR α} {f:α→TR β} (h:Nz r) (hf:∀ a,Nz (f a)):Nz (andT r f):=by
 cases r with
 | ok a=>exact hf a
 | error e=>exact fun e' h'=>h e' (by cases h'; rfl)
theorem Nz.ite {α:Type} {c:Prop} [Decidable c] {a b:TR α} (ha:Nz a) (hb:Nz b):Nz (if c then a else b):=by
 split
 ·exact ha
 ·exact hb
theorem placeT_nz {k:Kn} {z:Int}:Nz (placeT k z):=.ite (.err (by decide)) (.ite (.err (by decide)) .ok)
theorem madeT_nz {p:Prg} {σ:TE} {k o:Int} {n:Nat} {s:ByteArray} {l:List Kn}:Nz (madeT p σ k o n s l):=by
 unfold madeT
 refine .ite .ok (.ite ?_ (.ite ?_ (.ite ?_ (.ite (.ite (.err (by decide)) .ok) (.ite (.err (by decide)) .ok)))))
 ·unfold nameT
  split
  ·exact .ok
  ·split
   ·exact .ok
   ·split
    ·exact .ite .ok (.err (by decide))
    ·exact .err (by decide)
 ·unfold indexT
  split
  ·exact .and placeT_nz fun _=>.ok
  ·split
   ·exact .ite (.err (by decide)) (.and placeT_nz fun _=>.ok)
   ·exact .err (by decide)
 ·unfold opK
  exact .ite (.err (by decide)) (.ite .ok (.ite .ok (.ite .ok .ok)))
theorem toldT_nz {m:Nat} {k:Kn}:Nz (toldT m k):=.ite (.ite (.err (by decide)) .ok) .ok
theorem exprsT_nz_of {p:Prg} {σ:TE}:∀ {l:List Exp},(∀ x ∈ l,Nz (exprT p σ x))→Nz (exprsT p σ l)
 | [],_=>by rw [exprsT]; exact .ok
 | x :: xs,h=>by
  rw [exprsT]
  exact .and (h x (by simp)) fun _=>.and (exprsT_nz_of fun y hy=>h y (by simp [hy])) fun _=>.ok
theorem exprT_nz {p:Prg} {σ:TE} (e:Exp):Nz (exprT p σ e):=by
 induction e using Exp.ind with
 | h k o n s ks ih =>
  rw [exprT]
  exact .and (exprsT_nz_of ih) fun _=>.and madeT_nz fun _=>toldT_nz
theorem stepT_nz {σ:TS}:Nz (stepT σ):=.ite (.err (by decide)) .ok
theorem iterT_nz {f:Nat→TS→TR TS} (h:∀ n σ,Nz (f n σ)):∀ c n σ,Nz (iterT f c n σ)
 | 0,n,σ=>by rw [iterT]; exact .ok
 | c + 1,n,σ=>by rw [iterT]; exact .and (h n σ) fun _=>iterT_nz h c (n + 1) _
theorem stmt1_nz {p:Prg} {k:Int} {s:ByteArray} {l:List Kn} {fa fb:TS→TR TS} (ha:∀ σ,Nz (fa σ)) (hb:∀ σ,Nz (fb σ)) {σ:TS}:Nz (stmt1 p k s l fa fb σ):=by
 unfold stmt1
 refine .ite ?_ (.ite ?_ (.ite ?_ (.ite ?_ (.ite (.err (by decide)) .ok))))
 ·exact .ite (.err (by decide)) .ok
 ·unfold storeT
  split
  ·exact .err (by decide)
  ·exact .and placeT_nz fun _=>.ite (.err (by decide)) .ok
 ·exact .ite (.err (by decide)) (.and (ha _) fun _=>.and (hb _) fun _=>.ok)
 ·exact .ite (.err (by decide)) (.ite (.err (by decide)) (iterT_nz (fun n τ=>.and stepT_nz fun _=>.and (ha _) fun _=>.ok) _ _ _))
theorem stmtsT_nz_of {p:Prg}:∀ {l:List Stm},(∀ x ∈ l,∀ σ,Nz (stmtT p x σ))→∀ σ,Nz (stmtsT p l σ)
 | [],_=>fun σ=>by rw [stmtsT]; exact .ok
 | x :: xs,h=>fun σ=>by
  rw [stmtsT]
  exact .and (h x (by simp) σ) fun _=>stmtsT_nz_of (fun y hy=>h y (by simp [hy])) _
theorem stmtT_nz {p:Prg} (x:Stm):∀ σ,Nz (stmtT p x σ):=by
 induction x using Stm.ind with
 | h k s e a b iha ihb =>
  intro σ
  rw [stmtT]
  exact .and stepT_nz fun _=>.and (exprsT_nz_of fun x _=>exprT_nz x) fun _=>stmt1_nz (stmtsT_nz_of iha) (stmtsT_nz_of ihb)
theorem checkT_nz {p:Prg}:Nz (checkT p):=.ite (stmtsT_nz_of (fun x _=>stmtT_nz x) _) (.err (by decide))
theorem zipmax_getD {x y:List Nat} (h:x.length=y.length) (n:Nat):(List.zipWith max x y).getD n 0=max (x.getD n 0) (y.getD n 0):=by
 rw [List.getD_eq_getElem?_getD,List.getElem?_zipWith,List.getD_eq_getElem?_getD,List.getD_eq_getElem?_getD]
 rcases Nat.lt_or_ge n x.length with q | q
 ·rw [List.getElem?_eq_getElem q,List.getElem?_eq_getElem (by omega)]; rfl
 ·rw [List.getElem?_eq_none q,List.getElem?_eq_none (by omega)]; rfl
theorem both_some {ahead a b:ByteArray→Option (Int × Nat)} {s:ByteArray} {k:Int} {w:Nat} (h:bothV ahead a b s=some (k,w)):(∃ u,ahead s=some u)∧∃ w1 w2,a s=some (k,w1)∧b s=some (k,w2)∧w=max w1 w2:=by
 unfold bothV at h
 cases c:ahead s with
 | none=>rw [c] at h; cases h
 | some u =>
  rw [c] at h
  refine ⟨⟨u,rfl⟩,?_⟩
  have h:both1 (a s) (b s)=some (k,w):=h
  cases ca:a s with
  | none=>rw [ca] at h; cases h
  | some x =>
   obtain ⟨k1,w1⟩:=x
   cases cb:b s with
   | none=>rw [ca,cb] at h; cases h
   | some y =>
    obtain ⟨k2,w2⟩:=y
    rw [ca,cb] at h
    have h:(if k1=k2 then some (k1,max w1 w2) else none)=some (k,w):=h
    split at h
    ·rename_i hk; cases h
     exact ⟨w1,w2,rfl,by rw [hk],rfl⟩
    ·cases h
theorem stmtsT_one' {p:Prg} {x:Stm} {σ:TS}:stmtsT p [x] σ=stmtT p x σ:=by
 rw [stmtsT]
 cases stmtT p x σ with
 | error e=>rfl
 | ok τ=>rw [andT_ok,stmtsT]
end Go.Ab
namespace Go.Ab
structure RS where
 vars:ByteArray→Option Nat
 inw:ByteArray→List Nat
 words:List (List Nat)
 told:List Nat
def oneIf (c:Prop) [Decidable c]:Nat:=if c then 1 else 0
theorem oneIf_le (c:Prop) [Decidable c]:oneIf c ≤ 1:=by unfold oneIf; split <;> decide
def opX (o:Int) (a b:Nat):Nat:=
 if o=1 then a + b else if o=2 then a - b else if o=3 then a * b else if o=4 then oneIf (a < b) else if o=5 then oneIf (a=b)
 else if o=6 then oneIf (a=1∧b=1) else oneIf (a=1∨b=1)
def rdX (p:Prg) (s:RS) (x:ByteArray) (i:Nat):Nat:=match arOf p x with
 | some j=>(s.words.getD j []).getD i 0
 | none=>(s.inw x).getD i 0
def valOf (p:Prg) (s:RS) (k o:Int) (n:Nat) (x:ByteArray) (l:List Nat):Nat:=
 if k=1 then n else if k=2 then (s.vars x).getD 0 else if k=3 then rdX p s x (l.getD 0 0) else if k=4 then opX o (l.getD 0 0) (l.getD 1 0)
 else if k=5 then 1 - l.getD 0 0 else if l.getD 0 0=1 then l.getD 1 0 else l.getD 2 0
mutual
def valX (p:Prg) (s:RS):Exp→Nat
 | .mk k o n x ks=>valOf p s k o n x (valsX p s ks)
def valsX (p:Prg) (s:RS):List Exp→List Nat
 | []=>[]
 | e :: es=>valX p s e :: valsX p s es
end
theorem valsX_map {p:Prg} {s:RS}:∀ l:List Exp,valsX p s l=l.map (valX p s)
 | []=>by rw [valsX]; rfl
 | e :: es=>by rw [valsX,valsX_map es]; rfl
theorem valX_mk {p:Prg} {s:RS} {k o:Int} {n:Nat} {x:ByteArray} {ks:List Exp}:valX p s (.mk k o n x ks)=valOf p s k o n x (ks.map (valX p s)):=by rw [valX,valsX_map]
def setM (f:ByteArray→Option Nat) (x:ByteArray) (v:Option Nat):ByteArray→Option Nat:=fun t=>if t=x then v else f t
def iterX (f:Nat→RS→RS):Nat→Nat→RS→RS
 | 0,_,s=>s
 | c + 1,n,s=>iterX f c (n + 1) (f n s)
def forX (x:ByteArray) (a b:Nat) (fa:RS→RS) (s:RS):RS:=
 let t:=iterX (fun n s=>fa { s with vars:=setM s.vars x (some n) }) (b + 1 - a) a { s with vars:=setM s.vars x none }
 { t with vars:=setM t.vars x none }
def run1 (p:Prg) (k:Int) (x:ByteArray) (l:List Nat) (fa fb:RS→RS) (s:RS):RS:=
 if k=1 then { s with vars:=setM s.vars x (some (l.getD 0 0)) }
 else if k=2 then (match arOf p x with | some j=>{ s with words:=setW s.words j (l.getD 0 0) (l.getD 1 0) } | none=>s)
 else if k=3 then (if l.getD 0 0=1 then fa s else fb s)
 else if k=4 then forX x (l.getD 0 0) (l.getD 1 0) fa s
 else { s with told:=s.told ++ [l.getD 0 0] }
mutual
def runX (p:Prg):Stm→RS→RS
 | .mk k x e a b,s=>run1 p k x (valsX p s e) (runsX p a) (runsX p b) s
def runsX (p:Prg):List Stm→RS→RS
 | [],s=>s
 | y :: ys,s=>runsX p ys (runX p y s)
end
theorem runX_mk {p:Prg} {k:Int} {x:ByteArray} {e:List Exp} {a b:List Stm} {s:RS}:runX p (.mk k x e a b) s=run1 p k x (e.map (valX p s)) (runsX p a) (runsX p b) s:=by rw [runX,valsX_map]
theorem runsX_append {p:Prg}:∀ {a b:List Stm} {s:RS},runsX p (a ++ b) s=runsX p b (runsX p a s)
 | [],b,s=>by rw [List.nil_append,runsX]
 | y :: ys,b,s=>by rw [List.cons_append,runsX,runsX,runsX_append]
theorem runsX_take {p:Prg} {l:List Stm} {j:Nat} (hj:j < l.length) {s:RS}:runsX p (l.take (j + 1)) s=runX p l[j] (runsX p (l.take j) s):=by
 rw [List.take_add_one,List.getElem?_eq_getElem hj,Option.toList_some,runsX_append,runsX,runsX]
structure VFit (k:Kn) (v:Nat):Prop where
 num:k.kind=1→v < 2 ^ k.w
 boo:k.kind=2→v ≤ 1
 is:k.is=true→v=k.val
structure AgE (p:Prg) (σ:TE) (s:RS):Prop where
 vars:∀ x k w,σ.vars x=some (k,w)→∃ v,s.vars x=some v∧(k=1→v < 2 ^ w)∧(k=2→v ≤ 1)
 loops:∀ x n,findL x σ.loops=some n→s.vars x=some n∧σ.vars x=none
 ins:∀ x d,inOf p x=some d→d.size=0→∃ v,s.vars x=some v∧v < 2 ^ d.width.toNat
 inw:∀ x d,inOf p x=some d→d.size ≠ 0→((s.inw x).length:Int)=d.size∧∀ n,(s.inw x).getD n 0 < 2 ^ d.width.toNat
 wl:s.words.length=σ.words.length
 words:∀ (i:Nat) (l l':List Nat),σ.words[i]?=some l→s.words[i]?=some l'→l'.length=l.length∧∀ n,l'.getD n 0 < 2 ^ l.getD n 0
structure Ag (p:Prg) (σ:TS) (s:RS):Prop where
 env:AgE p σ.env s
 told:∀ v ∈ s.told,v < 2 ^ max σ.most 1
 few:s.told.length ≤ σ.steps
theorem Ag.mono {p:Prg} {σ σ':TS} {s:RS} (a:Ag p σ s) (he:σ'.env=σ.env) (hs:σ.steps ≤ σ'.steps) (hm:σ.most ≤ σ'.most):Ag p σ' s:=
 ⟨by rw [he]; exact a.env,fun v hv=>Nat.lt_of_lt_of_le (a.told v hv) (Nat.pow_le_pow_right (by decide) (by omega)),Nat.le_trans a.few hs⟩
inductive VFits:List Nat→List Kn→Prop
 | nil:VFits [] []
 | cons {v:Nat} {k:Kn} {l:List Nat} {ks:List Kn}:VFit k v→VFits l ks→VFits (v :: l) (k :: ks)
theorem VFits.nth:∀ {l:List Nat} {ks:List Kn},VFits l ks→∀ i,VFit (nthK ks i) (l.getD i 0)
 | _,_,.nil,i=>⟨fun h=>absurd (show (2:Int)=1 from h) (by decide),fun _=>Nat.zero_le _,fun h=>absurd (show false=true from h) (by decide)⟩
 | _,_,.cons a b,0=>a
 | _,_,.cons a b,i + 1=>b.nth i
theorem VFits.of {p:Prg} {σ:TE} {s:RS}:∀ {l:List Exp},(∀ x ∈ l,∀ r m,exprT p σ x=.ok (r,m)→VFit r (valX p s x))→∀ ks m,exprsT p σ l=.ok (ks,m)→VFits (l.map (valX p s)) ks
 | [],_,ks,m,h=>by rw [exprsT] at h; cases h; exact .nil
 | e :: es,ih,ks,m,h=>by
  rw [exprsT] at h
  obtain ⟨⟨a,ma⟩,h1,h⟩:=andT_inv h
  obtain ⟨⟨b,mb⟩,h2,h⟩:=andT_inv h
  cases h
  exact .cons (ih e (by simp) a ma h1) (VFits.of (fun x hx=>ih x (by simp [hx])) b mb h2)
theorem fit_con {n:Nat}:VFit (kcon n) n:=⟨fun _=>lt_wid n,fun h=>absurd (show (1:Int)=2 from h) (by decide),fun _=>rfl⟩
theorem fit_num {n w:Nat} (h:n < 2 ^ w):VFit (knum w) n:=⟨fun _=>h,fun h=>absurd (show (1:Int)=2 from h) (by decide),fun h=>absurd (show false=true from h) (by decide)⟩
theorem fit_boo {n:Nat} (h:n ≤ 1):VFit kboo n:=⟨fun h=>absurd (show (2:Int)=1 from h) (by decide),fun _=>h,fun h=>absurd (show false=true from h) (by decide)⟩
theorem placeT_inv {k:Kn} {z:Int} {n:Nat} (h:placeT k z=.ok n):k.kind=1∧k.is=true∧n=k.val∧(n:Int) < z:=by
 unfold placeT at h
 split at h
 ·cases h
 ·rename_i hc
  split at h
  ·cases h
  ·rename_i hz
   cases h
   have h1:k.kind=1:=Decidable.byContradiction fun q=>hc (.inl q)
   have h2:k.is=true:=by
    cases q:k.is with
    | true=>rfl
    | false=>exact absurd (.inr q) hc
   exact ⟨h1,h2,rfl,by omega⟩
theorem opK_fit {o:Int} {a b r:Kn} {x y:Nat} (ha:VFit a x) (hb:VFit b y) (h:opK o a b=.ok r):VFit r (opX o x y):=by
 unfold opK at h
 split at h
 ·cases h
 rename_i hk
 unfold opX
 have ka:a.kind=opKind o:=Decidable.byContradiction fun q=>hk (.inl q)
 have kb:b.kind=opKind o:=Decidable.byContradiction fun q=>hk (.inr q)
 have both:∀ {u v w:Nat},(a.is=true→b.is=true→u=v)→(a.is && b.is)=true→u=(if (a.is && b.is)=true then v else w):=fun {u v w} h1 h2=>by
  rw [if_pos h2]
  rw [Bool.and_eq_true] at h2
  exact h1 h2.1 h2.2
 split at h
 ·rename_i o1
  subst o1
  cases h
  have x1:=ha.num ka
  have y1:=hb.num kb
  refine ⟨fun _=>?_,fun h=>absurd (show (1:Int)=2 from h) (by decide),fun h=>both (fun h1 h2=>by rw [if_pos rfl,ha.is h1,hb.is h2]) h⟩
  rw [if_pos rfl]
  have e1:2 ^ a.w ≤ 2 ^ max a.w b.w:=Nat.pow_le_pow_right (by decide) (by omega)
  have e2:2 ^ b.w ≤ 2 ^ max a.w b.w:=Nat.pow_le_pow_right (by decide) (by omega)
  show x + y < 2 ^ (max a.w b.w + 1)
  rw [Nat.pow_succ]
  omega
 rename_i o1
 rw [if_neg o1]
 split at h
 ·rename_i o2
  subst o2
  cases h
  have x1:=ha.num ka
  refine ⟨fun _=>?_,fun h=>absurd (show (1:Int)=2 from h) (by decide),fun h=>both (fun h1 h2=>by rw [if_pos rfl,ha.is h1,hb.is h2]) h⟩
  rw [if_pos rfl]
  show x - y < 2 ^ a.w
  omega
 rename_i o2
 rw [if_neg o2]
 split at h
 ·rename_i o3
  subst o3
  cases h
  have x1:=ha.num ka
  have y1:=hb.num kb
  refine ⟨fun _=>?_,fun h=>absurd (show (1:Int)=2 from h) (by decide),fun h=>both (fun h1 h2=>by rw [if_pos rfl,ha.is h1,hb.is h2]) h⟩
  rw [if_pos rfl]
  show x * y < 2 ^ (a.w + b.w)
  rw [Nat.pow_add]
  exact Nat.mul_lt_mul'' x1 y1
 rename_i o3
 rw [if_neg o3]
 cases h
 split
 ·exact fit_boo (oneIf_le _)
 split
 ·exact fit_boo (oneIf_le _)
 split
 ·exact fit_boo (oneIf_le _)
 ·exact fit_boo (oneIf_le _)
theorem AgE.name {p:Prg} {σ:TE} {s:RS} (a:AgE p σ s) {x:ByteArray} {r:Kn} (h:nameT p σ x=.ok r):∃ v,s.vars x=some v∧VFit r v:=by
 unfold nameT at h
 split at h
 ·rename_i n hn
  cases h
  exact ⟨n,(a.loops x n hn).1,fit_con⟩
 ·split at h
  ·rename_i k w hv
   cases h
   obtain ⟨v,h1,h2,h3⟩:=a.vars x k w hv
   exact ⟨v,h1,⟨h2,h3,fun h=>absurd (show false=true from h) (by decide)⟩⟩
  ·split at h
   ·rename_i d hd
    split at h
    ·rename_i hz
     cases h
     obtain ⟨v,h1,h2⟩:=a.ins x d hd hz
     exact ⟨v,h1,fit_num h2⟩
    ·cases h
   ·cases h
theorem AgE.index {p:Prg} {σ:TE} {s:RS} (a:AgE p σ s) (ok:EOkT p σ) {x:ByteArray} {k r:Kn} {v:Nat} (hv:VFit k v) (h:indexT p σ x k=.ok r) :
  VFit r (rdX p s x v)∧((∃ j d,arOf p x=some j∧p.arrays[j]?=some d∧d.name=x∧((s.words.getD j []).length:Int)=d.size∧j < s.words.length∧v < (s.words.getD j []).length)∨(∃ d,arOf p x=none∧inOf p x=some d∧d.size ≠ 0∧((s.inw x).length:Int)=d.size∧v < (s.inw x).length)):=by
 unfold indexT at h
 unfold rdX
 cases c:arOf p x with
 | some j =>
  rw [c] at h
  simp only at h ⊢
  obtain ⟨n,h1,h2⟩:=andT_inv h
  cases h2
  obtain ⟨d,hd,hn,hg⟩:=arOf_some c
  rw [hg] at h1
  obtain ⟨p1,p2,p3,p4⟩:=placeT_inv h1
  have e:v=n:=by rw [hv.is p2,p3]
  subst e
  have jl:j < p.arrays.length:=(List.getElem?_eq_some_iff.1 hd).1
  have jl1:j < σ.words.length:=by rw [ok.wlen]; exact jl
  have jl2:j < s.words.length:=by rw [a.wl]; exact jl1
  obtain ⟨w1,w2⟩:=a.words j _ _ (List.getElem?_eq_getElem jl1) (List.getElem?_eq_getElem jl2)
  have w3:=(ok.words j _ d (List.getElem?_eq_getElem jl1) hd).1
  have g1:s.words.getD j []=s.words[j]:=by rw [List.getD_eq_getElem?_getD,List.getElem?_eq_getElem jl2]; rfl
  have g2:σ.words.getD j []=σ.words[j]:=by rw [List.getD_eq_getElem?_getD,List.getElem?_eq_getElem jl1]; rfl
  rw [g1,g2]
  exact ⟨fit_num (w2 _),.inl ⟨j,d,rfl,hd,hn,by rw [g1]; omega,jl2,by rw [g1]; omega⟩⟩
 | none =>
  rw [c] at h
  simp only at h ⊢
  split at h
  ·rename_i d hd
   split at h
   ·cases h
   ·rename_i hz
    obtain ⟨n,h1,h2⟩:=andT_inv h
    cases h2
    obtain ⟨p1,p2,p3,p4⟩:=placeT_inv h1
    have e:v=n:=by rw [hv.is p2,p3]
    subst e
    obtain ⟨i1,i2⟩:=a.inw x d hd hz
    exact ⟨fit_num (i2 _),.inr ⟨d,trivial,hd,hz,i1,by omega⟩⟩
  ·cases h
theorem VFit.cond {k r:Kn} {v:Nat} (h:VFit k v) (hk:r.kind=k.kind) (hw:k.w ≤ r.w) (hi:r.is=false):VFit r v:=
 ⟨fun h1=>Nat.lt_of_lt_of_le (h.num (hk ▸ h1)) (Nat.pow_le_pow_right (by decide) hw),fun h1=>h.boo (hk ▸ h1),fun h1=>by rw [hi] at h1; cases h1⟩
theorem made_fit {p:Prg} {σ:TE} {s:RS} (a:AgE p σ s) (ok:EOkT p σ) {k o:Int} {n:Nat} {x:ByteArray} {l:List Kn} {vs:List Nat} {r:Kn} (hl:VFits vs l) (h:madeT p σ k o n x l=.ok r):VFit r (valOf p s k o n x vs):=by
 unfold madeT at h
 unfold valOf
 split at h
 ·rename_i c; rw [if_pos c]; cases h; exact fit_con
 rename_i c; rw [if_neg c]
 split at h
 ·rename_i c; rw [if_pos c]
  obtain ⟨v,h1,h2⟩:=a.name h
  rw [h1]; exact h2
 rename_i c; rw [if_neg c]
 split at h
 ·rename_i c; rw [if_pos c]; exact (a.index ok (hl.nth 0) h).1
 rename_i c; rw [if_neg c]
 split at h
 ·rename_i c; rw [if_pos c]; exact opK_fit (hl.nth 0) (hl.nth 1) h
 rename_i c; rw [if_neg c]
 split at h
 ·rename_i c; rw [if_pos c]
  split at h
  ·cases h
  ·cases h; exact fit_boo (by omega)
 rename_i c; rw [if_neg c]
 split at h
 ·cases h
 ·rename_i hk
  cases h
  have k2:(nthK l 2).kind=(nthK l 1).kind:=Decidable.byContradiction fun q=>hk (.inr q)
  split
  ·exact (hl.nth 1).cond rfl (by show _ ≤ max _ _; omega) rfl
  ·exact (hl.nth 2).cond k2.symm (by show _ ≤ max _ _; omega) rfl
theorem val_fit {p:Prg} {σ:TE} {s:RS} (a:AgE p σ s) (ok:EOkT p σ) (e:Exp):∀ r m,exprT p σ e=.ok (r,m)→VFit r (valX p s e):=by
 induction e using Exp.ind with
 | h k o n x ks ih =>
  intro r m h
  rw [exprT] at h
  obtain ⟨⟨l,ml⟩,h1,h⟩:=andT_inv h
  obtain ⟨q,h2,h⟩:=andT_inv h
  have hq:=(toldT_ok h).1
  rw [valX_mk]
  have hh:r=q:=hq
  subst hh
  exact made_fit a ok (VFits.of ih l ml h1) h2
theorem vals_fit {p:Prg} {σ:TE} {s:RS} (a:AgE p σ s) (ok:EOkT p σ) {l:List Exp} {ks:List Kn} {m:Nat} (h:exprsT p σ l=.ok (ks,m)):VFits (l.map (valX p s)) ks:=VFits.of (fun x _=>val_fit a ok x) ks m h
theorem expr_w {p:Prg} {σ:TE} {e:Exp} {r:Kn} {m:Nat} (h:exprT p σ e=.ok (r,m)):r.kind=1→r.w ≤ m:=by
 obtain ⟨k,o,n,x,ks⟩:=e
 rw [exprT] at h
 obtain ⟨⟨l,ml⟩,h1,h⟩:=andT_inv h
 obtain ⟨q,h2,h⟩:=andT_inv h
 obtain ⟨t1,t2,t3,t4,t5⟩:=toldT_ok h
 have hh:r=q:=t1
 subst hh
 exact t5
end Go.Ab
namespace Go.Ab
theorem setM_get {f:ByteArray→Option Nat} {x t:ByteArray} {v:Option Nat}:setM f x v t=if t=x then v else f t:=rfl
theorem taken_inv {p:Prg} {σ:TE} {x:ByteArray} (h:¬ takenT p σ x=true):inOf p x=none∧arOf p x=none∧findL x σ.loops=none:=by
 unfold takenT at h
 refine ⟨?_,?_,?_⟩
 ·cases c:inOf p x with
  | none=>rfl
  | some d=>exact absurd (by rw [c]; rfl) h
 ·cases c:arOf p x with
  | none=>rfl
  | some d=>exact absurd (by rw [c]; cases inOf p x <;> rfl) h
 ·cases c:findL x σ.loops with
  | none=>rfl
  | some d=>exact absurd (by rw [c]; cases inOf p x <;> cases arOf p x <;> rfl) h
theorem AgE.set {p:Prg} {σ:TE} {s:RS} (a:AgE p σ s) {x:ByteArray} (ht:¬ takenT p σ x=true) {u:Option (Int × Nat)} {v:Option Nat} (h:∀ k w,u=some (k,w)→∃ n,v=some n∧(k=1→n < 2 ^ w)∧(k=2→n ≤ 1)) :
  AgE p { σ with vars:=setV σ.vars x u } { s with vars:=setM s.vars x v }:=by
 obtain ⟨t1,t2,t3⟩:=taken_inv ht
 refine ⟨fun t k w hv=>?_,fun t n hn=>?_,fun t d hd hz=>?_,a.inw,a.wl,a.words⟩
 ·have hv:setV σ.vars x u t=some (k,w):=hv
  show ∃ v',setM s.vars x v t=some v'∧_
  unfold setV at hv
  rw [setM_get]
  by_cases c:t=x
  ·rw [if_pos c] at hv ⊢; exact h k w hv
  ·rw [if_neg c] at hv ⊢; exact a.vars t k w hv
 ·have hn:findL t σ.loops=some n:=hn
  have c:t ≠ x:=fun e=>by rw [e,t3] at hn; cases hn
  obtain ⟨l1,l2⟩:=a.loops t n hn
  exact ⟨by show setM s.vars x v t=_; rw [setM_get,if_neg c]; exact l1,by show setV σ.vars x u t=_; unfold setV; rw [if_neg c]; exact l2⟩
 ·have c:t ≠ x:=fun e=>by rw [e,t1] at hd; cases hd
  obtain ⟨w,l1,l2⟩:=a.ins t d hd hz
  exact ⟨w,by show setM s.vars x v t=_; rw [setM_get,if_neg c]; exact l1,l2⟩
def RunT (p:Prg) (f:TS→TR TS) (g:RS→RS):Prop:=∀ σ τ s,TOk p σ→Ag p σ s→f σ=.ok τ→Ag p τ (g s)
theorem iter_run {p:Prg} {f:Nat→TS→TR TS} {g:Nat→RS→RS} {I:TS→Prop} {m:Nat} (hr:∀ n,n < m→∀ σ τ s,TOk p σ→I σ→Ag p σ s→f n σ=.ok τ→Ag p τ (g n s)∧I τ) (hg:∀ n,n < m→GoodT p (f n)) :
  ∀ c n,n + c ≤ m→∀ σ τ s,TOk p σ→I σ→Ag p σ s→iterT f c n σ=.ok τ→Ag p τ (iterX g c n s)∧I τ
 | 0,n,_,σ,τ,s,ok,hi,a,h=>by rw [iterT] at h; cases h; exact ⟨a,hi⟩
 | c + 1,n,hm,σ,τ,s,ok,hi,a,h=>by
  rw [iterT] at h
  obtain ⟨ρ,h1,h2⟩:=andT_inv h
  obtain ⟨a1,i1⟩:=hr n (by omega) σ ρ s ok hi a h1
  rw [iterX]
  exact iter_run hr hg c (n + 1) (by omega) ρ τ _ (hg n (by omega) σ ρ ok h1).ok i1 a1 h2
theorem findL_snoc {x t:ByteArray} {n m:Nat}:∀ {l:List (ByteArray × Nat)},findL t (l ++ [(x,n)])=some m→findL t l=some m∨(findL t l=none∧t=x∧m=n)
 | [],h=>by
  simp only [List.nil_append,findL] at h
  split at h
  ·rename_i e; cases h; exact .inr ⟨rfl,e.symm,rfl⟩
  ·cases h
 | (y,k) :: l,h=>by
  simp only [List.cons_append,findL] at h ⊢
  split at h
  ·rename_i e; rw [if_pos e]; exact .inl h
  ·rename_i e; rw [if_neg e]; exact findL_snoc h
structure Free (p:Prg) (x:ByteArray) (ls:List (ByteArray × Nat)) (σ:TS):Prop where
 i:inOf p x=none
 a:arOf p x=none
 l:findL x ls=none
 e:σ.env.loops=ls
 v:σ.env.vars x=none
theorem turn_ext {p:Prg} {x:ByteArray} {σ:TS} (ok:TOk p σ) {n:Nat} (hn:n < 1152921504606846976):TOk p { σ with env:={ σ.env with loops:=σ.env.loops ++ [(x,n)] } }:=
 ⟨⟨ok.env.vars,fun t m hm=>by
  have hm:(t,m) ∈ σ.env.loops ++ [(x,n)]:=hm
  rcases List.mem_append.1 hm with hm | hm
  ·exact ok.env.loops t m hm
  ·rw [List.mem_singleton] at hm; cases hm; exact hn,ok.env.wlen,ok.env.words⟩,ok.steps,ok.most⟩
theorem AgE.turn {p:Prg} {x:ByteArray} {ls:List (ByteArray × Nat)} {σ:TS} {s:RS} (hi:Free p x ls σ) (a:AgE p σ.env s) {n:Nat}:AgE p { σ.env with loops:=σ.env.loops ++ [(x,n)] } { s with vars:=setM s.vars x (some n) }:=by
 refine ⟨fun t k w hv=>?_,fun t m hm=>?_,fun t d hd hz=>?_,a.inw,a.wl,a.words⟩
 ·have hv:σ.env.vars t=some (k,w):=hv
  have c:t ≠ x:=fun e=>by rw [e,hi.v] at hv; cases hv
  obtain ⟨v,l1,l2⟩:=a.vars t k w hv
  exact ⟨v,by show setM s.vars x (some n) t=_; rw [setM_get,if_neg c]; exact l1,l2⟩
 ·have hm:findL t (σ.env.loops ++ [(x,n)])=some m:=hm
  rcases findL_snoc hm with h1 | ⟨h1,rfl,rfl⟩
  ·have c:t ≠ x:=fun e=>by rw [e,hi.e,hi.l] at h1; cases h1
   obtain ⟨l1,l2⟩:=a.loops t m h1
   exact ⟨by show setM s.vars x (some n) t=_; rw [setM_get,if_neg c]; exact l1,l2⟩
  ·exact ⟨by show setM s.vars t (some m) t=_; rw [setM_get,if_pos rfl],hi.v⟩
 ·have c:t ≠ x:=fun e=>by rw [e,hi.i] at hd; cases hd
  obtain ⟨w,l1,l2⟩:=a.ins t d hd hz
  exact ⟨w,by show setM s.vars x (some n) t=_; rw [setM_get,if_neg c]; exact l1,l2⟩
theorem findL_snoc_new {x:ByteArray} {n:Nat}:∀ {l:List (ByteArray × Nat)},findL x l=none→findL x (l ++ [(x,n)])=some n
 | [],_=>by simp [findL]
 | (y,k) :: l,h=>by
  simp only [List.cons_append,findL] at h ⊢
  split at h
  ·cases h
  ·rename_i e; rw [if_neg e]; exact findL_snoc_new h
theorem findL_snoc_old {x t:ByteArray} {n m:Nat}:∀ {l:List (ByteArray × Nat)},findL t l=some m→findL t (l ++ [(x,n)])=some m
 | (y,k) :: l,h=>by
  simp only [List.cons_append,findL] at h ⊢
  split at h
  ·rename_i e; rw [if_pos e]; exact h
  ·rename_i e; rw [if_neg e]; exact findL_snoc_old h
theorem turn_run {p:Prg} {x:ByteArray} {ls:List (ByteArray × Nat)} {fa:TS→TR TS} {ga:RS→RS} (hr:RunT p fa ga) (hg:GoodT p fa) {n:Nat} (hn:n < 1152921504606846976) (σ τ:TS) (s:RS) (ok:TOk p σ) (hi:Free p x ls σ) (a:Ag p σ s) (h:turnT x fa n σ=.ok τ) :
  Ag p τ (ga { s with vars:=setM s.vars x (some n) })∧Free p x ls τ:=by
 unfold turnT at h
 obtain ⟨ρ,h1,h⟩:=andT_inv h
 obtain ⟨ρ2,h2,h⟩:=andT_inv h
 obtain ⟨rfl,k1⟩:=stepT_ok ok h1
 have oke:=turn_ext (x:=x) k1.ok hn
 have a0:Ag p ({ σ with steps:=σ.steps + 1,env:={ σ.env with loops:=σ.env.loops ++ [(x,n)] } }:TS) { s with vars:=setM s.vars x (some n) }:=⟨AgE.turn hi a.env,a.told,Nat.le_trans a.few (Nat.le_succ _)⟩
 have k2:=hg _ _ oke h2
 have a2:=hr _ _ _ oke a0 h2
 have hl:ρ2.env.loops=σ.env.loops ++ [(x,n)]:=k2.loops
 cases h
 have hx:=a2.env.loops x n (by rw [hl]; exact findL_snoc_new (by rw [hi.e]; exact hi.l))
 refine ⟨⟨⟨a2.env.vars,fun t m hm=>?_,a2.env.ins,a2.env.inw,a2.env.wl,a2.env.words⟩,a2.told,a2.few⟩,⟨hi.i,hi.a,hi.l,hi.e,hx.2⟩⟩
 have hm:findL t σ.env.loops=some m:=hm
 exact a2.env.loops t m (by rw [hl]; exact findL_snoc_old hm)
theorem for_is {p:Prg} {x:ByteArray} {l:List Kn} {fa:TS→TR TS} {σ τ:TS} (hs:forT p x l fa σ=.ok τ):(nthK l 0).is=true∧(nthK l 1).is=true∧¬ takenT p σ.env x=true ∧
  iterT (turnT x fa) ((nthK l 1).val + 1 - (nthK l 0).val) (nthK l 0).val { σ with env:={ σ.env with vars:=setV σ.env.vars x none } }=.ok τ:=by
 unfold forT at hs
 split at hs
 ·cases hs
 rename_i hc
 split at hs
 ·cases hs
 rename_i ht
 refine ⟨?_,?_,ht,hs⟩
 ·cases q:(nthK l 0).is with
  | true=>rfl
  | false=>exact absurd (.inr (.inr (.inl q))) hc
 ·cases q:(nthK l 1).is with
  | true=>rfl
  | false=>exact absurd (.inr (.inr (.inr q))) hc
theorem for_start {p:Prg} {x:ByteArray} {σ:TS} {s:RS} (a:Ag p σ s) (ok:TOk p σ) (ht:¬ takenT p σ.env x=true) :
  Ag p { σ with env:={ σ.env with vars:=setV σ.env.vars x none } } { s with vars:=setM s.vars x none }∧Free p x σ.env.loops { σ with env:={ σ.env with vars:=setV σ.env.vars x none } }∧TOk p { σ with env:={ σ.env with vars:=setV σ.env.vars x none } }:=by
 obtain ⟨t1,t2,t3⟩:=taken_inv ht
 exact ⟨⟨a.env.set ht (fun k w h=>by cases h),a.told,a.few⟩,⟨t1,t2,t3,rfl,by show setV σ.env.vars x none x=none; unfold setV; rw [if_pos rfl]⟩,⟨ok.env.setV (fun k w h=>by cases h),ok.steps,ok.most⟩⟩
theorem for_end {p:Prg} {x:ByteArray} {ls:List (ByteArray × Nat)} {σ:TS} {s:RS} (a:Ag p σ s) (hi:Free p x ls σ):Ag p σ { s with vars:=setM s.vars x none }:=by
 refine ⟨⟨fun t k w hv=>?_,fun t m hm=>?_,fun t d hd hz=>?_,a.env.inw,a.env.wl,a.env.words⟩,a.told,a.few⟩
 ·have c:t ≠ x:=fun e=>by rw [e,hi.v] at hv; cases hv
  show ∃ v,setM s.vars x none t=some v∧_
  rw [setM_get,if_neg c]; exact a.env.vars t k w hv
 ·have c:t ≠ x:=fun e=>by rw [e,hi.e,hi.l] at hm; cases hm
  show setM s.vars x none t=some m∧_
  rw [setM_get,if_neg c]; exact a.env.loops t m hm
 ·have c:t ≠ x:=fun e=>by rw [e,hi.i] at hd; cases hd
  show ∃ v,setM s.vars x none t=some v∧_
  rw [setM_get,if_neg c]; exact a.env.ins t d hd hz
theorem for_run {p:Prg} {x:ByteArray} {l:List Kn} {vs:List Nat} (hv:VFits vs l) (kl:∀ k ∈ l,KOk k) {fa:TS→TR TS} {ga:RS→RS} (hr:RunT p fa ga) (hg:GoodT p fa):RunT p (forT p x l fa) (forX x (vs.getD 0 0) (vs.getD 1 0) ga):=by
 intro σ τ s ok a h
 obtain ⟨i0,i1,ht,h⟩:=for_is h
 have b1:=(nthK_ok kl 1).lt
 rw [(hv.nth 0).is i0,(hv.nth 1).is i1]
 unfold forX
 obtain ⟨a0,f0,k0⟩:=for_start a ok ht
 by_cases hle:(nthK l 0).val ≤ (nthK l 1).val
 ·obtain ⟨a1,f1⟩:=iter_run (f:=turnT x fa) (g:=fun n s=>ga { s with vars:=setM s.vars x (some n) }) (m:=(nthK l 1).val + 1) (I:=Free p x σ.env.loops) (fun n hn σ τ s ok hi a h=>turn_run hr hg (by omega) σ τ s ok hi a h) (fun n hn=>turnT_ok hg (by omega)) ((nthK l 1).val + 1 - (nthK l 0).val) (nthK l 0).val (by omega) _ τ _ k0 f0 a0 h
  exact for_end a1 f1
 ·rw [show (nthK l 1).val + 1 - (nthK l 0).val=0 by omega,iterT] at h
  rw [show (nthK l 1).val + 1 - (nthK l 0).val=0 by omega,iterX]
  cases h
  exact for_end a0 f0
theorem if_run {p:Prg} {l:List Kn} {vs:List Nat} {fa fb:TS→TR TS} {ga gb:RS→RS} (ra:RunT p fa ga) (rb:RunT p fb gb) (ha:GoodT p fa) (hb:GoodT p fb):RunT p (ifT l fa fb) (fun s=>if vs.getD 0 0=1 then ga s else gb s):=by
 intro σ τ s ok a h
 unfold ifT at h
 split at h
 ·cases h
 obtain ⟨σ1,h1,h⟩:=andT_inv h
 obtain ⟨σ2,h2,h⟩:=andT_inv h
 have k1:=ha { σ with ifs:=σ.ifs + 1 } _ ⟨ok.env,ok.steps,ok.most⟩ h1
 have k2:=hb { σ1 with env:=σ.env } _ ⟨ok.env,k1.ok.steps,k1.ok.most⟩ h2
 have hst1:σ.steps ≤ σ1.steps:=k1.steps
 have hst2:σ1.steps ≤ σ2.steps:=k2.steps
 have hm1:σ.most ≤ σ1.most:=k1.most
 have hm2:σ1.most ≤ σ2.most:=k2.most
 have hl1:σ1.env.loops=σ.env.loops:=k1.loops
 have hl2:σ2.env.loops=σ.env.loops:=k2.loops
 have key:∀ (i:Nat) (a b:List Nat),σ2.env.words[i]?=some a→σ1.env.words[i]?=some b→a.length=b.length:=fun i a b ha hb=>by
  have hil:i < p.arrays.length:=by rw [← k2.ok.env.wlen]; exact (List.getElem?_eq_some_iff.1 ha).1
  have hd:=List.getElem?_eq_getElem hil
  have la:=(k2.ok.env.words i a _ ha hd).1
  have lb:=(k1.ok.env.words i b _ hb hd).1
  omega
 have wl:σ2.env.words.length=σ1.env.words.length:=k2.ok.env.wlen.trans k1.ok.env.wlen.symm
 have lv:∀ x n,findL x σ.env.loops=some n→bothV σ.env.vars σ1.env.vars σ2.env.vars x=none:=fun x n hn=>by
  unfold bothV; rw [(a.env.loops x n hn).2]
 cases h
 show Ag p _ (if vs.getD 0 0=1 then ga s else gb s)
 split
 ·have a1:=ra { σ with ifs:=σ.ifs + 1 } _ s ⟨ok.env,ok.steps,ok.most⟩ ⟨a.env,a.told,a.few⟩ h1
  refine ⟨⟨fun t k w hv=>?_,fun t n hn=>⟨(a1.env.loops t n (by rw [hl1]; exact hn)).1,lv t n hn⟩,a1.env.ins,a1.env.inw,?_,fun i x x' hx hx'=>?_⟩,fun v hv=>Nat.lt_of_lt_of_le (a1.told v hv) (Nat.pow_le_pow_right (by decide) (by show max σ1.most 1 ≤ max σ2.most 1; omega)),Nat.le_trans a1.few hst2⟩
  ·obtain ⟨_,w1,w2,f1,f2,rfl⟩:=both_some hv
   obtain ⟨v,g1,g2,g3⟩:=a1.env.vars t _ _ f1
   exact ⟨v,g1,fun hk=>Nat.lt_of_lt_of_le (g2 hk) (Nat.pow_le_pow_right (by decide) (by omega)),g3⟩
  ·show _=(maxW _ _).length
   unfold maxW; rw [List.length_zipWith,a1.env.wl]; omega
  ·obtain ⟨u,b,f1,f2,rfl⟩:=maxW_get hx
   obtain ⟨m1,m2⟩:=a1.env.words i b x' f2 hx'
   have hab:=key i u b f1 f2
   refine ⟨by rw [List.length_zipWith]; omega,fun n=>?_⟩
   rw [zipmax_getD hab]
   exact Nat.lt_of_lt_of_le (m2 n) (Nat.pow_le_pow_right (by decide) (by omega))
 ·have a1:=rb { σ1 with env:=σ.env } _ s ⟨ok.env,k1.ok.steps,k1.ok.most⟩ (a.mono rfl hst1 hm1) h2
  refine ⟨⟨fun t k w hv=>?_,fun t n hn=>⟨(a1.env.loops t n (by rw [hl2]; exact hn)).1,lv t n hn⟩,a1.env.ins,a1.env.inw,?_,fun i x x' hx hx'=>?_⟩,a1.told,a1.few⟩
  ·obtain ⟨_,w1,w2,f1,f2,rfl⟩:=both_some hv
   obtain ⟨v,g1,g2,g3⟩:=a1.env.vars t _ _ f2
   exact ⟨v,g1,fun hk=>Nat.lt_of_lt_of_le (g2 hk) (Nat.pow_le_pow_right (by decide) (by omega)),g3⟩
  ·show _=(maxW _ _).length
   unfold maxW; rw [List.length_zipWith,a1.env.wl]; omega
  ·obtain ⟨u,b,f1,f2,rfl⟩:=maxW_get hx
   obtain ⟨m1,m2⟩:=a1.env.words i u x' f1 hx'
   have hab:=key i u b f1 f2
   refine ⟨by rw [List.length_zipWith]; omega,fun n=>?_⟩
   rw [zipmax_getD hab]
   exact Nat.lt_of_lt_of_le (m2 n) (Nat.pow_le_pow_right (by decide) (by omega))
theorem set_run {p:Prg} {x:ByteArray} {l:List Kn} {vs:List Nat} (hv:VFits vs l):RunT p (setT p x l) (fun s=>{ s with vars:=setM s.vars x (some (vs.getD 0 0)) }):=by
 intro σ τ s ok a h
 unfold setT at h
 split at h
 ·cases h
 rename_i ht
 cases h
 have h0:=hv.nth 0
 exact ⟨a.env.set ht (fun k w h=>by cases h; exact ⟨_,rfl,h0.num,h0.boo⟩),a.told,a.few⟩
theorem store_inv {p:Prg} {x:ByteArray} {l:List Kn} {σ τ:TS} (h:storeT p x l σ=.ok τ):∃ j d,arOf p x=some j∧p.arrays[j]?=some d∧d.name=x∧(nthK l 0).is=true∧((nthK l 0).val:Int) < d.size∧(nthK l 1).kind=1∧τ={ σ with env:={ σ.env with words:=setW σ.env.words j (nthK l 0).val (nthK l 1).w } }:=by
 unfold storeT at h
 cases c:arOf p x with
 | none=>rw [c] at h; cases h
 | some j =>
  rw [c] at h
  simp only at h
  obtain ⟨n,h1,h2⟩:=andT_inv h
  obtain ⟨d,hd,hn,hg⟩:=arOf_some c
  rw [hg] at h1
  obtain ⟨p1,p2,p3,p4⟩:=placeT_inv h1
  split at h2
  ·cases h2
  ·rename_i hk
   cases h2
   exact ⟨j,d,rfl,hd,hn,p2,by rw [← p3]; exact p4,Decidable.byContradiction hk,by rw [p3]⟩
theorem store_run {p:Prg} {x:ByteArray} {l:List Kn} {vs:List Nat} (hv:VFits vs l):RunT p (storeT p x l) (fun s=>match arOf p x with | some j=>{ s with words:=setW s.words j (vs.getD 0 0) (vs.getD 1 0) } | none=>s):=by
 intro σ τ s ok a h
 obtain ⟨j,d,e1,e2,e3,e4,e5,e6,rfl⟩:=store_inv h
 have h0:=hv.nth 0
 have h1:=hv.nth 1
 rw [e1]
 refine ⟨⟨a.env.vars,a.env.loops,a.env.ins,a.env.inw,by show (setW _ _ _ _).length=(setW _ _ _ _).length; rw [setW_len,setW_len]; exact a.env.wl,fun i u u' hu hu'=>?_⟩,a.told,a.few⟩
 have hu:(setW σ.env.words j (nthK l 0).val (nthK l 1).w)[i]?=some u:=hu
 have hu':(setW s.words j (vs.getD 0 0) (vs.getD 1 0))[i]?=some u':=hu'
 rw [setW_get] at hu hu'
 by_cases cj:i=j
 ·rw [if_pos cj,Option.map_eq_some_iff] at hu hu'
  obtain ⟨y,e,rfl⟩:=hu
  obtain ⟨y',e',rfl⟩:=hu'
  obtain ⟨a1,a2⟩:=a.env.words i y y' e e'
  refine ⟨by rw [List.length_set,List.length_set]; exact a1,fun m=>?_⟩
  have hm:=a2 m
  have q0:=h0.is e4
  have q1:=h1.num e6
  generalize vs.getD 0 0=v0 at *
  generalize vs.getD 1 0=v1 at *
  rw [List.getD_eq_getElem?_getD,List.getD_eq_getElem?_getD,List.getElem?_set,List.getElem?_set,q0]
  rw [List.getD_eq_getElem?_getD,List.getD_eq_getElem?_getD] at hm
  by_cases cn:(nthK l 0).val=m
  ·rw [if_pos cn,if_pos cn,a1]
   split
   ·exact q1
   ·exact Nat.zero_lt_one
  ·rw [if_neg cn,if_neg cn]; exact hm
 ·rw [if_neg cj] at hu hu'
  exact a.env.words i u u' hu hu'
theorem runsX_of {p:Prg} (hp:PV p):∀ {l:List Stm} {lv:Nat},VSs l lv→(∀ x ∈ l,RunT p (stmtT p x) (runX p x))→RunT p (stmtsT p l) (runsX p l)
 | [],lv,hv,ih=>fun σ τ s ok a h=>by rw [stmtsT] at h; cases h; rw [runsX]; exact a
 | x :: xs,lv,hv,ih=>fun σ τ s ok a h=>by
  rw [stmtsT] at h
  obtain ⟨σ1,h1,h2⟩:=andT_inv h
  have hx:=VSs_all.1 hv x (by simp)
  have hxs:VSs xs lv:=VSs_all.2 fun y hy=>VSs_all.1 hv y (by simp [hy])
  have k:Keep p σ σ1:=stmtsT_ok hp (l:=[x]) (VSs_all.2 fun y hy=>by rw [List.mem_singleton] at hy; subst hy; exact hx) _ _ ok (by rw [stmtsT_one']; exact h1)
  rw [runsX]
  exact runsX_of hp hxs (fun y hy=>ih y (by simp [hy])) σ1 τ _ k.ok (ih x (by simp) σ σ1 s ok a h1) h2
theorem stmt_inv {p:Prg} {k:Int} {x:ByteArray} {e:List Exp} {a b:List Stm} {σ τ:TS} (h:stmtT p (.mk k x e a b) σ=.ok τ):∃ l m,stepT σ=.ok { σ with steps:=σ.steps + 1 }∧exprsT p σ.env e=.ok (l,m)∧stmt1 p k x l (stmtsT p a) (stmtsT p b) { σ with steps:=σ.steps + 1,most:=max σ.most m }=.ok τ:=by
 rw [stmtT] at h
 obtain ⟨σ1,h1,h⟩:=andT_inv h
 obtain ⟨⟨l,m⟩,h2,h⟩:=andT_inv h
 have e1:σ1={ σ with steps:=σ.steps + 1 }:=by
  unfold stepT at h1
  split at h1
  ·cases h1
  ·cases h1; rfl
 subst e1
 exact ⟨l,m,h1,h2,h⟩
theorem stmt_run {p:Prg} (hp:PV p) (x:Stm):∀ lv,VS x lv→RunT p (stmtT p x) (runX p x):=by
 induction x using Stm.ind with
 | h k y e a b iha ihb =>
  intro lv hv σ τ s ok ag h
  obtain ⟨v1,v2,v3,v4,v5,v6,v7,v8,v9,v10,v11⟩:=VS_mk.1 hv
  have ra:=runsX_of hp v10 fun x hx=>iha x hx _ (VSs_all.1 v10 x hx)
  have rb:=runsX_of hp v11 fun x hx=>ihb x hx _ (VSs_all.1 v11 x hx)
  have ga:=stmtsT_ok hp v10
  have gb:=stmtsT_ok hp v11
  obtain ⟨l,m,h1,h2,h⟩:=stmt_inv h
  obtain ⟨_,k1⟩:=stepT_ok ok h1
  have vf:=vals_fit ag.env ok.env h2
  obtain ⟨kl,km,kn⟩:=exprsT_ok hp ok.env v9 l m h2
  have ok1:TOk p { σ with steps:=σ.steps + 1,most:=max σ.most m }:=⟨ok.env,k1.ok.steps,by have:=ok.most; show max σ.most m ≤ 60; omega⟩
  have ag1:Ag p { σ with steps:=σ.steps + 1,most:=max σ.most m } s:=ag.mono rfl (Nat.le_succ _) (Nat.le_max_left _ _)
  rw [runX_mk]
  unfold stmt1 at h
  unfold run1
  split at h
  ·rename_i c; rw [if_pos c]; exact set_run vf _ τ s ok1 ag1 h
  rename_i c; rw [if_neg c]
  split at h
  ·rename_i c; rw [if_pos c]; exact store_run vf _ τ s ok1 ag1 h
  rename_i c; rw [if_neg c]
  split at h
  ·rename_i c; rw [if_pos c]; exact if_run (vs:=e.map (valX p s)) ra rb ga gb _ τ s ok1 ag1 h
  rename_i c; rw [if_neg c]
  split at h
  ·rename_i c; rw [if_pos c]; exact for_run vf kl ra ga _ τ s ok1 ag1 h
  rename_i c3; rw [if_neg c3]
  split at h
  ·cases h
  ·cases h
   have k5:e.length=1:=by
    rw [v4,if_neg]
    omega
   refine ⟨⟨ag1.env.vars,ag1.env.loops,ag1.env.ins,ag1.env.inw,ag1.env.wl,ag1.env.words⟩,fun v hv=>?_,by have:=ag.few; show (s.told ++ _).length ≤ _; rw [List.length_append]; show s.told.length + 1 ≤ σ.steps + 1; omega⟩
   have hv:v ∈ s.told ++ [(e.map (valX p s)).getD 0 0]:=hv
   rcases List.mem_append.1 hv with hv | hv
   ·exact ag1.told v hv
   ·rw [List.mem_singleton] at hv
    subst hv
    match e,k5 with
    | [e0],_ =>
    rw [exprsT] at h2
    obtain ⟨⟨r,m0⟩,g1,h2⟩:=andT_inv h2
    rw [exprsT] at h2
    cases h2
    have f0:=val_fit ag.env ok.env e0 r m0 g1
    have kr:=(exprT_ok hp ok.env e0 _ (v9 e0 (by simp)) r m0 g1).1
    show valX p s e0 < _
    rcases kr.kind with hk | hk
    ·have w0:=expr_w g1 hk
     exact Nat.lt_of_lt_of_le (f0.num hk) (Nat.pow_le_pow_right (by decide) (by show r.w ≤ max (max σ.most (max m0 0)) 1; omega))
    ·have:=f0.boo hk
     have h2:(2:Nat) ^ 1 ≤ 2 ^ max (max σ.most (max m0 0)) 1:=Nat.pow_le_pow_right (by decide) (by omega)
     show valX p s e0 < 2 ^ max (max σ.most (max m0 0)) 1
     omega
theorem stmts_run {p:Prg} (hp:PV p) {l:List Stm} {lv:Nat} (hv:VSs l lv):RunT p (stmtsT p l) (runsX p l):=runsX_of hp hv fun x hx=>stmt_run hp x _ (VSs_all.1 hv x hx)
end Go.Ab
namespace Go.Ab
def WordsAt (h:H) (v:V) (ws:List Nat):Prop:=
 v=.vec (Ws ws) .any∨(∃ id:Nat,id < h.next∧v=.ref id 0 ws.length 1∧h.get id=some (Ws ws))
def ListsAt (h:H) (v:V) (ls:List (List Nat)):Prop:=
 ∃ vs:List V,vs.length=ls.length∧(∀ (i:Nat) (x:V) (ws:List Nat),vs[i]?=some x→ls[i]?=some ws→WordsAt h x ws) ∧
  (v=.vec vs .any∨(∃ id:Nat,id < h.next∧v=.ref id 0 vs.length 1∧h.get id=some vs))
theorem WordsAt.frame {h h':H} {v:V} {ws:List Nat} (a:WordsAt h v ws) (hn:h.next ≤ h'.next) (e:∀ j,j < h.next→h'.objs j=h.objs j):WordsAt h' v ws:=by
 rcases a with a | ⟨id,h1,h2,h3⟩
 ·exact .inl a
 ·exact .inr ⟨id,Nat.lt_of_lt_of_le h1 hn,h2,by unfold H.get at h3 ⊢; rw [e id h1]; exact h3⟩
theorem ListsAt.frame {h h':H} {v:V} {ls:List (List Nat)} (a:ListsAt h v ls) (hn:h.next ≤ h'.next) (e:∀ j,j < h.next→h'.objs j=h.objs j):ListsAt h' v ls:=by
 obtain ⟨vs,h1,h2,h3⟩:=a
 refine ⟨vs,h1,fun i x ws hx hw=>(h2 i x ws hx hw).frame hn e,?_⟩
 rcases h3 with h3 | ⟨id,h4,h5,h6⟩
 ·exact .inl h3
 ·exact .inr ⟨id,Nat.lt_of_lt_of_le h4 hn,h5,by unfold H.get at h6 ⊢; rw [e id h4]; exact h6⟩
theorem WordsAt.out {h:H} {v:V} {ws:List Nat} (a:WordsAt h v ws):v.out=some v∧v.cells=[v]∧v.stays=true∧∀ h1:H,lenOfV h1 .i v=some (I ws.length):=by
 rcases a with rfl | ⟨id,_,rfl,_⟩
 ·exact ⟨rfl,rfl,rfl,fun _=>by simp [lenOfV,Ws_length]⟩
 ·exact ⟨rfl,rfl,rfl,fun _=>rfl⟩
theorem ListsAt.out {h:H} {v:V} {ls:List (List Nat)} (a:ListsAt h v ls):v.out=some v∧v.cells=[v]∧v.stays=true∧∀ h1:H,lenOfV h1 .i v=some (I ls.length):=by
 obtain ⟨vs,h1,_,rfl | ⟨id,_,rfl,_⟩⟩:=a
 ·exact ⟨rfl,rfl,rfl,fun _=>by simp [lenOfV,h1]⟩
 ·exact ⟨rfl,rfl,rfl,fun _=>by simp [lenOfV,h1]⟩
theorem get1 {cs:List V} {i:Nat} {v:V} (hi:cs[i]?=some v):takeV cs i 1 false=some v:=by simp [takeV,hi]
theorem WordsAt.idx {h:H} {v:V} {ws:List Nat} (a:WordsAt h v ws) {i:Nat} (hi:i < ws.length) :
  ∃ p,idxSV v (.int .i64 (i:Int)) 1=some p∧∀ m,loadV m h p 1 false=some (.int .u64 ((ws[i]:Nat):Int)):=by
 have hg:(Ws ws)[i]?=some (W ws[i]):=by rw [Ws_get,List.getElem?_eq_getElem hi]; rfl
 rcases a with rfl | ⟨id,_,rfl,h3⟩
 ·refine ⟨.iptr [W ws[i]],?_,fun m=>rfl⟩
  simp only [idxSV,Int.natCast_nonneg,if_true,Int.toNat_natCast,hg]
  rfl
 ·refine ⟨.ptr id (0 + i * 1),?_,fun m=>?_⟩
  ·simp only [idxSV,Int.natCast_nonneg,Int.toNat_natCast]
   rw [if_pos ⟨trivial,by omega,trivial⟩]
  ·simp only [loadV,h3]
   exact get1 (by rw [Nat.zero_add,Nat.mul_one]; exact hg)
theorem ListsAt.idx {h:H} {v:V} {ls:List (List Nat)} (a:ListsAt h v ls) {i:Nat} (hi:i < ls.length) :
  ∃ p x,idxSV v (.int .i64 (i:Int)) 1=some p∧(∀ m,loadV m h p 1 false=some x)∧WordsAt h x ls[i]:=by
 obtain ⟨vs,h1,h2,h3⟩:=a
 have hi':i < vs.length:=by omega
 have hw:WordsAt h vs[i] ls[i]:=h2 i _ _ (List.getElem?_eq_getElem hi') (List.getElem?_eq_getElem hi)
 have hg:vs[i]?=some vs[i]:=List.getElem?_eq_getElem hi'
 rcases h3 with rfl | ⟨id,_,rfl,h5⟩
 ·refine ⟨.iptr [vs[i]],vs[i],?_,fun m=>rfl,hw⟩
  simp only [idxSV,Int.natCast_nonneg,if_true,Int.toNat_natCast,hg,hw.out.2.1,List.length_cons,List.length_nil]
 ·refine ⟨.ptr id (0 + i * 1),vs[i],?_,fun m=>?_,hw⟩
  ·simp only [idxSV,Int.natCast_nonneg,Int.toNat_natCast]
   rw [if_pos ⟨trivial,by omega,trivial⟩]
  ·simp only [loadV,h5]
   exact get1 (by rw [Nat.zero_add,Nat.mul_one]; exact hg)
end Go.Ab
namespace Go.Ab
structure Ik where
 x:Nat
 v:Nat
 w:Nat
 t:Nat
 tv:V
 es:List (ByteArray × Nat)
 ws:List (ByteArray × Nat × Nat)
def Ik.own (L:Ik):List Nat:=[L.x,L.v,L.w,L.t] ++ L.ws.map fun r=>r.2.1
def wV (n:Nat):V:=W n
structure AtI (p:Prg) (L:Ik) (s:RS) (h:H):Prop where
 x:h.objs L.x=some (.cells [.map L.v,.map L.w,L.tv])
 v:∃ ver,h.objs L.v=some (.map (mapO wV L.es) ver)
 w:∃ ver,h.objs L.w=some (.map (mapO refV L.ws) ver)
 es:∀ y,findL y L.es=s.vars y
 esn:(L.es.map (·.1)).Nodup
 ars:∀ (i:Nat) (d:ArD),p.arrays[i]?=some d→∃ id ws,s.words[i]?=some ws∧findL d.name L.ws=some (id,ws.length)∧h.objs id=some (.cells (Ws ws))
 inw:∀ (y:ByteArray) (d:InD),inOf p y=some d→d.size ≠ 0→∃ id,findL y L.ws=some (id,(s.inw y).length)∧h.objs id=some (.cells (Ws (s.inw y)))
 told:Grow h 1 (s.told.map fun n=>[W n]) L.t L.tv
 wsn:(L.ws.map (·.1)).Nodup
 nd:L.own.Nodup
 lt:∀ id ∈ L.own,id < h.next
structure FrI (L L':Ik) (h h':H):Prop where
 nx:h.next ≤ h'.next
 x:L'.x=L.x
 same:∀ id,id < h.next→id ∉ L.own→h'.objs id=h.objs id
 own:∀ id ∈ L'.own,id ∈ L.own∨h.next ≤ id
theorem FrI.refl (L:Ik) (h:H):FrI L L h h:=⟨Nat.le_refl _,rfl,fun _ _ _=>rfl,fun _ hi=>.inl hi⟩
theorem FrI.trans {L L' L'':Ik} {h h' h'':H} (a:FrI L L' h h') (b:FrI L' L'' h' h''):FrI L L'' h h'':=
 ⟨Nat.le_trans a.nx b.nx,b.x.trans a.x,fun id hl hn=>by
  rw [b.same id (Nat.lt_of_lt_of_le hl a.nx) (fun hi=>(a.own id hi).elim hn (fun hh=>absurd hl (Nat.not_lt.2 hh)))]
  exact a.same id hl hn,fun id hi=>(b.own id hi).elim (fun hh=>a.own id hh) (fun hh=>.inr (Nat.le_trans a.nx hh))⟩
theorem Ik.dist {L:Ik} (h:L.own.Nodup):(L.x ≠ L.v∧L.x ≠ L.w∧L.x ≠ L.t∧L.x ∉ L.ws.map fun r=>r.2.1)∧(L.v ≠ L.w∧L.v ≠ L.t∧L.v ∉ L.ws.map fun r=>r.2.1)∧(L.w ≠ L.t∧L.w ∉ L.ws.map fun r=>r.2.1)∧(L.t ∉ L.ws.map fun r=>r.2.1)∧(L.ws.map fun r=>r.2.1).Nodup:=by
 simp only [Ik.own,List.cons_append,List.nil_append,List.nodup_cons,List.mem_cons,not_or] at h
 exact ⟨h.1,h.2.1,h.2.2.1,h.2.2.2.1,h.2.2.2.2⟩
theorem Ik.mem {L:Ik}:L.x ∈ L.own∧L.v ∈ L.own∧L.w ∈ L.own∧L.t ∈ L.own:=by simp [Ik.own]
theorem Ik.ws_mem {L:Ik} {y:ByteArray} {id n:Nat} (h:findL y L.ws=some (id,n)):(id ∈ L.ws.map fun r=>r.2.1)∧id ∈ L.own:=by
 have hm:id ∈ L.ws.map fun r=>r.2.1:=List.mem_map.2 ⟨_,findL_mem h,rfl⟩
 exact ⟨hm,by unfold Ik.own; exact List.mem_append_right _ hm⟩
theorem W_and {a b:Nat} (ha:a ≤ 1) (hb:b ≤ 1):bits2 .and .u64 (a:Int) (b:Int)=some (W (oneIf (a=1∧b=1))):=by
 have h1:a=0∨a=1:=by omega
 have h2:b=0∨b=1:=by omega
 rcases h1 with rfl | rfl <;> rcases h2 with rfl | rfl <;> rfl
theorem W_or {a b:Nat} (ha:a ≤ 1) (hb:b ≤ 1):bits2 .or .u64 (a:Int) (b:Int)=some (W (oneIf (a=1∨b=1))):=by
 have h1:a=0∨a=1:=by omega
 have h2:b=0∨b=1:=by omega
 rcases h1 with rfl | rfl <;> rcases h2 with rfl | rfl <;> rfl
theorem opX_1 {a b:Nat}:opX 1 a b=a + b:=rfl
theorem opX_2 {a b:Nat}:opX 2 a b=a - b:=rfl
theorem opX_3 {a b:Nat}:opX 3 a b=a * b:=rfl
theorem opX_4 {a b:Nat}:opX 4 a b=oneIf (a < b):=rfl
theorem opX_5 {a b:Nat}:opX 5 a b=oneIf (a=b):=rfl
theorem opX_6 {a b:Nat}:opX 6 a b=oneIf (a=1∧b=1):=rfl
theorem opX_7 {a b:Nat}:opX 7 a b=oneIf (a=1∨b=1):=rfl
theorem VFit.lt {k:Kn} {v:Nat} (h:VFit k v) (hk:KOk k):v < 1152921504606846976:=by
 rcases hk.kind with h1 | h1
 ·exact Nat.lt_of_lt_of_le (h.num h1) (Nat.le_trans (Nat.pow_le_pow_right (by decide) hk.w) (by decide))
 ·have:=h.boo h1; omega
theorem expr_mk_inv {p:Prg} {σ:TE} {k o:Int} {n:Nat} {x:ByteArray} {ks:List Exp} {r:Kn} {m:Nat} (h:exprT p σ (.mk k o n x ks)=.ok (r,m)):∃ l ml,exprsT p σ ks=.ok (l,ml)∧madeT p σ k o n x l=.ok r:=by
 rw [exprT] at h
 obtain ⟨⟨l,ml⟩,h1,h⟩:=andT_inv h
 obtain ⟨q,h2,h⟩:=andT_inv h
 have hq:r=q:=(toldT_ok h).1
 subst hq
 exact ⟨l,ml,h1,h2⟩
theorem exprs_all {p:Prg} {σ:TE}:∀ {l:List Exp} {ks:List Kn} {m:Nat},exprsT p σ l=.ok (ks,m)→∀ x ∈ l,∃ r m',exprT p σ x=.ok (r,m')
 | e :: es,ks,m,h,x,hx=>by
  rw [exprsT] at h
  obtain ⟨⟨a,ma⟩,h1,h⟩:=andT_inv h
  obtain ⟨⟨b,mb⟩,h2,h⟩:=andT_inv h
  rcases List.mem_cons.1 hx with rfl | hx
  ·exact ⟨a,ma,h1⟩
  ·exact exprs_all h2 x hx
theorem oneIf_true {c:Prop} [Decidable c] (h:c):oneIf c=1:=if_pos h
theorem oneIf_false {c:Prop} [Decidable c] (h:¬ c):oneIf c=0:=if_neg h
theorem AtI.index {p:Prg} {σ:TE} {L:Ik} {s:RS} {h:H} (A:AtI p L s h) (ag:AgE p σ s) (ok:EOkT p σ) {x:ByteArray} {k r:Kn} {v:Nat} (hv:VFit k v) (ht:indexT p σ x k=.ok r) :
  ∃ id len,findL x L.ws=some (id,len)∧v < len∧∃ ws,h.get id=some (Ws ws)∧ws.length=len∧ws[v]?=some (rdX p s x v):=by
 obtain ⟨_,hh⟩:=ag.index ok hv ht
 rcases hh with ⟨j,d,e1,e2,e3,e4,e5,e6⟩ | ⟨d,e1,e2,e3,e4,e5⟩
 ·obtain ⟨id,ws,f1,f2,f3⟩:=A.ars j d e2
  have g:s.words.getD j []=ws:=by rw [List.getD_eq_getElem?_getD,f1]; rfl
  rw [e3] at f2
  rw [g] at e6
  refine ⟨id,ws.length,f2,e6,ws,get_of f3,rfl,?_⟩
  unfold rdX
  rw [e1]
  simp only
  rw [g,List.getD_eq_getElem?_getD,List.getElem?_eq_getElem e6]; rfl
 ·obtain ⟨id,f1,f2⟩:=A.inw x d e2 e3
  refine ⟨id,_,f1,e5,s.inw x,get_of f2,rfl,?_⟩
  unfold rdX
  rw [e1]
  simp only
  rw [List.getD_eq_getElem?_getD,List.getElem?_eq_getElem e5]; rfl
namespace YtljoifdccjcidaaDoor
section
variable {h:H} {K:Out→H→Prop} {p:Prg} {L:Ik} {s:RS}
theorem truthI {b:Bool} (hK:K (.ret (W (oneIf (b=true)))) h):R 62 [.bool b] h K:=by
 refine run62 (Nat.le_of_ble_eq_true rfl) ?_
 cases b with
 | false =>
  simp -dsimp -implicitDefEqProofs only [↓STP,STQ,seval,ir62]
  exact hK
 | true =>
  simp -dsimp -implicitDefEqProofs only [↓STP,STQ,seval,ir62]
  exact hK
def SpV (p:Prg) (e:Exp):Prop:=∀ (σ:TE) (L:Ik) (s:RS) (h:H) (K:Out→H→Prop) (r:Kn) (m:Nat),AtI p L s h→AgE p σ s→EOkT p σ→exprT p σ e=.ok (r,m)→K (.ret (W (valX p s e))) h→R 44 [.ptr L.x 0,e.v] h K
theorem valueI (hp:PV p) (e:Exp):∀ lv,VE e lv→EOk e→SpV p e:=by
 induction e using Exp.ind with
 | h k o n x ks ih =>
  intro lv hv okE σ L s h K r m A ag okt ht hK
  obtain ⟨v1,v2,v3,v4,v5,v6,v7,v8,v9⟩:=VE_mk.1 hv
  obtain ⟨hk,ho,hn,hs,hl,hks⟩:=EOk_mk okE
  obtain ⟨l,ml,t1,t2⟩:=expr_mk_inv ht
  have vf:=vals_fit ag okt t1
  have ka:=exprs_all t1
  obtain ⟨kl,km,kn⟩:=exprsT_ok hp okt v9 l ml t1
  have rk:=(exprT_ok hp okt _ lv hv r m ht).1
  have rf:=val_fit ag okt _ r m ht
  have rlt:=rf.lt rk
  have gx:=get_of A.x
  rw [valX_mk] at hK rf rlt
  unfold valOf at hK rf rlt
  have hkk:k=1∨k=2∨k=3∨k=4∨k=5∨k=6:=by
   unfold kidsN at v2
   repeat' split at v2
   all_goals omega
  have f0:=vf.nth 0
  have f1:=vf.nth 1
  have l0:=f0.lt (nthK_ok kl 0)
  have l1:=f1.lt (nthK_ok kl 1)
  unfold madeT at t2
  refine run44 (Nat.le_of_ble_eq_true rfl) ?_
  rcases hkk with rfl | rfl | rfl | rfl | rfl | rfl
  ·rw [if_pos rfl] at hK
   simp -dsimp -implicitDefEqProofs only [↓STP,STQ,seval,Exp.v_mk,ir44]
   exact hK
  ·rw [if_neg (by decide),if_pos rfl] at hK t2
   obtain ⟨ver,hvv⟩:=A.v
   obtain ⟨v,e1,e2⟩:=ag.name t2
   have e3:findL x L.es=some v:=by rw [A.es,e1]
   rw [e1,Option.getD_some] at hK
   simp -dsimp -implicitDefEqProofs only [↓STP,STQ,seval,Exp.v_mk,ir44,gx,lkp_one hvv,e3,map_some',getD_some,wV]
   exact hK
  ·rw [if_neg (by decide),if_neg (by decide),if_pos rfl] at hK t2
   obtain ⟨e0,rfl⟩:=len1 (l:=ks) (by have:kidsN 3=1:=rfl; omega)
   obtain ⟨r0,m0',q0⟩:=ka e0 (by simp)
   obtain ⟨id,len,g1,g2,ws,g3,g4,g5⟩:=A.index ag okt f0 t2
   have g6:(Ws ws)[valX p s e0]?=some (W (rdX p s x (valX p s e0))):=by rw [Ws_get]; rw [show ws[valX p s e0]?=some (rdX p s x (valX p s e0)) from g5]; rfl
   have g2:valX p s e0 < len:=g2
   have hK:K (.ret (W (rdX p s x (valX p s e0)))) h:=hK
   obtain ⟨ver,hw⟩:=A.w
   simp -dsimp -implicitDefEqProofs only [↓STP,STQ,seval,Exp.v_mk,ir44,gx,lkp_one hw,g1,map_some',getD_some,refV,List.map_cons,List.map_nil,Exp.v_clen,Exp.v_tk,Exp.v_ag,Exp.v_out]
   refine ih e0 (by simp) _ (v9 e0 (by simp)) (hks e0 (by simp)) σ L s h _ r0 m0' A ag okt q0 ?_
   simp -dsimp -implicitDefEqProofs only [↓STP,STQ,seval,gx,lkp_one hw,g1,g3,g6,map_some',getD_some,refV,Int.ofNat_lt,g2,Nat.mul_one]
   exact hK
  ·rw [if_neg (by decide),if_neg (by decide),if_neg (by decide),if_pos rfl] at hK rf rlt t2
   obtain ⟨e0,e1,rfl⟩:=len2 (l:=ks) (by have:kidsN 4=2:=rfl; omega)
   obtain ⟨r0,m0',q0⟩:=ka e0 (by simp)
   obtain ⟨r1,m1',q1⟩:=ka e1 (by simp)
   obtain ⟨o1,o7⟩:=v5 rfl
   have hK:K (.ret (W (opX o (valX p s e0) (valX p s e1)))) h:=hK
   have rlt:opX o (valX p s e0) (valX p s e1) < 1152921504606846976:=rlt
   have l0:valX p s e0 < 1152921504606846976:=l0
   have l1:valX p s e1 < 1152921504606846976:=l1
   have kk:(nthK l 0).kind=opKind o∧(nthK l 1).kind=opKind o:=by
    unfold opK at t2
    split at t2
    ·cases t2
    ·rename_i hc
     exact ⟨Decidable.byContradiction fun q=>hc (.inl q),Decidable.byContradiction fun q=>hc (.inr q)⟩
   have b0:opKind o=2→valX p s e0 ≤ 1:=fun hh=>f0.boo (kk.1.trans hh)
   have b1:opKind o=2→valX p s e1 ≤ 1:=fun hh=>f1.boo (kk.2.trans hh)
   simp -dsimp -implicitDefEqProofs only [↓STP,STQ,seval,Exp.v_mk,ir44,List.map_cons,List.map_nil,Exp.v_clen,Exp.v_tk,Exp.v_ag,Exp.v_out]
   refine ih e0 (by simp) _ (v9 e0 (by simp)) (hks e0 (by simp)) σ L s h _ r0 m0' A ag okt q0 ?_
   simp -dsimp -implicitDefEqProofs only [↓STP,STQ,seval,List.map_cons,List.map_nil,Exp.v_clen,Exp.v_tk,Exp.v_ag,Exp.v_out]
   refine ih e1 (by simp) _ (v9 e1 (by simp)) (hks e1 (by simp)) σ L s h _ r1 m1' A ag okt q1 ?_
   generalize valX p s e0=a at *
   generalize valX p s e1=b at *
   have oo:o=1∨o=2∨o=3∨o=4∨o=5∨o=6∨o=7:=by omega
   rcases oo with rfl | rfl | rfl | rfl | rfl | rfl | rfl
   ·rw [opX_1] at hK rlt
    have w:=wuadd (show a + b < 18446744073709551616 by omega)
    simp -dsimp -implicitDefEqProofs only [↓STP,STQ,seval,w]
    exact hK
   ·rw [opX_2] at hK
    have hm:(if (b:Int) < (a:Int) then (b:Int) else (a:Int))=((min a b:Nat):Int):=by split <;> omega
    have w:IntKind.u64.wrap ((a:Int) - ((min a b:Nat):Int))=((a - b:Nat):Int):=by rw [wrap_u64_self] <;> omega
    simp -dsimp -implicitDefEqProofs only [↓STP,STQ,seval,minV_two,hm,w]
    exact hK
   ·rw [opX_3] at hK rlt
    have w:IntKind.u64.wrap ((a:Int) * (b:Int))=((a * b:Nat):Int):=by rw [← Int.natCast_mul,wrap_u64_self] <;> omega
    simp -dsimp -implicitDefEqProofs only [↓STP,STQ,seval,w]
    exact hK
   ·rw [opX_4] at hK
    simp -dsimp -implicitDefEqProofs only [↓STP,STQ,seval]
    refine truthI ?_
    simp -dsimp -implicitDefEqProofs only [↓STP,STQ,seval]
    rw [show oneIf (decide ((a:Int) < (b:Int))=true)=oneIf (a < b) by unfold oneIf; simp]
    exact hK
   ·rw [opX_5] at hK
    simp -dsimp -implicitDefEqProofs only [↓STP,STQ,seval]
    refine truthI ?_
    simp -dsimp -implicitDefEqProofs only [↓STP,STQ,seval]
    rw [show oneIf (decide ((a:Int)=(b:Int))=true)=oneIf (a=b) by unfold oneIf; simp [Int.ofNat_inj]]
    exact hK
   ·rw [opX_6] at hK
    have w:=W_and (b0 rfl) (b1 rfl)
    simp -dsimp -implicitDefEqProofs only [↓STP,STQ,seval,w]
    exact hK
   ·rw [opX_7] at hK
    have w:=W_or (b0 rfl) (b1 rfl)
    simp -dsimp -implicitDefEqProofs only [↓STP,STQ,seval,w]
    exact hK
  ·rw [if_neg (by decide),if_neg (by decide),if_neg (by decide),if_neg (by decide),if_pos rfl] at hK t2
   obtain ⟨e0,rfl⟩:=len1 (l:=ks) (by have:kidsN 5=1:=rfl; omega)
   obtain ⟨r0,m0',q0⟩:=ka e0 (by simp)
   have b0:valX p s e0 ≤ 1:=by
    refine f0.boo ?_
    split at t2
    ·cases t2
    ·rename_i hc; exact Decidable.byContradiction hc
   have hK:K (.ret (W (1 - valX p s e0))) h:=hK
   have w1:IntKind.u64.wrap (1 - (valX p s e0:Int))=((1 - valX p s e0:Nat):Int):=by rw [wrap_u64_self] <;> omega
   simp -dsimp -implicitDefEqProofs only [↓STP,STQ,seval,Exp.v_mk,ir44,List.map_cons,List.map_nil,Exp.v_clen,Exp.v_tk,Exp.v_ag,Exp.v_out]
   refine ih e0 (by simp) _ (v9 e0 (by simp)) (hks e0 (by simp)) σ L s h _ r0 m0' A ag okt q0 ?_
   simp -dsimp -implicitDefEqProofs only [↓STP,STQ,seval,w1]
   exact hK
  ·rw [if_neg (by decide),if_neg (by decide),if_neg (by decide),if_neg (by decide),if_neg (by decide)] at hK
   obtain ⟨e0,e1,e2,rfl⟩:=len3 (l:=ks) (by have:kidsN 6=3:=rfl; omega)
   obtain ⟨r0,m0',q0⟩:=ka e0 (by simp)
   obtain ⟨r1,m1',q1⟩:=ka e1 (by simp)
   obtain ⟨r2,m2',q2⟩:=ka e2 (by simp)
   have hK:K (.ret (W (if valX p s e0=1 then valX p s e1 else valX p s e2))) h:=hK
   simp -dsimp -implicitDefEqProofs only [↓STP,STQ,seval,Exp.v_mk,ir44,List.map_cons,List.map_nil,Exp.v_clen,Exp.v_tk,Exp.v_ag,Exp.v_out]
   refine ih e0 (by simp) _ (v9 e0 (by simp)) (hks e0 (by simp)) σ L s h _ r0 m0' A ag okt q0 ?_
   by_cases c:valX p s e0=1
   ·rw [if_pos c] at hK
    have c':((valX p s e0:Nat):Int)=1:=by omega
    simp -dsimp -implicitDefEqProofs only [↓STP,STQ,seval,eq_true c',List.map_cons,List.map_nil,Exp.v_clen,Exp.v_tk,Exp.v_ag,Exp.v_out]
    refine ih e1 (by simp) _ (v9 e1 (by simp)) (hks e1 (by simp)) σ L s h _ r1 m1' A ag okt q1 ?_
    simp -dsimp -implicitDefEqProofs only [↓STP,STQ,seval]
    exact hK
   ·rw [if_neg c] at hK
    have c':¬ ((valX p s e0:Nat):Int)=1:=by omega
    simp -dsimp -implicitDefEqProofs only [↓STP,STQ,seval,eq_false c',List.map_cons,List.map_nil,Exp.v_clen,Exp.v_tk,Exp.v_ag,Exp.v_out]
    refine ih e2 (by simp) _ (v9 e2 (by simp)) (hks e2 (by simp)) σ L s h _ r2 m2' A ag okt q2 ?_
    simp -dsimp -implicitDefEqProofs only [↓STP,STQ,seval]
    exact hK
end
end YtljoifdccjcidaaDoor
end Go.Ab
namespace Go.Ab
theorem Grow.same {h h':H} {sz j:Nat} {css:List (List V)} {v:V} (g:Grow h sz css j v) (e:h'.objs j=h.objs j):Grow h' sz css j v:=g.frame fun _=>e
theorem AtI.vars {p:Prg} {L:Ik} {s:RS} {h h':H} (A:AtI p L s h) (hn:h'.next=h.next) (same:∀ j,j ≠ L.v→h'.objs j=h.objs j) {es':List (ByteArray × Nat)} (hv:∃ ver,h'.objs L.v=some (.map (mapO wV es') ver)) {vars':ByteArray→Option Nat} (he:∀ y,findL y es'=vars' y) (hk:(es'.map (·.1)).Nodup) :
  AtI p { L with es:=es' } { s with vars:=vars' } h'∧FrI L { L with es:=es' } h h':=by
 obtain ⟨⟨xv,xw,xt,xn⟩,⟨vw,vt,vn⟩,⟨wt,wn⟩,tn,_⟩:=Ik.dist A.nd
 refine ⟨⟨?_,hv,?_,he,hk,fun i d hd=>?_,fun y d hd hz=>?_,A.told.same (same _ vt.symm),A.wsn,A.nd,fun id hi=>by rw [hn]; exact A.lt id hi⟩,⟨Nat.le_of_eq hn.symm,rfl,fun id _ hno=>same id fun e=>hno (by rw [e]; exact Ik.mem.2.1),fun id hi=>.inl hi⟩⟩
 ·show h'.objs L.x=_; rw [same _ xv]; exact A.x
 ·show ∃ ver,h'.objs L.w=_; rw [same _ vw.symm]; exact A.w
 ·obtain ⟨id,ws,a,b,c⟩:=A.ars i d hd
  exact ⟨id,ws,a,b,by rw [same _ (fun e=>vn (e ▸ (Ik.ws_mem b).1))]; exact c⟩
 ·obtain ⟨id,b,c⟩:=A.inw y d hd hz
  exact ⟨id,b,by rw [same _ (fun e=>vn (e ▸ (Ik.ws_mem b).1))]; exact c⟩
theorem AtI.put {p:Prg} {L:Ik} {s:RS} {h:H} (A:AtI p L s h) (y:ByteArray) (n:Nat):∃ ver',mupV h .s (.map L.v) (.str y) (W n)=some (h.set L.v (.map (mapO wV (setE y n L.es)) ver')) ∧
  AtI p { L with es:=setE y n L.es } { s with vars:=setM s.vars y (some n) } (h.set L.v (.map (mapO wV (setE y n L.es)) ver'))∧FrI L { L with es:=setE y n L.es } h (h.set L.v (.map (mapO wV (setE y n L.es)) ver')):=by
 obtain ⟨ver,hv⟩:=A.v
 obtain ⟨ver',hup⟩:=mup_ok (f:=wV) (s:=y) (v:=n) hv
 exact ⟨ver',hup,A.vars (h':=h.set L.v (.map (mapO wV (setE y n L.es)) ver')) rfl (fun j hj=>by rw [set_objs,if_neg hj]) (es':=setE y n L.es) ⟨ver',by rw [set_objs,if_pos rfl]⟩ (fun t=>by rw [findL_setE,A.es]; rfl) (nodup_setE A.esn)⟩
theorem AtI.del {p:Prg} {L:Ik} {s:RS} {h:H} (A:AtI p L s h) (y:ByteArray):∃ h',mdelV h .s (.map L.v) (.str y)=some h' ∧
  AtI p { L with es:=delE y L.es } { s with vars:=setM s.vars y none } h'∧FrI L { L with es:=delE y L.es } h h':=by
 obtain ⟨ver,hv⟩:=A.v
 obtain ⟨h',hmd,n1,s1,v1⟩:=mdel_ok (s:=y) hv
 exact ⟨h',hmd,A.vars n1 s1 v1 (fun t=>by rw [findL_delE A.esn,A.es]; rfl) (List.Nodup.sublist sub_delE A.esn)⟩
theorem nodup_inj {α β:Type} {f:α→β}:∀ {l:List α},(l.map f).Nodup→∀ {x y:α},x ∈ l→y ∈ l→f x=f y→x=y
 | a :: l,h,x,y,hx,hy,e=>by
  rw [List.map_cons,List.nodup_cons] at h
  rcases List.mem_cons.1 hx with g1 | g1
  ·rcases List.mem_cons.1 hy with g2 | g2
   ·rw [g1,g2]
   ·exact absurd (List.mem_map.2 ⟨y,g2,by rw [← e,g1]⟩) h.1
  ·rcases List.mem_cons.1 hy with g2 | g2
   ·exact absurd (List.mem_map.2 ⟨x,g1,by rw [e,g2]⟩) h.1
   ·exact nodup_inj h.2 g1 g2 e
theorem ne_of_mem {a b:Nat} {l:List Nat} (h:a ∉ l) (hb:b ∈ l):b ≠ a:=fun e=>h (e ▸ hb)
theorem nodup_at {α β:Type} {f:α→β}:∀ {l:List α},(l.map f).Nodup→∀ {i j:Nat} {x y:α},l[i]?=some x→l[j]?=some y→f x=f y→i=j
 | a :: l,h,0,0,x,y,hx,hy,e=>rfl
 | a :: l,h,i + 1,0,x,y,hx,hy,e=>by
  rw [List.map_cons,List.nodup_cons] at h
  simp at hx hy
  exact absurd (List.mem_map.2 ⟨x,List.mem_of_getElem? hx,by rw [e,hy]⟩) h.1
 | a :: l,h,0,j + 1,x,y,hx,hy,e=>by
  rw [List.map_cons,List.nodup_cons] at h
  simp at hx hy
  exact absurd (List.mem_map.2 ⟨y,List.mem_of_getElem? hy,by rw [← e,hx]⟩) h.1
 | a :: l,h,i + 1,j + 1,x,y,hx,hy,e=>by
  rw [List.map_cons,List.nodup_cons] at h
  simp at hx hy
  rw [nodup_at h.2 hx hy e]
theorem nodup_ids {ws:List (ByteArray × Nat × Nat)} (h:(ws.map fun r=>r.2.1).Nodup) {a b:ByteArray} {i j n m:Nat} (ha:findL a ws=some (i,n)) (hb:findL b ws=some (j,m)) (hab:a ≠ b):i ≠ j:=fun e=>by
 have h3:=nodup_inj h (findL_mem ha) (findL_mem hb) e
 cases h3
 exact hab rfl
theorem Ws_set {l:List Nat} {i n:Nat}:(Ws l).set i (W n)=Ws (l.set i n):=by simp [Ws,List.map_set]
theorem AtI.word {p:Prg} (hp:PV p) {L:Ik} {s:RS} {h:H} (A:AtI p L s h) {j:Nat} {d:ArD} {ws:List Nat} {id n v:Nat} (hd:p.arrays[j]?=some d) (hj:s.words[j]?=some ws) (hf:findL d.name L.ws=some (id,ws.length)) :
  AtI p L { s with words:=setW s.words j n v } (h.set id (.cells (Ws (ws.set n v))))∧FrI L L h (h.set id (.cells (Ws (ws.set n v)))):=by
 obtain ⟨⟨xv,xw,xt,xn⟩,⟨vw,vt,vn⟩,⟨wt,wn⟩,tn,wnd⟩:=Ik.dist A.nd
 have hm:=Ik.ws_mem hf
 have ne:∀ {i:Nat},i ∉ L.ws.map (fun r=>r.2.1)→i ≠ id:=fun hn e=>hn (e ▸ hm.1)
 refine ⟨⟨?_,?_,?_,A.es,A.esn,fun i e he=>?_,fun y e he hz=>?_,A.told.same (by rw [set_objs,if_neg (ne tn)]),A.wsn,A.nd,A.lt⟩,⟨Nat.le_refl _,rfl,fun i _ hno=>by rw [set_objs,if_neg (fun e=>hno (by rw [e]; exact hm.2))],fun i hi=>.inl hi⟩⟩
 ·rw [set_objs,if_neg (ne xn)]; exact A.x
 ·rw [set_objs,if_neg (ne vn)]; exact A.v
 ·rw [set_objs,if_neg (ne wn)]; exact A.w
 ·by_cases c:i=j
  ·subst c
   rw [hd] at he; cases he
   refine ⟨id,ws.set n v,?_,by rw [List.length_set]; exact hf,by rw [set_objs,if_pos rfl]⟩
   show (setW s.words i n v)[i]?=_
   rw [setW_get,if_pos rfl,hj]; rfl
  ·obtain ⟨id',ws',a,b,q⟩:=A.ars i e he
   have hne:e.name ≠ d.name:=fun en=>by
    exact c (nodup_at (List.nodup_append.1 hp.nm).2.1 he hd en)
   refine ⟨id',ws',?_,b,by rw [set_objs,if_neg (nodup_ids wnd b hf hne)]; exact q⟩
   show (setW s.words j n v)[i]?=_
   rw [setW_get,if_neg c]; exact a
 ·obtain ⟨id',b,q⟩:=A.inw y e he hz
  have hne:y ≠ d.name:=fun en=>by
   obtain ⟨m1,m2⟩:=inOf_mem he
   exact (List.nodup_append.1 hp.nm).2.2 e.name (List.mem_map.2 ⟨e,m1,rfl⟩) d.name (List.mem_map.2 ⟨d,List.mem_of_getElem? hd,rfl⟩) (m2.trans en)
  exact ⟨id',b,by rw [set_objs,if_neg (nodup_ids wnd b hf hne)]; exact q⟩
theorem AtI.tell {p:Prg} {L:Ik} {s:RS} {h:H} (A:AtI p L s h) (n:Nat) (hl:s.told.length < 1000000) :
  ∃ h1:H,(∀ (st:S) (q:Nat) (ag:Bool) (c2:Cap),st.h=h→appV st q L.tv (.vec [W n] c2) 1 8 ag true=some (.ref h.next 0 (s.told.length + 1) 1,st.withH h1))∧h1.objs L.x=some (.cells [.map L.v,.map L.w,L.tv]) ∧
   AtI p { L with t:=h.next,tv:=.ref h.next 0 (s.told.length + 1) 1 } { s with told:=s.told ++ [n] } (h1.set L.x (.cells [.map L.v,.map L.w,.ref h.next 0 (s.told.length + 1) 1])) ∧
   FrI L { L with t:=h.next,tv:=.ref h.next 0 (s.told.length + 1) 1 } h (h1.set L.x (.cells [.map L.v,.map L.w,.ref h.next 0 (s.told.length + 1) 1])):=by
 obtain ⟨⟨xv,xw,xt,xn⟩,⟨vw,vt,vn⟩,⟨wt,wn⟩,tn,wnd⟩:=Ik.dist A.nd
 obtain ⟨h1,a1,a2,a3,a4⟩:=grow_app (bytes:=8) (el:=W n) A.told rfl (by decide) (by decide) (by rw [List.length_map]; exact hl)
 rw [List.length_map] at a1 a2
 have lx:=A.lt L.x Ik.mem.1
 have lv:=A.lt L.v Ik.mem.2.1
 have lw:=A.lt L.w Ik.mem.2.2.1
 have lt:=A.lt L.t Ik.mem.2.2.2
 have same:∀ i,i < h.next→i ≠ L.t→h1.objs i=h.objs i:=fun i hi hne=>a4 i hi fun _=>hne
 refine ⟨h1,a1,by rw [same _ lx xt]; exact A.x,⟨by rw [set_objs,if_pos rfl],?_,?_,A.es,A.esn,fun i d hd=>?_,fun y d hd hz=>?_,?_,A.wsn,?_,fun id hi=>?_⟩,⟨by rw [set_next,a3]; omega,rfl,fun id hl hno=>?_,fun id hi=>?_⟩⟩
 ·show ∃ ver,(h1.set L.x _).objs L.v=_
  rw [set_objs,if_neg xv.symm,same _ lv vt]; exact A.v
 ·show ∃ ver,(h1.set L.x _).objs L.w=_
  rw [set_objs,if_neg xw.symm,same _ lw wt]; exact A.w
 ·obtain ⟨id,ws,a,b,c⟩:=A.ars i d hd
  have hm:=Ik.ws_mem b
  exact ⟨id,ws,a,b,by rw [set_objs,if_neg (ne_of_mem xn hm.1),same _ (A.lt id hm.2) (ne_of_mem tn hm.1)]; exact c⟩
 ·obtain ⟨id,b,c⟩:=A.inw y d hd hz
  have hm:=Ik.ws_mem b
  exact ⟨id,b,by rw [set_objs,if_neg (ne_of_mem xn hm.1),same _ (A.lt id hm.2) (ne_of_mem tn hm.1)]; exact c⟩
 ·have e:(s.told ++ [n]).map (fun n=>[W n])=s.told.map (fun n=>[W n]) ++ [V.cells (W n)]:=by rw [List.map_append]; rfl
  show Grow _ 1 ((s.told ++ [n]).map fun n=>[W n]) h.next _
  rw [e]
  exact a2.same (by rw [set_objs,if_neg (by omega)])
 ·have hw:∀ i ∈ L.ws.map (fun r=>r.2.1),i < h.next:=fun i hi=>A.lt i (by unfold Ik.own; exact List.mem_append_right _ hi)
  show (Ik.own { L with t:=h.next,tv:=.ref h.next 0 (s.told.length + 1) 1 }).Nodup
  simp only [Ik.own,List.cons_append,List.nil_append,List.nodup_cons,List.mem_cons,not_or]
  exact ⟨⟨xv,xw,by omega,xn⟩,⟨vw,by omega,vn⟩,⟨by omega,wn⟩,fun hh=>absurd (hw _ hh) (Nat.lt_irrefl _),wnd⟩
 ·have hi:id ∈ Ik.own { L with t:=h.next,tv:=.ref h.next 0 (s.told.length + 1) 1 }:=hi
  rw [set_next,a3]
  simp only [Ik.own,List.cons_append,List.nil_append,List.mem_cons] at hi
  rcases hi with e | e | e | e | e
  ·omega
  ·omega
  ·omega
  ·omega
  ·have:=A.lt id (by unfold Ik.own; exact List.mem_append_right _ e); omega
 ·rw [set_objs,if_neg (fun e=>hno (by rw [e]; exact Ik.mem.1)),same id hl (fun e=>hno (by rw [e]; exact Ik.mem.2.2.2))]
 ·have hi:id ∈ Ik.own { L with t:=h.next,tv:=.ref h.next 0 (s.told.length + 1) 1 }:=hi
  simp only [Ik.own,List.cons_append,List.nil_append,List.mem_cons] at hi
  rcases hi with e | e | e | e | e
  ·exact .inl (by rw [e]; exact Ik.mem.1)
  ·exact .inl (by rw [e]; exact Ik.mem.2.1)
  ·exact .inl (by rw [e]; exact Ik.mem.2.2.1)
  ·exact .inr (by omega)
  ·exact .inl (by unfold Ik.own; exact List.mem_append_right _ e)
end Go.Ab
namespace Go.Ab
def SpB (R:CallT) (f:FuncId) (p:Prg) (l:List Stm):Prop:=∀ (σ τ:TS) (L:Ik) (s:RS) (h:H) (K:Out→H→Prop),AtI p L s h→Ag p σ s→TOk p σ→stmtsT p l σ=.ok τ →
 (∀ L' h',AtI p L' (runsX p l s) h'→FrI L L' h h'→K (.ret (.tuple [])) h')→R f [.ptr L.x 0,.vec (l.map Stm.v) .any] h K
theorem one_step {p:Prg} (hp:PV p) {x:Stm} {lv:Nat} (hv:VS x lv):GoodT p (stmtT p x):=fun σ τ ok h=>stmtsT_ok hp (l:=[x]) (VSs_all.2 fun y hy=>by rw [List.mem_singleton] at hy; subst hy; exact hv) _ _ ok (by rw [stmtsT_one']; exact h)
namespace YtljoifdccjcidaaDoor
section
variable {K:Out→H→Prop} {p:Prg}
theorem loopI (hp:PV p) {k:Int} {y:ByteArray} {e:List Exp} {a b:List Stm} {lv:Nat} (ha:SpB R 30 p a) (va:VSs a (lv + 1)) (ve:∀ x ∈ e,VE x (lv + 1)) (oke:∀ x ∈ e,EOk x) (el:e.length=2) {σ τ:TS} {L:Ik} {s:RS} {h:H} {l:List Kn} {m:Nat} (A:AtI p L s h) (ag:Ag p σ s) (ok:TOk p σ)
  (he:exprsT p σ.env e=.ok (l,m)) (hf:forT p y l (stmtsT p a) σ=.ok τ)
  (hK:∀ L' h',AtI p L' (forX y ((e.map (valX p s)).getD 0 0) ((e.map (valX p s)).getD 1 0) (runsX p a) s) h'→FrI L L' h h'→K (.ret (.tuple [])) h'):R 45 [.ptr L.x 0,(Stm.mk k y e a b).v] h K:=by
 have vf:=vals_fit ag.env ok.env he
 obtain ⟨kl,km,kn⟩:=exprsT_ok hp ok.env ve l m he
 have ka:=exprs_all he
 obtain ⟨e0,e1,rfl⟩:=len2 (l:=e) el
 obtain ⟨r0,m0',q0⟩:=ka e0 (by simp)
 obtain ⟨r1,m1',q1⟩:=ka e1 (by simp)
 obtain ⟨i0,i1,ht,hi⟩:=for_is hf
 have b0:=(vf.nth 0).lt (nthK_ok kl 0)
 have b1:=(vf.nth 1).lt (nthK_ok kl 1)
 rw [← (vf.nth 0).is i0,← (vf.nth 1).is i1] at hi
 have hga:GoodT p (stmtsT p a):=stmtsT_ok hp va
 have hra:RunT p (stmtsT p a) (runsX p a):=stmts_run hp va
 have hi:iterT (turnT y (stmtsT p a)) (valX p s e1 + 1 - valX p s e0) (valX p s e0) { σ with env:={ σ.env with vars:=setV σ.env.vars y none } }=.ok τ:=hi
 have b0:valX p s e0 < 1152921504606846976:=b0
 have b1:valX p s e1 < 1152921504606846976:=b1
 have hK:∀ L' h',AtI p L' (forX y (valX p s e0) (valX p s e1) (runsX p a) s) h'→FrI L L' h h'→K (.ret (.tuple [])) h':=hK
 refine run45 (Nat.le_of_ble_eq_true rfl) ?_
 simp -dsimp -implicitDefEqProofs only [↓STP,STQ,seval,Stm.v_mk,ir45,List.map_cons,List.map_nil,Exp.v_clen,Exp.v_tk,Exp.v_ag,Exp.v_out]
 refine valueI hp e0 _ (ve e0 (by simp)) (oke e0 (by simp)) σ.env L s h _ r0 m0' A ag.env ok.env q0 ?_
 simp -dsimp -implicitDefEqProofs only [↓STP,STQ,seval,List.map_cons,List.map_nil,Exp.v_clen,Exp.v_tk,Exp.v_ag,Exp.v_out]
 refine valueI hp e1 _ (ve e1 (by simp)) (oke e1 (by simp)) σ.env L s h _ r1 m1' A ag.env ok.env q1 ?_
 have gx:=get_of A.x
 obtain ⟨h1,hmd,A1,F1⟩:=A.del y
 simp -dsimp -implicitDefEqProofs only [↓STP,STQ,seval,gx,hmd]
 obtain ⟨a0,f0,k0⟩:=for_start ag ok ht
 unfold forX at hK
 generalize valX p s e0=n0 at *
 generalize valX p s e1=n1 at *
 generalize hs1:({ s with vars:=setM s.vars y none }:RS)=s1 at *
 generalize hσ1:({ σ with env:={ σ.env with vars:=setV σ.env.vars y none } }:TS)=σ1 at *
 generalize hL1:({ L with es:=delE y L.es }:Ik)=L1 at *
 generalize htf:iterX (fun n s=>runsX p a { s with vars:=setM s.vars y (some n) }) (n1 + 1 - n0) n0 s1=tf at *
 refine codeT_loop (fun c s'=>∃ n τ' t L' h',c=n1 + 1 - n∧n ≤ 1152921504606846976∧AtI p L' t h'∧Ag p τ' t∧TOk p τ'∧Free p y σ.env.loops τ'∧FrI L L' h h'∧iterT (turnT y (stmtsT p a)) (n1 + 1 - n) n τ'=.ok τ∧iterX (fun n s=>runsX p a { s with vars:=setM s.vars y (some n) }) (n1 + 1 - n) n t=tf ∧
  s'=⟨upd (upd (upd (upd ρ0 0 (.ptr L.x 0)) 3 (.lptr 0 5 0)) 5 (W n1)) 6 (W n),upd m0 0 (some [I k,.str y,.vec [e0.v,e1.v] .any,.vec (a.map Stm.v) .any,.vec (b.map Stm.v) .any]),1,[],h'⟩)
  (i:=n1 + 1 - n0) ⟨n0,σ1,s1,L1,h1,rfl,by omega,A1,a0,k0,f0,F1,hi,htf,by simp -dsimp -implicitDefEqProofs only [↓STP,STQ,seval] <;> rfl⟩ ?_ mono
 rintro c s' ⟨n,τ',t,L',h',rfl,hn,A',ag',ok',fr',F',hi',ht',rfl⟩
 have gx':=get_of A'.x
 rw [F'.x] at gx'
 by_cases hle:n ≤ n1
 ·have hle':((n:Nat):Int) ≤ ((n1:Nat):Int):=by omega
  obtain ⟨ver',hup,A2,F2⟩:=A'.put y n
  simp -dsimp -implicitDefEqProofs only [↓STP,STQ,seval,eq_true hle',gx',hup]
  rw [show n1 + 1 - n=(n1 + 1 - (n + 1)) + 1 by omega,iterT] at hi'
  rw [show n1 + 1 - n=(n1 + 1 - (n + 1)) + 1 by omega,iterX] at ht'
  obtain ⟨ρ,w1,w2⟩:=andT_inv hi'
  have tk:=turn_run (x:=y) hra hga (by omega) τ' ρ t ok' fr' ag' w1
  unfold turnT at w1
  obtain ⟨τ1,u1,w1⟩:=andT_inv w1
  obtain ⟨τ2,u2,w1⟩:=andT_inv w1
  obtain ⟨rfl,k1⟩:=stepT_ok ok' u1
  have oke':=turn_ext (x:=y) (n:=n) k1.ok (by omega)
  have ag2:Ag p ({ τ' with steps:=τ'.steps + 1,env:={ τ'.env with loops:=τ'.env.loops ++ [(y,n)] } }:TS) { t with vars:=setM t.vars y (some n) }:=⟨AgE.turn fr' ag'.env,ag'.told,Nat.le_trans ag'.few (Nat.le_succ _)⟩
  have okρ:TOk p ρ:=(turnT_ok hga (n:=n) (by omega) _ _ ok' (by unfold turnT; rw [u1,andT_ok,u2,andT_ok]; exact w1)).ok
  rw [← F'.x]
  refine ha _ _ { L' with es:=setE y n L'.es } _ _ _ A2 ag2 oke' u2 fun L3 h3 A3 F3=>?_
  have w:IntKind.u64.wrap ((n:Int) + 1)=((n + 1:Nat):Int):=by rw [wrap_u64_self] <;> omega
  simp -dsimp -implicitDefEqProofs only [↓STP,STQ,seval,w]
  exact ⟨n1 + 1 - (n + 1),by omega,n + 1,ρ,_,L3,h3,rfl,by omega,A3,tk.1,okρ,tk.2,(F'.trans F2).trans F3,w2,ht',by rw [F'.x]⟩
 ·have hle':¬ ((n:Nat):Int) ≤ ((n1:Nat):Int):=by omega
  obtain ⟨h2,hmd2,A2,F2⟩:=A'.del y
  rw [show n1 + 1 - n=0 by omega,iterX] at ht'
  subst ht'
  simp -dsimp -implicitDefEqProofs only [↓STP,STQ,seval,eq_false hle',gx',hmd2]
  exact hK _ _ A2 (F'.trans F2)
theorem bodyI_of (hp:PV p) {l:List Stm} {lv:Nat} (hlen:l.length ≤ 9223372036854775807) (ih:∀ x ∈ l,SpB R 30 p x.thn∧SpB R 30 p x.els) (hv:VSs l lv) (okl:∀ x ∈ l,SOk x):SpB R 30 p l:=by
 intro σ τ L s h K A ag ok hs hK
 refine run30 (Nat.le_of_ble_eq_true rfl) ?_
 simp -dsimp -implicitDefEqProofs only [↓STP,STQ,seval,ir30,List.length_map]
 refine codeT_loop (fun c s'=>∃ j τ' L' h',j ≤ l.length∧c=l.length - j∧stmtsT p (l.take j) σ=.ok τ'∧TOk p τ'∧AtI p L' (runsX p (l.take j) s) h'∧Ag p τ' (runsX p (l.take j) s)∧FrI L L' h h' ∧
  s'=⟨upd (upd (upd (upd ρ0 0 (.ptr L.x 0)) 8 (.vec (l.map Stm.v) .any)) 9 (I l.length)) 10 (I j),m0,0,[],h'⟩) (i:=l.length) ⟨0,σ,L,h,Nat.zero_le _,rfl,by rw [List.take_zero,stmtsT],ok,by rw [List.take_zero,runsX]; exact A,by rw [List.take_zero,runsX]; exact ag,FrI.refl _ _,by simp -dsimp -implicitDefEqProofs only [↓STP,STQ,seval] <;> rfl⟩ ?_ mono
 rintro c s' ⟨j,τ',L',h',hj,rfl,hr,ok',A',ag',F',rfl⟩
 rcases Nat.lt_or_ge j l.length with hi | hi
 ·have hget:=get_map (f:=Stm.v) hi
  have hx:=ih _ (List.getElem_mem hi)
  have hvx:=VSs_all.1 hv _ (List.getElem_mem hi)
  have okx:=okl _ (List.getElem_mem hi)
  have w1:=wiM (show j < 9223372036854775807 by omega)
  have htk:=stmtsT_take hi hr
  have htr:=runsX_take (p:=p) hi (s:=s)
  have hrest:∃ τ2,stmtsT p (l.take (j + 1)) σ=.ok τ2:=by
   have e:l=l.take (j + 1) ++ l.drop (j + 1):=(List.take_append_drop _ _).symm
   rw [e,stmtsT_append] at hs
   obtain ⟨τ2,h1,_⟩:=andT_inv hs
   exact ⟨τ2,h1⟩
  obtain ⟨τ2,hτ2⟩:=hrest
  have hst:stmtT p l[j] τ'=.ok τ2:=by rw [← htk]; exact hτ2
  have g1:=one_step hp hvx τ' τ2 ok' hst
  have ag2:=stmt_run hp l[j] _ hvx τ' τ2 _ ok' ag' hst
  rw [← htr] at ag2
  generalize hxe:l[j]=x at *
  obtain ⟨k,y,e,a,b⟩:=x
  obtain ⟨v1,v2,v3,v4,v5,v6,v7,v8,v9,v10,v11⟩:=VS_mk.1 hvx
  obtain ⟨_,_,_,_,_,oke,oka,okb⟩:=SOk_mk okx
  obtain ⟨lk,m,t1,t2,t3⟩:=stmt_inv hst
  have hga:GoodT p (stmtsT p a):=stmtsT_ok hp v10
  have hgb:GoodT p (stmtsT p b):=stmtsT_ok hp v11
  obtain ⟨_,k1⟩:=stepT_ok ok' t1
  have vf:=vals_fit ag'.env ok'.env t2
  obtain ⟨kl,km,kn⟩:=exprsT_ok hp ok'.env v9 lk m t2
  have ka:=exprs_all t2
  have ok1:TOk p { τ' with steps:=τ'.steps + 1,most:=max τ'.most m }:=⟨ok'.env,k1.ok.steps,by have:=ok'.most; show max τ'.most m ≤ 60; omega⟩
  have ag1:Ag p { τ' with steps:=τ'.steps + 1,most:=max τ'.most m } (runsX p (l.take j) s):=ag'.mono rfl (Nat.le_succ _) (Nat.le_max_left _ _)
  have hx1:SpB R 30 p a:=hx.1
  have hx2:SpB R 30 p b:=hx.2
  have gx':=get_of A'.x
  have gx0:=gx'
  rw [F'.x] at gx0
  rw [runX_mk] at htr
  unfold run1 at htr
  unfold stmt1 at t3
  have kk:k=1∨k=2∨k=3∨k=4∨k=5:=by omega
  have hll:0 < e.length:=by rw [v4]; split <;> decide
  have hend:∀ {L2:Ik} {h2:H},AtI p L2 (runsX p (l.take (j + 1)) s) h2→FrI L' L2 h' h2→∃ (c:Nat),c < l.length - j∧∃ j' τ'' L'' h'',j' ≤ l.length∧c=l.length - j'∧stmtsT p (l.take j') σ=.ok τ''∧TOk p τ''∧AtI p L'' (runsX p (l.take j') s) h''∧Ag p τ'' (runsX p (l.take j') s)∧FrI L L'' h h'' ∧
    (⟨upd (upd (upd (upd ρ0 0 (.ptr L.x 0)) 8 (.vec (l.map Stm.v) .any)) 9 (I l.length)) 10 (I ((j + 1:Nat):Int)),m0,0,[],h2⟩:S)=⟨upd (upd (upd (upd ρ0 0 (.ptr L.x 0)) 8 (.vec (l.map Stm.v) .any)) 9 (I l.length)) 10 (I j'),m0,0,[],h''⟩:=fun A2 F2=>⟨l.length - (j + 1),by omega,j + 1,τ2,_,_,hi,rfl,hτ2,g1.ok,A2,ag2,F'.trans F2,rfl⟩
  generalize runsX p (l.take j) s=t at *
  generalize runsX p (l.take (j + 1)) s=t2' at *
  rcases kk with rfl | rfl | rfl | rfl | rfl
  ·rw [if_pos rfl] at htr
   obtain ⟨e0,rfl⟩:=len1 (l:=e) (by rw [v4]; decide)
   obtain ⟨r0,m0',q0⟩:=ka e0 (by simp)
   simp -dsimp -implicitDefEqProofs only [↓STP,STQ,seval,Int.ofNat_lt,hi,hget,storeV,Stm.v_mk,gx0,List.map_cons,List.map_nil,Exp.v_clen,Exp.v_tk,Exp.v_ag,Exp.v_out]
   rw [← F'.x]
   refine valueI hp e0 _ (v9 e0 (by simp)) (oke e0 (by simp)) τ'.env L' t h' _ r0 m0' A' ag'.env ok'.env q0 ?_
   obtain ⟨ver',hup,A2,F2⟩:=A'.put y (valX p t e0)
   simp -dsimp -implicitDefEqProofs only [↓STP,STQ,seval,gx',hup,w1]
   rw [F'.x]
   exact hend (by rw [htr]; exact A2) F2
  ·rw [if_neg (by decide),if_pos rfl] at htr t3
   obtain ⟨e0,e1,rfl⟩:=len2 (l:=e) (by rw [v4]; decide)
   obtain ⟨r0,m0',q0⟩:=ka e0 (by simp)
   obtain ⟨r1,m1',q1⟩:=ka e1 (by simp)
   simp -dsimp -implicitDefEqProofs only [↓STP,STQ,seval,Int.ofNat_lt,hi,hget,storeV,Stm.v_mk,gx0,List.map_cons,List.map_nil,Exp.v_clen,Exp.v_tk,Exp.v_ag,Exp.v_out]
   rw [← F'.x]
   refine valueI hp e0 _ (v9 e0 (by simp)) (oke e0 (by simp)) τ'.env L' t h' _ r0 m0' A' ag'.env ok'.env q0 ?_
   simp -dsimp -implicitDefEqProofs only [↓STP,STQ,seval,List.map_cons,List.map_nil,Exp.v_clen,Exp.v_tk,Exp.v_ag,Exp.v_out]
   refine valueI hp e1 _ (v9 e1 (by simp)) (oke e1 (by simp)) τ'.env L' t h' _ r1 m1' A' ag'.env ok'.env q1 ?_
   obtain ⟨jj,d,f1,f2,f3,f4,f5,f6,rfl⟩:=store_inv t3
   obtain ⟨id,ws,b1,b2,b3⟩:=A'.ars jj d f2
   have hv0:=(vf.nth 0).is f4
   have hv0:valX p t e0=(nthK lk 0).val:=hv0
   have jl1:jj < τ'.env.words.length:=by rw [ok'.env.wlen]; exact (List.getElem?_eq_some_iff.1 f2).1
   have hlw:=(ag'.env.words jj _ _ (List.getElem?_eq_getElem jl1) b1).1
   have hlz:=(ok'.env.words jj _ d (List.getElem?_eq_getElem jl1) f2).1
   have hlt:valX p t e0 < ws.length:=by omega
   have hltI:((valX p t e0:Nat):Int) < ((ws.length:Nat):Int):=by omega
   obtain ⟨ver,hw⟩:=A'.w
   obtain ⟨A2,F2⟩:=A'.word hp (n:=valX p t e0) (v:=valX p t e1) f2 b1 b2
   rw [f3] at b2
   rw [f1] at htr
   have stw:=fun ρ m n' u=>storeF (ρ:=ρ) (m:=m) (n:=n') (u:=u) (j:=valX p t e0) (v:=W (valX p t e1)) (get_of b3) (by rw [Ws_length]; exact hlt) rfl rfl
   rw [Ws_set] at stw
   simp -dsimp -implicitDefEqProofs only [↓STP,STQ,seval,gx',lkp_one hw,b2,map_some',getD_some,refV,eq_true hltI,Nat.mul_one,stw,w1]
   rw [F'.x]
   exact hend (by rw [htr]; exact A2) F2
  ·rw [if_neg (by decide),if_neg (by decide),if_pos rfl] at htr t3
   obtain ⟨e0,rfl⟩:=len1 (l:=e) (by rw [v4]; decide)
   obtain ⟨r0,m0',q0⟩:=ka e0 (by simp)
   unfold ifT at t3
   split at t3
   ·cases t3
   obtain ⟨σ1,h1,t3⟩:=andT_inv t3
   obtain ⟨σ2,h2,t3⟩:=andT_inv t3
   have k1':=hga { ({ τ' with steps:=τ'.steps + 1,most:=max τ'.most m }:TS) with ifs:=τ'.ifs + 1 } _ ⟨ok1.env,ok1.steps,ok1.most⟩ h1
   simp -dsimp -implicitDefEqProofs only [↓STP,STQ,seval,Int.ofNat_lt,hi,hget,storeV,Stm.v_mk,gx0,List.map_cons,List.map_nil,Exp.v_clen,Exp.v_tk,Exp.v_ag,Exp.v_out]
   rw [← F'.x]
   refine valueI hp e0 _ (v9 e0 (by simp)) (oke e0 (by simp)) τ'.env L' t h' _ r0 m0' A' ag'.env ok'.env q0 ?_
   have htr:t2'=if valX p t e0=1 then runsX p a t else runsX p b t:=htr
   by_cases c:valX p t e0=1
   ·have c':((valX p t e0:Nat):Int)=1:=by omega
    rw [if_pos c] at htr
    simp -dsimp -implicitDefEqProofs only [↓STP,STQ,seval,eq_true c']
    refine hx1 { ({ τ' with steps:=τ'.steps + 1,most:=max τ'.most m }:TS) with ifs:=τ'.ifs + 1 } _ L' t h' _ A' ⟨ag1.env,ag1.told,ag1.few⟩ ⟨ok1.env,ok1.steps,ok1.most⟩ h1 fun L2 h2 A2 F2=>?_
    simp -dsimp -implicitDefEqProofs only [↓STP,STQ,seval,w1]
    rw [F'.x]
    exact hend (by rw [htr]; exact A2) F2
   ·have c':¬ ((valX p t e0:Nat):Int)=1:=by omega
    rw [if_neg c] at htr
    simp -dsimp -implicitDefEqProofs only [↓STP,STQ,seval,eq_false c']
    refine hx2 { σ1 with env:=τ'.env } _ L' t h' _ A' (ag1.mono rfl k1'.steps k1'.most) ⟨ok1.env,k1'.ok.steps,k1'.ok.most⟩ h2 fun L2 h2 A2 F2=>?_
    simp -dsimp -implicitDefEqProofs only [↓STP,STQ,seval,w1]
    rw [F'.x]
    exact hend (by rw [htr]; exact A2) F2
  ·rw [if_neg (by decide),if_neg (by decide),if_neg (by decide),if_pos rfl] at htr t3
   simp -dsimp -implicitDefEqProofs only [↓STP,STQ,seval,Int.ofNat_lt,hi,hget,storeV,Stm.v_mk,gx0]
   rw [← Stm.v_mk,← F'.x]
   refine loopI hp (k:=4) (b:=b) (lv:=lv) hx1 v10 v9 oke (by rw [v4]; decide) A' ag1 ok1 t2 t3 fun L2 h2 A2 F2=>?_
   simp -dsimp -implicitDefEqProofs only [↓STP,STQ,seval,w1]
   rw [F'.x]
   exact hend (by rw [htr]; exact A2) F2
  ·rw [if_neg (by decide),if_neg (by decide),if_neg (by decide),if_neg (by decide)] at htr
   obtain ⟨e0,rfl⟩:=len1 (l:=e) (by rw [v4]; decide)
   obtain ⟨r0,m0',q0⟩:=ka e0 (by simp)
   simp -dsimp -implicitDefEqProofs only [↓STP,STQ,seval,Int.ofNat_lt,hi,hget,storeV,Stm.v_mk,gx0,List.map_cons,List.map_nil,Exp.v_clen,Exp.v_tk,Exp.v_ag,Exp.v_out]
   rw [← F'.x]
   refine valueI hp e0 _ (v9 e0 (by simp)) (oke e0 (by simp)) τ'.env L' t h' _ r0 m0' A' ag'.env ok'.env q0 ?_
   have hfew:t.told.length < 1000000:=by have:=ag'.few; have:=ok'.steps; omega
   obtain ⟨h1,a1,a2,A2,F2⟩:=A'.tell (valX p t e0) hfew
   have gx2:=get_of a2
   have st5:∀ ρ m n' u,storeV ⟨ρ,m,n',u,h1⟩ (.ptr L'.x 2) (.ref h'.next 0 (t.told.length + 1) 1) 1=some ⟨ρ,m,n',u,h1.set L'.x (.cells [.map L'.v,.map L'.w,.ref h'.next 0 (t.told.length + 1) 1])⟩:=fun ρ m n' u=>storeF (j:=2) gx2 (show 2 < 3 by decide) rfl rfl
   have ht2:t2'={ t with told:=t.told ++ [valX p t e0] }:=htr
   simp -dsimp -implicitDefEqProofs only [↓STP,STQ,seval,gx',a1,st5,w1]
   rw [F'.x] at A2 F2 ⊢
   exact hend (by rw [ht2]; exact A2) F2
 ·have hj':j=l.length:=by omega
  subst hj'
  rw [List.take_length] at A'
  simp -dsimp -implicitDefEqProofs only [↓STP,STQ,seval,Int.lt_irrefl]
  exact hK _ _ A' F'
theorem bodyII (hp:PV p) (x:Stm):∀ lv,VS x lv→SOk x→SpB R 30 p x.thn∧SpB R 30 p x.els:=by
 induction x using Stm.ind with
 | h k s e a b iha ihb =>
  intro lv hv ok
  obtain ⟨v1,v2,v3,v4,v5,v6,v7,v8,v9,v10,v11⟩:=VS_mk.1 hv
  obtain ⟨_,_,_,la,lb,oke,oka,okb⟩:=SOk_mk ok
  have hm:=maxLen_eq
  exact ⟨bodyI_of (l:=a) hp (by omega) (fun x hx=>iha x hx _ (VSs_all.1 v10 x hx) (oka x hx)) v10 oka,bodyI_of (l:=b) hp (by omega) (fun x hx=>ihb x hx _ (VSs_all.1 v11 x hx) (okb x hx)) v11 okb⟩
theorem bodyI (hp:PV p) {l:List Stm} {lv:Nat} (hl:l.length ≤ maxLen) (hv:VSs l lv) (ok:∀ x ∈ l,SOk x):SpB R 30 p l:=
 bodyI_of hp (by have:=maxLen_eq; omega) (fun x hx=>bodyII hp x _ (VSs_all.1 hv x hx) (ok x hx)) hv ok
end
end YtljoifdccjcidaaDoor
end Go.Ab
namespace Go.Ab
def sizeD (d:InD):Nat:=max d.size.toNat 1
def frmD (d:InD):Nat:=(d.frm - 1).toNat
def wordsD (ls:List (List Nat)) (a:List Nat) (d:InD):List Nat:=((ls.getD (frmD d) []).drop (a.getD (frmD d) 0)).take (sizeD d)
def okD (ls:List (List Nat)) (a:List Nat) (d:InD):Prop:=frmD d < ls.length∧a.getD (frmD d) 0 + sizeD d ≤ (ls.getD (frmD d) []).length∧∀ v ∈ wordsD ls a d,v < 2 ^ d.width.toNat
instance {ls:List (List Nat)} {a:List Nat} {d:InD}:Decidable (okD ls a d):=by unfold okD; infer_instance
def nextD (a:List Nat) (d:InD):List Nat:=a.set (frmD d) (a.getD (frmD d) 0 + sizeD d)
def fitG:List InD→List (List Nat)→List Nat→Option (List Nat)
 | [],ls,a=>some a
 | d :: ds,ls,a=>if okD ls a d then fitG ds ls (nextD a d) else none
def fitEnd (ls:List (List Nat)):Option (List Nat)→Bool
 | some a=>decide (a=ls.map List.length)
 | none=>false
def fitB (p:Prg) (ls:List (List Nat)):Bool:=fitEnd ls (fitG p.ins ls (List.replicate ls.length 0))
def LV (ls:List (List Nat)):V:=.vec (ls.map fun l=>.vec (Ws l) .any) .any
structure LsOk (ls:List (List Nat)):Prop where
 len:ls.length ≤ 30
 all:∀ l ∈ ls,l.length ≤ 1000∧∀ v ∈ l,v < 18446744073709551616
theorem LV_get {ls:List (List Nat)} {i:Nat} (h:i < ls.length):(ls.map fun l=>V.vec (Ws l) .any)[i]?=some (.vec (Ws (ls.getD i [])) .any):=by
 rw [List.getElem?_map,List.getElem?_eq_getElem h,List.getD_eq_getElem?_getD,List.getElem?_eq_getElem h]; rfl
theorem LsOk.get {ls:List (List Nat)} (ok:LsOk ls) (i:Nat):(ls.getD i []).length ≤ 1000∧∀ v ∈ ls.getD i [],v < 18446744073709551616:=by
 rw [List.getD_eq_getElem?_getD]
 cases h:ls[i]? with
 | none=>exact ⟨Nat.zero_le _,fun v hv=>by cases hv⟩
 | some l=>exact ok.all l (List.mem_of_getElem? h)
theorem natVs_get {l:List Nat} {i:Nat} (h:i < l.length):(natVs l)[i]?=some (I ((l.getD i 0:Nat):Int)):=nat_vs_get h
theorem natVs_set {l:List Nat} {i n:Nat}:(natVs l).set i (I ((n:Nat):Int))=natVs (l.set i n):=by simp [natVs,List.map_set]
theorem natVs_zero {n:Nat}:(List.replicate n [V.int .i64 0]).flatten=natVs (List.replicate n 0):=by
 induction n with
 | zero=>rfl
 | succ n ih=>rw [List.replicate_succ,List.flatten_cons,ih,List.replicate_succ]; rfl
theorem width_fits {n:Nat} {w:Int} (h:1 ≤ w):(n=0∨¬ ((max (blen n) 1:Nat):Int) > w) ↔ n < 2 ^ w.toNat:=by
 have hb:=blen_le (k:=w.toNat) (n:=n)
 constructor
 ·rintro (rfl | h1)
  ·exact Nat.two_pow_pos _
  ·exact hb.1 (by omega)
 ·intro h1
  have:=hb.2 h1
  exact .inr (by omega)
theorem Ws_getD {l:List Nat} {i:Nat} (h:i < l.length):(Ws l)[i]?=some (W (l.getD i 0)):=by
 rw [Ws_get,List.getElem?_eq_getElem h,List.getD_eq_getElem?_getD,List.getElem?_eq_getElem h]; rfl
theorem getD_set_self {l:List Nat} {i n:Nat} (h:i < l.length):(l.set i n).getD i 0=n:=by
 rw [List.getD_eq_getElem?_getD,List.getElem?_set,if_pos rfl,if_pos h]; rfl
theorem mem_words {l:List Nat} {k i m:Nat} (h:k + i < l.length) (hm:i < m):l.getD (k + i) 0 ∈ (l.drop k).take m:=by
 rw [List.getD_eq_getElem?_getD,List.getElem?_eq_getElem h]
 refine List.mem_of_getElem? (i:=i) ?_
 rw [List.getElem?_take,if_pos hm,List.getElem?_drop,List.getElem?_eq_getElem h]; rfl
theorem take_words {l:List Nat} {k i:Nat} (h:k + i < l.length):(l.drop k).take (i + 1)=(l.drop k).take i ++ [l.getD (k + i) 0]:=by
 rw [List.take_add_one,List.getElem?_drop,List.getD_eq_getElem?_getD,List.getElem?_eq_getElem h]; rfl
namespace YtljoifdccjcidaaDoor
section
variable {h:H} {K:Out→H→Prop} {p:Prg}
theorem sizeI {d:InD} (h0:0 ≤ d.size) (hK:K (.ret (I ((sizeD d:Nat):Int))) h):R 28 [d.v] h K:=by
 refine run28 (Nat.le_of_ble_eq_true rfl) ?_
 have hm:(if (1:Int) > d.size then (1:Int) else d.size)=((sizeD d:Nat):Int):=by unfold sizeD; split <;> omega
 simp -dsimp -implicitDefEqProofs only [↓STP,STQ,seval,inV_cells,ir28,maxV_two,hm]
 exact hK
theorem fitI (v:VT p) {ls:List (List Nat)} (ok:LsOk ls) (hK:∀ h',UpH h h'→K (.ret (.bool (fitB p ls))) h'):R 36 [p.v,LV ls] h K:=by
 refine run36 (Nat.le_of_ble_eq_true rfl) ?_
 have hlen:=ok.len
 have pli:=v.ok.li
 have hm:=maxLen_eq
 simp -dsimp -implicitDefEqProofs only [↓STP,STQ,seval,Prg.v,Prg.cells,LV,ir36,List.length_map,mksN_ok (n:=ls.length) (sz:=1) (bytes:=8) (by omega) (by decide) (by decide),natVs_zero]
 unfold fitB at hK
 refine codeT_loop (fun c s'=>∃ j a h',j ≤ p.ins.length∧c=p.ins.length - j∧a.length=ls.length∧fitG (p.ins.drop j) ls a=fitG p.ins ls (List.replicate ls.length 0)∧h'.objs h.next=some (.cells (natVs a))∧h'.next=h.next + 1∧(∀ i,i < h.next→h'.objs i=h.objs i) ∧
  s'=⟨upd (upd (upd (upd (upd ρ0 1 (LV ls)) 5 (.ref h.next 0 ls.length 1)) 16 (.vec (p.ins.map InD.v) .any)) 17 (I p.ins.length)) 18 (I j),m0,0,[],h'⟩)
  (i:=p.ins.length) ⟨0,List.replicate ls.length 0,_,Nat.zero_le _,rfl,by simp,rfl,by rw [new_objs,if_pos rfl],rfl,fun i hi=>by rw [new_objs,if_neg (Nat.ne_of_lt hi)],by simp -dsimp -implicitDefEqProofs only [↓STP,STQ,seval,LV] <;> rfl⟩ ?_ mono
 rintro c s' ⟨j,a,h',hj,rfl,hal,hr,ho,hn,hold,rfl⟩
 rcases Nat.lt_or_ge j p.ins.length with hi | hi
 ·have hget:=get_map (f:=InD.v) hi
  have hdm:p.ins[j] ∈ p.ins:=List.getElem_mem hi
  have hdi:=v.ins _ hdm
  have w1:=wiM (show j < 9223372036854775807 by omega)
  have hdr:p.ins.drop j=p.ins[j] :: p.ins.drop (j + 1):=List.drop_eq_getElem_cons hi
  rw [hdr,fitG] at hr
  generalize p.ins[j]=d at *
  by_cases hfr:(ls.length:Int) < d.frm
  ·have hno:¬ okD ls a d:=fun hh=>by have:=hh.1; unfold frmD at this; have:=hdi.f1; omega
   rw [if_neg hno] at hr
   rw [← hr] at hK
   simp -dsimp -implicitDefEqProofs only [↓STP,STQ,seval,Int.ofNat_lt,hi,hget,inV_cells,storeV,LV,List.length_map,eq_true hfr]
   exact hK h' ⟨by omega,hold⟩
  have hf1:=hdi.f1
  have hf:frmD d < ls.length:=by unfold frmD; omega
  have hf2:=hdi.f2
  have efr:((frmD d:Nat):Int)=d.frm - 1:=by unfold frmD; omega
  have hfI:IntKind.i64.wrap (d.frm - 1)=((frmD d:Nat):Int):=by
   rw [efr,wrap_i64] <;> omega
  have hsz:sizeD d ≤ 64:=by have:=hdi.s2; unfold sizeD; omega
  have gl:=LV_get hf
  obtain ⟨okl,okw⟩:=ok.get (frmD d)
  simp -dsimp -implicitDefEqProofs only [↓STP,STQ,seval,Int.ofNat_lt,hi,hget,inV_cells,storeV,LV,List.length_map,eq_false hfr]
  rw [← inV_cells]
  refine sizeI hdi.s1 ?_
  simp -dsimp -implicitDefEqProofs only [↓STP,STQ,seval]
  have hyes:okD ls a d→fitG (p.ins.drop (j + 1)) ls (nextD a d)=fitG p.ins ls (List.replicate ls.length 0):=fun q=>by rw [if_pos q] at hr; exact hr
  have hnot:¬ okD ls a d→none=fitG p.ins ls (List.replicate ls.length 0):=fun q=>by rw [if_neg q] at hr; exact hr
  clear hr
  unfold okD wordsD at hyes hnot
  unfold nextD at hyes
  generalize hfd:frmD d=f at *
  generalize hld:ls.getD f []=l at *
  generalize hkd:a.getD f 0=k0 at *
  generalize hsd:sizeD d=N at *
  have hfa:f < a.length:=by omega
  refine codeT_loop (fun c s'=>∃ i h'',i ≤ N∧c=N - i∧(i=0∨k0 + i ≤ l.length)∧(∀ v ∈ (l.drop k0).take i,v < 2 ^ d.width.toNat)∧h''.objs h.next=some (.cells (natVs (a.set f (k0 + i))))∧h''.next=h.next + 1∧(∀ i,i < h.next→h''.objs i=h.objs i) ∧
   s'=⟨upd (upd (upd (upd (upd (upd (upd (upd ρ0 1 (LV ls)) 5 (.ref h.next 0 ls.length 1)) 7 (.lptr 0 4 0)) 16 (.vec (p.ins.map InD.v) .any)) 17 (I p.ins.length)) 18 (I j)) 28 (I N)) 29 (I i),upd m0 0 (some [.str d.name,I d.frm,I d.width,I d.size]),1,[],h''⟩)
   (i:=N) ⟨0,h',Nat.zero_le _,rfl,.inl rfl,by simp,by
    have e:a.set f (k0 + 0)=a:=by
     apply List.ext_getElem?
     intro q
     rw [List.getElem?_set]
     split
     ·rename_i e; subst e
      rw [← hkd,List.getD_eq_getElem?_getD,List.getElem?_eq_getElem hfa]; rfl
     ·rfl
    rw [e]; exact ho,hn,hold,by simp -dsimp -implicitDefEqProofs only [↓STP,STQ,seval,LV] <;> rfl⟩ ?_ mono
  rintro c s' ⟨i,h'',hiN,rfl,hki,hws,ho2,hn2,hold2,rfl⟩
  have g2:=get_of ho2
  have lset:(a.set f (k0 + i)).length=a.length:=List.length_set
  have ga:=natVs_get (l:=a.set f (k0 + i)) (i:=f) (by omega)
  rw [getD_set_self hfa] at ga
  have hfI':((f:Nat):Int) < ((ls.length:Nat):Int):=by omega
  by_cases hlt:i < N
  ·have hltI:((i:Nat):Int) < ((N:Nat):Int):=by omega
   by_cases hge:l.length ≤ k0 + i
   ·have hgeI:((l.length:Nat):Int) ≤ ((k0 + i:Nat):Int):=by omega
    rw [← hnot (by rintro ⟨_,h2,_⟩; omega)] at hK
    simp -dsimp -implicitDefEqProofs only [↓STP,STQ,seval,eq_true hltI,LV,hfI,gl,inV_cells,InD.v_cells,eq_true hfI',Nat.mul_one,g2,ga,Ws_length,eq_true hgeI]
    exact hK h'' ⟨by omega,hold2⟩
   ·have hgeI:¬ ((l.length:Nat):Int) ≤ ((k0 + i:Nat):Int):=by omega
    have hkl:k0 + i < l.length:=by omega
    have hklI:((k0 + i:Nat):Int) < ((l.length:Nat):Int):=by omega
    have gw:=Ws_getD hkl
    have hvm:=mem_words hkl hlt
    have hv64:l.getD (k0 + i) 0 < 18446744073709551616:=okw _ (List.mem_of_mem_drop (List.mem_of_mem_take hvm))
    have htw:=take_words hkl
    have wf:=width_fits (n:=l.getD (k0 + i) 0) hdi.w1
    generalize l.getD (k0 + i) 0=v0 at *
    have w2:IntKind.i64.wrap (((k0 + i:Nat):Int) + 1)=((k0 + (i + 1):Nat):Int):=by rw [wrap_i64] <;> omega
    have w3:=wiM (show i < 9223372036854775807 by omega)
    have stw:=fun ρ m n' u=>storeF (ρ:=ρ) (m:=m) (n:=n') (u:=u) (j:=f) (v:=I ((k0 + (i + 1):Nat):Int)) g2 (by rw [natVs_len]; omega) rfl rfl
    rw [natVs_set,List.set_set] at stw
    have hnext:v0 < 2 ^ d.width.toNat→∃ (c:Nat),c < N - i∧∃ i' h3,i' ≤ N∧c=N - i'∧(i'=0∨k0 + i' ≤ l.length)∧(∀ v ∈ (l.drop k0).take i',v < 2 ^ d.width.toNat)∧h3.objs h.next=some (.cells (natVs (a.set f (k0 + i'))))∧h3.next=h.next + 1∧(∀ i,i < h.next→h3.objs i=h.objs i) ∧
      (⟨upd (upd (upd (upd (upd (upd (upd (upd ρ0 1 (LV ls)) 5 (.ref h.next 0 ls.length 1)) 7 (.lptr 0 4 0)) 16 (.vec (p.ins.map InD.v) .any)) 17 (I p.ins.length)) 18 (I j)) 28 (I N)) 29 (I ((i + 1:Nat):Int)),upd m0 0 (some [.str d.name,I d.frm,I d.width,I d.size]),1,[],h''.set h.next (.cells (natVs (a.set f (k0 + (i + 1)))))⟩:S) =
      ⟨upd (upd (upd (upd (upd (upd (upd (upd ρ0 1 (LV ls)) 5 (.ref h.next 0 ls.length 1)) 7 (.lptr 0 4 0)) 16 (.vec (p.ins.map InD.v) .any)) 17 (I p.ins.length)) 18 (I j)) 28 (I N)) 29 (I i'),upd m0 0 (some [.str d.name,I d.frm,I d.width,I d.size]),1,[],h3⟩:=fun hv0 =>
     ⟨N - (i + 1),by omega,i + 1,h''.set h.next (.cells (natVs (a.set f (k0 + (i + 1))))),hlt,rfl,.inr (by omega),fun v hv=>by
      rw [htw] at hv
      rcases List.mem_append.1 hv with hv | hv
      ·exact hws v hv
      ·rw [List.mem_singleton] at hv; subst hv; exact hv0,by rw [set_objs,if_pos rfl],hn2,fun q hq=>by rw [set_objs,if_neg (by omega)]; exact hold2 q hq,rfl⟩
    by_cases hz:(v0:Int)=0
    ·have hlt0:v0 < 2 ^ d.width.toNat:=wf.1 (.inl (by omega))
     simp -dsimp -implicitDefEqProofs only [↓STP,STQ,seval,eq_true hltI,LV,hfI,gl,inV_cells,eq_true hfI',Nat.mul_one,g2,ga,Ws_length,eq_false hgeI,eq_true hklI,gw,eq_true hz,stw,w2,w3]
     exact hnext hlt0
    ·simp -dsimp -implicitDefEqProofs only [↓STP,STQ,seval,eq_true hltI,LV,hfI,gl,inV_cells,eq_true hfI',Nat.mul_one,g2,ga,Ws_length,eq_false hgeI,eq_true hklI,gw,eq_false hz]
     refine width_full hv64 ?_
     by_cases hw:d.width < ((max (blen v0) 1:Nat):Int)
     ·have hge0:¬ v0 < 2 ^ d.width.toNat:=fun hh=>(wf.2 hh).elim (fun e=>hz (by omega)) (fun e=>e hw)
      rw [← hnot (by rintro ⟨_,_,h3⟩; exact hge0 (h3 _ hvm))] at hK
      simp -dsimp -implicitDefEqProofs only [↓STP,STQ,seval,eq_true hw]
      exact hK h'' ⟨by omega,hold2⟩
     ·have hlt0:v0 < 2 ^ d.width.toNat:=wf.1 (.inr hw)
      simp -dsimp -implicitDefEqProofs only [↓STP,STQ,seval,eq_false hw,hfI,Nat.mul_one,eq_true hfI',g2,ga,stw,w2,w3]
      exact hnext hlt0
  ·have hiN':i=N:=by omega
   subst hiN'
   simp -dsimp -implicitDefEqProofs only [↓STP,STQ,seval,Int.lt_irrefl,w1]
   have hN1:1 ≤ i:=by rw [← hsd]; unfold sizeD; omega
   have hr:=hyes ⟨hf,by omega,hws⟩
   exact ⟨p.ins.length - (j + 1),by omega,j + 1,a.set f (k0 + i),h'',hi,rfl,by rw [List.length_set]; exact hal,hr,ho2,hn2,hold2,rfl⟩
 ·have hj':j=p.ins.length:=by omega
  subst hj'
  rw [List.drop_length,fitG] at hr
  rw [← hr] at hK
  simp -dsimp -implicitDefEqProofs only [↓STP,STQ,seval,Int.lt_irrefl,LV,List.length_map]
  have g1:=get_of ho
  refine codeT_for (N:=ls.length) (fun i=>⟨upd (upd (upd (upd ρ0 5 (.ref h.next 0 ls.length 1)) 74 (LV ls)) 75 (I ls.length)) 76 (I i),m0,0,[],h'⟩) (fun i=>a.take i=(ls.map List.length).take i) (by simp -dsimp -implicitDefEqProofs only [↓STP,STQ,seval,LV] <;> rfl) rfl (fun i hlt htk=>?_) (fun htk=>?_) mono
  ·have gl:=LV_get hlt
   have ga:=natVs_get (l:=a) (i:=i) (by omega)
   have hltI:((i:Nat):Int) < ((ls.length:Nat):Int):=by omega
   have w3:=wiM (show i < 9223372036854775807 by omega)
   have e1:ls.getD i []=ls[i]:=by rw [List.getD_eq_getElem?_getD,List.getElem?_eq_getElem hlt]; rfl
   have e2:a.getD i 0=a[i]:=by rw [List.getD_eq_getElem?_getD,List.getElem?_eq_getElem (by omega)]; rfl
   by_cases he:((a.getD i 0:Nat):Int)=(((ls.getD i []).length:Nat):Int)
   ·simp -dsimp -implicitDefEqProofs only [↓STP,STQ,seval,eq_true hltI,LV,gl,g1,ga,Nat.mul_one,Ws_length,eq_true he,w3]
    rw [List.take_add_one,List.take_add_one,htk,List.getElem?_eq_getElem (by omega),List.getElem?_map,List.getElem?_eq_getElem hlt]
    rw [e1,e2] at he
    have he:a[i]=ls[i].length:=by omega
    rw [he]; rfl
   ·have hno:fitEnd ls (some a)=false:=decide_eq_false fun hh=>he (by
     have this:a.getD i 0=(ls.map List.length).getD i 0:=congrArg (fun l=>l.getD i 0) hh
     rw [this,e1,List.getD_eq_getElem?_getD,List.getElem?_map,List.getElem?_eq_getElem hlt]; rfl)
    rw [hno] at hK
    simp -dsimp -implicitDefEqProofs only [↓STP,STQ,seval,eq_true hltI,LV,gl,g1,ga,Nat.mul_one,Ws_length,eq_false he,w3]
    exact hK h' ⟨by omega,hold⟩
  ·have hyes:fitEnd ls (some a)=true:=decide_eq_true (by
    have e1:a.take ls.length=a:=List.take_of_length_le (by omega)
    have e2:(ls.map List.length).take ls.length=ls.map List.length:=List.take_of_length_le (by rw [List.length_map]; exact Nat.le_refl _)
    rw [← e1,← e2,htk])
   rw [hyes] at hK
   simp -dsimp -implicitDefEqProofs only [↓STP,STQ,seval,Int.lt_irrefl]
   exact hK h' ⟨by omega,hold⟩
end
end YtljoifdccjcidaaDoor
end Go.Ab
namespace Go.Ab
def insD:List InD→List (List Nat)→List Nat→List (InD × List Nat)
 | [],_,_=>[]
 | d :: ds,ls,a=>(d,wordsD ls a d) :: insD ds ls (nextD a d)
def scalL:List (InD × List Nat)→List (ByteArray × Nat)
 | []=>[]
 | (d,ws) :: l=>if d.size=0 then (d.name,ws.getD 0 0) :: scalL l else scalL l
def arrL:List (InD × List Nat)→List (ByteArray × List Nat)
 | []=>[]
 | (d,ws) :: l=>if d.size=0 then arrL l else (d.name,ws) :: arrL l
def atI0 (ls:List (List Nat)):List Nat:=List.replicate ls.length 0
def startX (p:Prg) (ls:List (List Nat)):RS:=
 ⟨fun y=>findL y (scalL (insD p.ins ls (atI0 ls))),fun y=>(findL y (arrL (insD p.ins ls (atI0 ls)))).getD [],p.arrays.map fun d=>List.replicate d.size.toNat 0,[]⟩
def outX (p:Prg) (ls:List (List Nat)):List Nat:=(runsX p p.body (startX p ls)).told
def errI (p:Prg) (ls:List (List Nat)):Int:=if errT (checkT p) ≠ 0 then errT (checkT p) else if fitB p ls then 0 else 1
def resX (p:Prg) (ls:List (List Nat)):List Nat:=if errI p ls=0 then outX p ls else []
theorem scalL_app:∀ {a b:List (InD × List Nat)},scalL (a ++ b)=scalL a ++ scalL b
 | [],b=>rfl
 | (d,ws) :: l,b=>by
  simp only [List.cons_append,scalL]
  split
  ·rw [scalL_app]; rfl
  ·exact scalL_app
theorem arrL_app:∀ {a b:List (InD × List Nat)},arrL (a ++ b)=arrL a ++ arrL b
 | [],b=>rfl
 | (d,ws) :: l,b=>by
  simp only [List.cons_append,arrL]
  split
  ·exact arrL_app
  ·rw [arrL_app]; rfl
theorem scalL_keys:∀ {l:List (InD × List Nat)},((scalL l).map (·.1)).Sublist (l.map fun r=>r.1.name)
 | []=>List.Sublist.refl _
 | (d,ws) :: l=>by
  simp only [scalL,List.map_cons]
  split
  ·exact scalL_keys.cons_cons _
  ·exact scalL_keys.cons _
theorem arrL_keys:∀ {l:List (InD × List Nat)},((arrL l).map (·.1)).Sublist (l.map fun r=>r.1.name)
 | []=>List.Sublist.refl _
 | (d,ws) :: l=>by
  simp only [arrL,List.map_cons]
  split
  ·exact arrL_keys.cons _
  ·exact arrL_keys.cons_cons _
theorem scalL_mem:∀ {l:List (InD × List Nat)} {d:InD} {ws:List Nat},(d,ws) ∈ l→d.size=0→(d.name,ws.getD 0 0) ∈ scalL l
 | (e,us) :: l,d,ws,hm,hz=>by
  simp only [scalL]
  rcases List.mem_cons.1 hm with h | h
  ·cases h; rw [if_pos hz]; exact List.mem_cons_self
  ·split
   ·exact List.mem_cons_of_mem _ (scalL_mem h hz)
   ·exact scalL_mem h hz
theorem arrL_mem:∀ {l:List (InD × List Nat)} {d:InD} {ws:List Nat},(d,ws) ∈ l→d.size ≠ 0→(d.name,ws) ∈ arrL l
 | (e,us) :: l,d,ws,hm,hz=>by
  simp only [arrL]
  rcases List.mem_cons.1 hm with h | h
  ·cases h; rw [if_neg hz]; exact List.mem_cons_self
  ·split
   ·exact arrL_mem h hz
   ·exact List.mem_cons_of_mem _ (arrL_mem h hz)
theorem insD_ins:∀ {l:List InD} {ls:List (List Nat)} {a:List Nat},(insD l ls a).map (·.1)=l
 | [],_,_=>rfl
 | d :: ds,ls,a=>by rw [insD,List.map_cons,insD_ins]
theorem insD_names {l:List InD} {ls:List (List Nat)} {a:List Nat}:(insD l ls a).map (fun r=>r.1.name)=l.map InD.name:=by
 have:=congrArg (List.map InD.name) (insD_ins (l:=l) (ls:=ls) (a:=a))
 rw [List.map_map] at this
 exact this
theorem insD_ok:∀ {l:List InD} {ls:List (List Nat)} {a a':List Nat},fitG l ls a=some a'→∀ r ∈ insD l ls a,r.2.length=sizeD r.1∧∀ v ∈ r.2,v < 2 ^ r.1.width.toNat
 | d :: ds,ls,a,a',h,r,hr=>by
  rw [fitG] at h
  split at h
  ·rename_i hd
   rw [insD] at hr
   rcases List.mem_cons.1 hr with e | hr
   ·subst e
    obtain ⟨h1,h2,h3⟩:=hd
    refine ⟨?_,h3⟩
    show (((ls.getD (frmD d) []).drop (a.getD (frmD d) 0)).take (sizeD d)).length=sizeD d
    rw [List.length_take,List.length_drop]; omega
   ·exact insD_ok h r hr
  ·cases h
theorem fitB_some {p:Prg} {ls:List (List Nat)} (h:fitB p ls=true):∃ a,fitG p.ins ls (atI0 ls)=some a:=by
 unfold fitB at h
 cases c:fitG p.ins ls (List.replicate ls.length 0) with
 | some a=>exact ⟨a,c⟩
 | none=>rw [c] at h; cases h
theorem start_in {p:Prg} (hn:(p.ins.map InD.name).Nodup) {ls:List (List Nat)} {y:ByteArray} {d:InD} (hd:inOf p y=some d):∃ ws,(d,ws) ∈ insD p.ins ls (atI0 ls)∧(d.size=0→(startX p ls).vars y=some (ws.getD 0 0))∧(d.size ≠ 0→findL y (arrL (insD p.ins ls (atI0 ls)))=some ws):=by
 obtain ⟨hm,rfl⟩:=inOf_mem hd
 rw [← insD_ins (l:=p.ins) (ls:=ls) (a:=atI0 ls)] at hm
 obtain ⟨⟨d',ws⟩,hm2,rfl⟩:=List.mem_map.1 hm
 rw [← insD_names (ls:=ls) (a:=atI0 ls)] at hn
 exact ⟨ws,hm2,fun hz=>findL_of_mem (List.Nodup.sublist scalL_keys hn) (scalL_mem hm2 hz),fun hz=>findL_of_mem (List.Nodup.sublist arrL_keys hn) (arrL_mem hm2 hz)⟩
theorem ag_start {p:Prg} (hp:PV p) {ls:List (List Nat)} (hf:fitB p ls=true):Ag p (initT p) (startX p ls):=by
 obtain ⟨a,ha⟩:=fitB_some hf
 have hn:=(List.nodup_append.1 hp.nm).1
 refine ⟨⟨(fun x k w h=>by cases h),(fun x n h=>by cases h),fun x d hd hz=>?_,fun x d hd hz=>?_,?_,fun i l l' hl hl'=>?_⟩,(fun v hv=>by cases hv),Nat.zero_le _⟩
 ·obtain ⟨ws,h1,h2,_⟩:=start_in hn (ls:=ls) hd
  obtain ⟨g1,g2⟩:=insD_ok ha _ h1
  refine ⟨_,h2 hz,g2 _ ?_⟩
  have g1:ws.length=sizeD d:=g1
  have:0 < ws.length:=by rw [g1]; unfold sizeD; omega
  rw [List.getD_eq_getElem?_getD,List.getElem?_eq_getElem this]
  exact List.getElem_mem this
 ·obtain ⟨ws,h1,_,h2⟩:=start_in hn (ls:=ls) hd
  obtain ⟨g1,g2⟩:=insD_ok ha _ h1
  have e:(startX p ls).inw x=ws:=by show (findL x _).getD []=ws; rw [h2 hz]; rfl
  have hd0:=hp.ins d (inOf_mem hd).1
  rw [e]
  have g1:ws.length=sizeD d:=g1
  refine ⟨by rw [g1]; unfold sizeD; omega,fun n=>?_⟩
  rw [List.getD_eq_getElem?_getD]
  cases c:ws[n]? with
  | none=>exact Nat.two_pow_pos _
  | some v=>exact g2 v (List.mem_of_getElem? c)
 ·show (p.arrays.map _).length=(p.arrays.map _).length
  rw [List.length_map,List.length_map]
 ·have hl:(p.arrays.map fun d=>List.replicate d.size.toNat 1)[i]?=some l:=hl
  have hl':(p.arrays.map fun d=>List.replicate d.size.toNat 0)[i]?=some l':=hl'
  rw [List.getElem?_map] at hl hl'
  cases c:p.arrays[i]? with
  | none=>rw [c] at hl; cases hl
  | some d =>
   rw [c] at hl hl'
   cases hl; cases hl'
   refine ⟨by rw [List.length_replicate,List.length_replicate],fun n=>?_⟩
   rw [List.getD_eq_getElem?_getD,List.getElem?_replicate]
   have:=Nat.two_pow_pos ((List.replicate d.size.toNat 1).getD n 0)
   split
   ·exact this
   ·exact this
theorem UpH.same {h h':H} (u:UpH h h') {j:Nat} {o:O} (hj:j < h.next) (ho:h.objs j=some o):h'.objs j=some o:=by rw [u.old j hj]; exact ho
namespace YtljoifdccjcidaaDoor
section
variable {h:H} {K:Out→H→Prop} {p:Prg}
theorem checkI (v:VT p) {ls:List (List Nat)} (ok:LsOk ls) (hK:∀ h',UpH h h'→K (.ret (I (errI p ls))) h'):R 16 [p.v,LV ls] h K:=by
 refine run16 (Nat.le_of_ble_eq_true rfl) ?_
 have hv0:p.v=V.agg [.vec (p.ins.map InD.v) .any,.vec (p.arrays.map ArD.v) .any,.vec (p.body.map Stm.v) .any]:=rfl
 have hL:LV ls=.vec (ls.map fun l=>.vec (Ws l) .any) .any:=rfl
 unfold errI at hK
 simp -dsimp -implicitDefEqProofs only [↓STP,STQ,seval,ir16,hv0,hL]
 rw [← hv0]
 refine checkG v fun h1 u1=>?_
 by_cases c:errT (checkT p)=0
 rotate_left
 ·rw [if_pos c] at hK
  simp -dsimp -implicitDefEqProofs only [↓STP,STQ,seval,eq_false c]
  exact hK h1 u1
 rw [if_neg (by simp [c])] at hK
 simp -dsimp -implicitDefEqProofs only [↓STP,STQ,seval,eq_true c,hv0,hL]
 rw [← hv0,← hL]
 refine fitI v ok fun h2 u2=>?_
 cases f:fitB p ls with
 | true =>
  rw [f] at hK
  simp -dsimp -implicitDefEqProofs only [↓STP,STQ,seval]
  exact hK h2 (u1.trans u2)
 | false =>
  rw [f] at hK
  simp -dsimp -implicitDefEqProofs only [↓STP,STQ,seval]
  exact hK h2 (u1.trans u2)
end
end YtljoifdccjcidaaDoor
end Go.Ab
namespace Go.Ab
structure Bi (b:Nat) (h0:H) (es:List (ByteArray × Nat)) (ws:List (ByteArray × Nat × Nat)) (wd:List (ByteArray × List Nat)) (a:List Nat) (h:H):Prop where
 x:h.objs (b + 2)=some (.cells [.nilmap,.map (b + 1),.vec [] .full])
 f:∃ ver,h.objs b=some (.map (mapO wV es) ver)
 w:∃ ver,h.objs (b + 1)=some (.map (mapO refV ws) ver)
 t:h.objs (b + 3)=some (.cells (natVs a))
 cs:∀ y l,findL y wd=some l→∃ id,findL y ws=some (id,l.length)∧h.objs id=some (.cells (Ws l))
 keys:ws.map (·.1)=wd.map (·.1)
 ids:(ws.map fun r=>r.2.1).Nodup
 lt:∀ r ∈ ws,b + 4 ≤ r.2.1∧r.2.1 < h.next
 nx:b + 4 ≤ h.next
 old:∀ j,j < b→h.objs j=h0.objs j
theorem Bi.scal {b:Nat} {h0 h:H} {es:List (ByteArray × Nat)} {ws:List (ByteArray × Nat × Nat)} {wd:List (ByteArray × List Nat)} {a:List Nat} (B:Bi b h0 es ws wd a h) {es':List (ByteArray × Nat)} {ver:Nat} :
  Bi b h0 es' ws wd a (h.set b (.map (mapO wV es') ver)):=by
 refine ⟨?_,⟨ver,by rw [set_objs,if_pos rfl]⟩,?_,?_,fun y l hl=>?_,B.keys,B.ids,B.lt,B.nx,fun j hj=>?_⟩
 ·rw [set_objs,if_neg (by omega)]; exact B.x
 ·rw [set_objs,if_neg (by omega)]; exact B.w
 ·rw [set_objs,if_neg (by omega)]; exact B.t
 ·obtain ⟨id,h1,h2⟩:=B.cs y l hl
  have:=B.lt _ (findL_mem h1)
  simp only at this
  exact ⟨id,h1,by rw [set_objs,if_neg (by omega)]; exact h2⟩
 ·rw [set_objs,if_neg (by omega)]; exact B.old j hj
theorem Bi.step {b:Nat} {h0 h:H} {es:List (ByteArray × Nat)} {ws:List (ByteArray × Nat × Nat)} {wd:List (ByteArray × List Nat)} {a:List Nat} (B:Bi b h0 es ws wd a h) {a':List Nat} :
  Bi b h0 es ws wd a' (h.set (b + 3) (.cells (natVs a'))):=by
 have nx:=B.nx
 refine ⟨?_,?_,?_,by rw [set_objs,if_pos rfl],fun y l hl=>?_,B.keys,B.ids,B.lt,B.nx,fun j hj=>?_⟩
 ·rw [set_objs,if_neg (by omega)]; exact B.x
 ·rw [set_objs,if_neg (by omega)]; exact B.f
 ·rw [set_objs,if_neg (by omega)]; exact B.w
 ·obtain ⟨id,h1,h2⟩:=B.cs y l hl
  have:=B.lt _ (findL_mem h1)
  simp only at this
  exact ⟨id,h1,by rw [set_objs,if_neg (by omega)]; exact h2⟩
 ·rw [set_objs,if_neg (by omega)]; exact B.old j hj
theorem Bi.array {b:Nat} {h0 h:H} {es:List (ByteArray × Nat)} {ws:List (ByteArray × Nat × Nat)} {wd:List (ByteArray × List Nat)} {a:List Nat} (B:Bi b h0 es ws wd a h) {y:ByteArray} {l:List Nat} {ver:Nat} (hy:y ∉ wd.map (·.1)) :
  Bi b h0 es (ws ++ [(y,h.next,l.length)]) (wd ++ [(y,l)]) a ((h.new (.cells (Ws l))).set (b + 1) (.map (mapO refV (ws ++ [(y,h.next,l.length)])) ver)):=by
 have nx:=B.nx
 have hyw:y ∉ ws.map (·.1):=by rw [B.keys]; exact hy
 refine ⟨?_,?_,⟨ver,by rw [set_objs,if_pos rfl]⟩,?_,fun z m hz=>?_,by rw [List.map_append,List.map_append,B.keys]; rfl,?_,fun r hr=>?_,by rw [set_next,new_next]; omega,fun j hj=>?_⟩
 ·rw [set_objs,if_neg (by omega),new_objs,if_neg (by omega)]; exact B.x
 ·rw [set_objs,if_neg (by omega),new_objs,if_neg (by omega)]; exact B.f
 ·rw [set_objs,if_neg (by omega),new_objs,if_neg (by omega)]; exact B.t
 ·by_cases c:z=y
  ·subst c
   rw [findL_last hy] at hz
   cases hz
   exact ⟨h.next,findL_last hyw,by rw [set_objs,if_neg (by omega),new_objs,if_pos rfl]⟩
  ·have key:∀ {α:Type} {q:List (ByteArray × α)} {v:α},findL z (q ++ [(y,v)])=findL z q:=by
    intro α q v
    induction q with
    | nil=>simp only [List.nil_append,findL]; rw [if_neg (fun e=>c e.symm)]
    | cons e es ih=>simp only [List.cons_append,findL,ih]
   rw [key] at hz ⊢
   obtain ⟨id,h1,h2⟩:=B.cs z m hz
   have:=B.lt _ (findL_mem h1)
   simp only at this
   exact ⟨id,h1,by rw [set_objs,if_neg (by omega),new_objs,if_neg (by omega)]; exact h2⟩
 ·rw [List.map_append]
  refine List.nodup_append.2 ⟨B.ids,by simp,fun u hu v hv e=>?_⟩
  simp only [List.map_cons,List.map_nil,List.mem_singleton] at hv
  obtain ⟨r,hr,rfl⟩:=List.mem_map.1 hu
  have:=(B.lt r hr).2
  omega
 ·rw [set_next,new_next]
  rcases List.mem_append.1 hr with hr | hr
  ·have:=B.lt r hr; omega
  ·rw [List.mem_singleton] at hr; subst hr
   exact ⟨nx,Nat.lt_succ_self _⟩
 ·rw [set_objs,if_neg (by omega),new_objs,if_neg (by omega)]; exact B.old j hj
theorem app_newWs {st:S} {s:Nat} {l:List Nat} {c:Cap} (h1:0 < l.length) (h2:l.length ≤ 1000):appV st s (.vec [] .full) (.vec (Ws l) c) 1 8 false true=some (.ref st.h.next 0 l.length 1,st.withH (st.h.new (.cells (Ws l)))):=by
 have hf:(Ws l).flatMap V.cells=Ws l:=by
  unfold Ws
  induction l with
  | nil=>rfl
  | cons x xs ih =>
   rw [List.map_cons,List.flatMap_cons]
   cases xs with
   | nil=>rfl
   | cons y ys=>rw [ih (by simp) (by simp at h2 ⊢; omega)]; rfl
 simp only [appV,lenV,flat,hf]
 rw [if_pos ⟨by rw [Ws_length,Nat.mul_one],by decide,by decide⟩,if_pos ⟨by rw [Ws_length]; unfold most; omega,by rw [Ws_length]; exact h1⟩,Ws_length]
theorem Ws_zeros {n:Nat}:(List.replicate n [V.int .u64 0]).flatten=Ws (List.replicate n 0):=by
 induction n with
 | zero=>rfl
 | succ n ih=>rw [List.replicate_succ,List.flatten_cons,ih,List.replicate_succ]; rfl
theorem findL_app_some {α:Type} {y:ByteArray} {v:α}:∀ {a b:List (ByteArray × α)},findL y a=some v→findL y (a ++ b)=some v
 | (z,w) :: a,b,h=>by
  simp only [List.cons_append,findL] at h ⊢
  split at h
  ·rename_i e; rw [if_pos e]; exact h
  ·rename_i e; rw [if_neg e]; exact findL_app_some h
def zerL (l:List ArD):List (ByteArray × List Nat):=l.map fun d=>(d.name,List.replicate d.size.toNat 0)
theorem told_flat:∀ {l:List Nat},(l.map fun n=>[W n]).flatten=Ws l
 | []=>rfl
 | n :: l=>by rw [List.map_cons,List.flatten_cons,told_flat]; rfl
theorem zerL_snoc {l:List ArD} {d:ArD}:zerL (l ++ [d])=zerL l ++ [(d.name,List.replicate d.size.toNat 0)]:=by unfold zerL; rw [List.map_append]; rfl
theorem zerL_keys {l:List ArD}:(zerL l).map (·.1)=l.map ArD.name:=by unfold zerL; rw [List.map_map]; rfl
namespace YtljoifdccjcidaaDoor
theorem clone2G {h:H} {K:Out→H→Prop} {id ver:Nat} {es:List (V × V)} (ho:h.objs id=some (.map es ver)) (hK:K (.ret (.map h.next)) (h.new (.map es 0))):R 29 [.map id] h K:=
 runs_ext ext2 (x:=cloneX) rfl (n:=0) ⟨id,es,ver,rfl,mapAt_of ho,hK⟩
section
variable {h:H} {K:Out→H→Prop} {p:Prg}
theorem runI (v:VT p) {ls:List (List Nat)} (ok:LsOk ls) (hK:∀ h' r,UpH h h'→WordsAt h' r (resX p ls)→K (.ret (.tuple [r,I (errI p ls)])) h'):R 13 [p.v,LV ls] h K:=by
 refine run13 (Nat.le_of_ble_eq_true rfl) ?_
 have hv0:p.v=V.agg [.vec (p.ins.map InD.v) .any,.vec (p.arrays.map ArD.v) .any,.vec (p.body.map Stm.v) .any]:=rfl
 have hL:LV ls=.vec (ls.map fun l=>.vec (Ws l) .any) .any:=rfl
 have hlen:=ok.len
 have pli:=v.ok.li
 have pla:=v.ok.la
 have hm:=maxLen_eq
 simp -dsimp -implicitDefEqProofs only [↓STP,STQ,seval,ir13,hv0,hL]
 rw [← hv0,← hL]
 refine checkI v ok fun h1 u1=>?_
 by_cases c:errI p ls=0
 rotate_left
 ·have:resX p ls=[]:=if_neg c
  rw [this] at hK
  simp -dsimp -implicitDefEqProofs only [↓STP,STQ,seval,eq_false c]
  exact hK h1 _ u1 (.inl rfl)
 have hres:resX p ls=outX p ls:=if_pos c
 rw [hres,c] at hK
 have hc:errT (checkT p)=0:=by
  unfold errI at c
  by_cases q:errT (checkT p)=0
  ·exact q
  ·rw [if_pos q] at c; exact c
 have hf:fitB p ls=true:=by
  unfold errI at c
  rw [if_neg (by simp [hc])] at c
  cases q:fitB p ls with
  | true=>rfl
  | false=>rw [q] at c; exact absurd c (by decide)
 obtain ⟨σ,hσ⟩:=errT_ok hc checkT_nz
 obtain ⟨hu,hs⟩:=check_inv hσ
 have hp:=PV_of v hu
 obtain ⟨aE,haE⟩:=fitB_some hf
 simp -dsimp -implicitDefEqProofs only [↓STP,STQ,seval,eq_true c,hv0,hL,List.length_map,mksN_ok (n:=ls.length) (sz:=1) (bytes:=8) (by omega) (by decide) (by decide),natVs_zero,new_next]
 have hnd:((insD p.ins ls (atI0 ls)).map fun r=>r.1.name).Nodup:=by rw [insD_names]; exact (List.nodup_append.1 hp.nm).1
 have haE:fitG p.ins ls (List.replicate ls.length 0)=some aE:=haE
 refine codeT_loop (fun c s'=>∃ j a h' acc ws,j ≤ p.ins.length∧c=p.ins.length - j∧a.length=ls.length∧fitG (p.ins.drop j) ls a=some aE∧insD p.ins ls (atI0 ls)=acc ++ insD (p.ins.drop j) ls a∧Bi h1.next h1 (scalL acc) ws (arrL acc) a h' ∧
  s'=⟨upd (upd (upd (upd (upd (upd (upd (upd ρ0 1 (LV ls)) 2 (.lptr 0 3 0)) 7 (.map h1.next)) 8 (.ptr (h1.next + 2) 0)) 9 (.ref (h1.next + 3) 0 ls.length 1)) 29 (.vec (p.ins.map InD.v) .any)) 30 (I p.ins.length)) 31 (I j),upd m0 0 (some [.vec (p.ins.map InD.v) .any,.vec (p.arrays.map ArD.v) .any,.vec (p.body.map Stm.v) .any]),1,[],h'⟩)
  (i:=p.ins.length) ⟨0,List.replicate ls.length 0,_,[],[],Nat.zero_le _,rfl,by simp,haE,rfl,?_,by simp -dsimp -implicitDefEqProofs only [↓STP,STQ,seval,LV] <;> rfl⟩ ?_ mono
 ·refine ⟨?_,⟨0,?_⟩,⟨0,?_⟩,?_,fun y l hl=>(by cases hl),rfl,by simp,fun r hr=>(by cases hr),?_,fun i hi=>?_⟩
  ·simp [new_objs,new_next]
  ·rw [new_objs,if_neg (by simp only [new_next]; omega),new_objs,if_neg (by simp only [new_next]; omega),new_objs,if_neg (by simp only [new_next]; omega),new_objs,if_pos rfl]; rfl
  ·simp [new_objs,new_next,mapO]
  ·simp [new_objs,new_next]
  ·simp [new_next]
  ·rw [new_objs,if_neg (by simp only [new_next]; omega),new_objs,if_neg (by simp only [new_next]; omega),new_objs,if_neg (by simp only [new_next]; omega),new_objs,if_neg (by omega)]
 rintro cc s' ⟨j,a,h',acc,ws,hj,rfl,hal,hr,hin,B,rfl⟩
 rcases Nat.lt_or_ge j p.ins.length with hi | hi
 ·have hget:=get_map (f:=InD.v) hi
  have hdm:p.ins[j] ∈ p.ins:=List.getElem_mem hi
  have hdi:=v.ins _ hdm
  have w1:=wiM (show j < 9223372036854775807 by omega)
  have hdr:p.ins.drop j=p.ins[j] :: p.ins.drop (j + 1):=List.drop_eq_getElem_cons hi
  rw [hdr] at hr hin
  rw [fitG] at hr
  rw [insD] at hin
  generalize p.ins[j]=d at *
  split at hr
  rotate_left
  ·cases hr
  rename_i hok
  obtain ⟨hf,hkN,hwid⟩:=hok
  have hname:d.name ∉ acc.map fun r=>r.1.name:=by
   rw [hin,List.map_append,List.map_cons] at hnd
   exact fun hh=>(List.nodup_append.1 hnd).2.2 _ hh _ List.mem_cons_self rfl
  have hin2:insD p.ins ls (atI0 ls)=(acc ++ [(d,wordsD ls a d)]) ++ insD (p.ins.drop (j + 1)) ls (nextD a d):=by rw [hin,List.append_assoc]; rfl
  have hf1:=hdi.f1
  have hf2:=hdi.f2
  have efr:((frmD d:Nat):Int)=d.frm - 1:=by unfold frmD; omega
  have hfI:IntKind.i64.wrap (d.frm - 1)=((frmD d:Nat):Int):=by
   rw [efr,wrap_i64] <;> omega
  have hsz:sizeD d ≤ 64:=by have:=hdi.s2; unfold sizeD; omega
  have hs1:=hdi.s1
  have hs2:=hdi.s2
  have gl:=LV_get hf
  obtain ⟨okl,okw⟩:=ok.get (frmD d)
  have gt:=get_of B.t
  have hfa:frmD d < a.length:=by omega
  have ga:=natVs_get hfa
  have hfI':((frmD d:Nat):Int) < ((ls.length:Nat):Int):=by omega
  have wN:IntKind.i64.wrap (((a.getD (frmD d) 0:Nat):Int) + ((sizeD d:Nat):Int))=((a.getD (frmD d) 0 + sizeD d:Nat):Int):=by rw [wrap_i64] <;> omega
  have sd:=slc_drop (xs:=Ws (ls.getD (frmD d) [])) (c:=.any) (i:=a.getD (frmD d) 0) (sz:=1) (k:=.i64) (by rw [Ws_length]; omega) Ws_cells (by simp)
  rw [Ws_drop] at sd
  have stw:=fun ρ m n' u=>storeF (ρ:=ρ) (m:=m) (n:=n') (u:=u) (j:=frmD d) (v:=I ((a.getD (frmD d) 0 + sizeD d:Nat):Int)) gt (by rw [natVs_len]; omega) rfl rfl
  rw [natVs_set] at stw
  have B2:=B.step (a':=nextD a d)
  unfold nextD at B2 hr hin2
  have hal2:(a.set (frmD d) (a.getD (frmD d) 0 + sizeD d)).length=ls.length:=by rw [List.length_set]; exact hal
  simp -dsimp -implicitDefEqProofs only [↓STP,STQ,seval,Int.ofNat_lt,hi,hget,inV_cells,storeV,LV,gl,hfI,eq_true hfI',Nat.mul_one,gt,ga,sd]
  rw [← inV_cells]
  refine sizeI hs1 ?_
  simp -dsimp -implicitDefEqProofs only [↓STP,STQ,seval,inV_cells,hfI,eq_true hfI',Nat.mul_one,gt,ga,wN,stw]
  unfold wordsD at hin2 hwid
  generalize frmD d=f at *
  generalize hld:ls.getD f []=l at *
  generalize hkd:a.getD f 0=k0 at *
  generalize hN:sizeD d=N at *
  generalize hhs:h'.set (h1.next + 3) (.cells (natVs (a.set f (k0 + N))))=h2 at *
  have hN1:1 ≤ N:=by rw [← hN]; unfold sizeD; omega
  have hwl:((l.drop k0).take N).length=N:=by rw [List.length_take,List.length_drop]; omega
  by_cases hz:d.size=0
  ·obtain ⟨vf,hvf⟩:=B2.f
   have hg0:(Ws (l.drop k0))[0]?=some (W (((l.drop k0).take N).getD 0 0)):=by
    rw [Ws_get,List.getD_eq_getElem?_getD,List.getElem?_take,if_pos (by omega),List.getElem?_eq_getElem (by rw [List.length_drop]; omega)]; rfl
   obtain ⟨ver',hup⟩:=mup_ok (f:=wV) (s:=d.name) (v:=((l.drop k0).take N).getD 0 0) hvf
   rw [setE_new (fun hh=>hname (scalL_keys.subset hh))] at hup
   have hup:mupV h2 .s (.map h1.next) (.str d.name) (W (((l.drop k0).take N).getD 0 0))=_:=hup
   simp -dsimp -implicitDefEqProofs only [↓STP,STQ,seval,eq_true hz,hg0,hup,w1]
   refine ⟨p.ins.length - (j + 1),by omega,j + 1,_,_,acc ++ [(d,(l.drop k0).take N)],ws,hi,rfl,hal2,hr,hin2,?_,rfl⟩
   have e1:scalL (acc ++ [(d,(l.drop k0).take N)])=scalL acc ++ [(d.name,((l.drop k0).take N).getD 0 0)]:=by rw [scalL_app]; simp only [scalL]; rw [if_pos hz]
   have e2:arrL (acc ++ [(d,(l.drop k0).take N)])=arrL acc:=by rw [arrL_app]; simp only [arrL]; rw [if_pos hz,List.append_nil]
   rw [e1,e2]
   exact B2.scal
  ·obtain ⟨vw,hvw⟩:=B2.w
   have gx:=get_of B2.x
   have hsN:d.size=((N:Nat):Int):=by rw [← hN]; unfold sizeD; omega
   have sl:slcV (.vec (Ws (l.drop k0)) .any) none (some (I d.size)) none 1=some (.vec (Ws ((l.drop k0).take N)) .any):=by
    rw [hsN,slc_take (by rw [Ws_length,List.length_drop]; omega) (by simp),Ws_take]
   have hwm:d.name ∉ ws.map (·.1):=by rw [B2.keys]; exact fun hh=>hname (arrL_keys.subset hh)
   have hvw3:(h2.new (.cells (Ws ((l.drop k0).take N)))).objs (h1.next + 1)=some (.map (mapO refV ws) vw):=by rw [new_objs,if_neg (by have:=B2.nx; omega)]; exact hvw
   obtain ⟨ver',hup⟩:=mup_ok (f:=refV) (s:=d.name) (v:=(h2.next,N)) hvw3
   rw [setE_new hwm,show refV (h2.next,N)=V.ref h2.next 0 N 1 from rfl] at hup
   have ap:=fun (st:S) (q:Nat) (c:Cap)=>app_newWs (st:=st) (s:=q) (l:=(l.drop k0).take N) (c:=c) (by omega) (by omega)
   rw [hwl] at ap
   have B3:=B2.array (y:=d.name) (l:=(l.drop k0).take N) (ver:=ver') (fun hh=>hname (arrL_keys.subset hh))
   rw [hwl] at B3
   have gx3:(h2.new (.cells (Ws ((l.drop k0).take N)))).get (h1.next + 2)=some [.nilmap,.map (h1.next + 1),.vec [] .full]:=get_of (by rw [new_objs,if_neg (by have:=B2.nx; omega)]; exact B2.x)
   simp -dsimp -implicitDefEqProofs only [↓STP,STQ,seval,eq_false hz,gx,sl,ap,gx3,hup,w1]
   refine ⟨p.ins.length - (j + 1),by omega,j + 1,_,_,acc ++ [(d,(l.drop k0).take N)],ws ++ [(d.name,h2.next,N)],hi,rfl,hal2,hr,hin2,?_,rfl⟩
   have e1:scalL (acc ++ [(d,(l.drop k0).take N)])=scalL acc:=by rw [scalL_app]; simp only [scalL]; rw [if_neg hz,List.append_nil]
   have e2:arrL (acc ++ [(d,(l.drop k0).take N)])=arrL acc ++ [(d.name,(l.drop k0).take N)]:=by rw [arrL_app]; simp only [arrL]; rw [if_neg hz]
   rw [e1,e2]
   exact B3
 ·have hj':j=p.ins.length:=by omega
  subst hj'
  rw [List.drop_length,insD,List.append_nil] at hin
  rw [← hin] at B
  simp -dsimp -implicitDefEqProofs only [↓STP,STQ,seval,Int.lt_irrefl]
  generalize hes:scalL (insD p.ins ls (atI0 ls))=es at *
  generalize hwd:arrL (insD p.ins ls (atI0 ls))=wd0 at *
  refine codeT_loop (fun c s'=>∃ j h' ws,j ≤ p.arrays.length∧c=p.arrays.length - j∧Bi h1.next h1 es ws (wd0 ++ zerL (p.arrays.take j)) a h' ∧
   s'=⟨upd (upd (upd (upd (upd (upd ρ0 2 (.lptr 0 3 0)) 7 (.map h1.next)) 8 (.ptr (h1.next + 2) 0)) 80 (.vec (p.arrays.map ArD.v) .any)) 81 (I p.arrays.length)) 82 (I j),upd m0 0 (some [.vec (p.ins.map InD.v) .any,.vec (p.arrays.map ArD.v) .any,.vec (p.body.map Stm.v) .any]),1,[],h'⟩)
   (i:=p.arrays.length) ⟨0,h',ws,Nat.zero_le _,rfl,by rw [List.take_zero,show zerL []=[] from rfl,List.append_nil]; exact B,by simp -dsimp -implicitDefEqProofs only [↓STP,STQ,seval,List.length_map] <;> rfl⟩ ?_ mono
  clear B
  rintro cc s' ⟨j,h',ws,hj,rfl,B,rfl⟩
  rcases Nat.lt_or_ge j p.arrays.length with hi | hi
  ·have hget:=get_map (f:=ArD.v) hi
   have hdm:p.arrays[j] ∈ p.arrays:=List.getElem_mem hi
   have hdi:=v.ars _ hdm
   have w1:=wiM (show j < 9223372036854775807 by omega)
   have htk:p.arrays.take (j + 1)=p.arrays.take j ++ [p.arrays[j]]:=by rw [List.take_add_one,List.getElem?_eq_getElem hi]; rfl
   have hnew:p.arrays[j].name ∉ (wd0 ++ zerL (p.arrays.take j)).map (·.1):=by
    have hnm:=hp.nm
    have e:p.arrays=p.arrays.take j ++ p.arrays[j] :: p.arrays.drop (j + 1):=by rw [← List.drop_eq_getElem_cons hi,List.take_append_drop]
    rw [List.map_append,List.mem_append]
    rintro (hh | hh)
    ·rw [← hwd] at hh
     have h3:=arrL_keys.subset hh
     rw [insD_names] at h3
     exact (List.nodup_append.1 hnm).2.2 _ h3 _ (List.mem_map.2 ⟨_,hdm,rfl⟩) rfl
    ·have h2:=(List.nodup_append.1 hnm).2.1
     rw [e,List.map_append,List.map_cons] at h2
     rw [zerL_keys] at hh
     exact (List.nodup_append.1 h2).2.2 _ hh _ List.mem_cons_self rfl
   generalize p.arrays[j]=d at *
   have hs1:=hdi.s1
   have hs2:=hdi.s2
   have hsN:d.size=((d.size.toNat:Nat):Int):=by omega
   obtain ⟨vw,hvw⟩:=B.w
   have gx:=get_of B.x
   have hwm:d.name ∉ ws.map (·.1):=by rw [B.keys]; exact hnew
   have hvw3:(h'.new (.cells (Ws (List.replicate d.size.toNat 0)))).objs (h1.next + 1)=some (.map (mapO refV ws) vw):=by rw [new_objs,if_neg (by have:=B.nx; omega)]; exact hvw
   obtain ⟨ver',hup⟩:=mup_ok (f:=refV) (s:=d.name) (v:=(h'.next,d.size.toNat)) hvw3
   rw [setE_new hwm,show refV (h'.next,d.size.toNat)=V.ref h'.next 0 d.size.toNat 1 from rfl] at hup
   have mk:mksN (I d.size) (I d.size) 1 8=some d.size.toNat:=by rw [hsN,mksN_ok (by omega) (by decide) (by decide)]; rfl
   have B3:=B.array (y:=d.name) (l:=List.replicate d.size.toNat 0) (ver:=ver') hnew
   rw [List.length_replicate] at B3
   have gx3:(h'.new (.cells (Ws (List.replicate d.size.toNat 0)))).get (h1.next + 2)=some [.nilmap,.map (h1.next + 1),.vec [] .full]:=get_of (by rw [new_objs,if_neg (by have:=B.nx; omega)]; exact B.x)
   simp -dsimp -implicitDefEqProofs only [↓STP,STQ,seval,Int.ofNat_lt,hi,hget,ArD.v_cells,ArD.v_clen,storeV,gx,mk,Ws_zeros,gx3,hup,w1]
   refine ⟨p.arrays.length - (j + 1),by omega,j + 1,_,ws ++ [(d.name,h'.next,d.size.toNat)],hi,rfl,?_,rfl⟩
   rw [htk,zerL_snoc,← List.append_assoc]
   exact B3
  ·have hj':j=p.arrays.length:=by omega
   subst hj'
   rw [List.take_length] at B
   obtain ⟨vf,hvf⟩:=B.f
   have nx:=B.nx
   simp -dsimp -implicitDefEqProofs only [↓STP,STQ,seval,Int.lt_irrefl]
   refine clone2G hvf ?_
   have gx:=get_of (show (h'.new (.map (mapO wV es) 0)).objs (h1.next + 2)=_ by rw [new_objs,if_neg (by omega)]; exact B.x)
   have st:∀ ρ m n' u,storeV ⟨ρ,m,n',u,h'.new (.map (mapO wV es) 0)⟩ (.ptr (h1.next + 2) 0) (.map h'.next) 1=some ⟨ρ,m,n',u,(h'.new (.map (mapO wV es) 0)).set (h1.next + 2) (.cells [.map h'.next,.map (h1.next + 1),.vec [] .full])⟩:=fun ρ m n' u=>storeF (j:=0) gx (show 0 < 3 by decide) rfl rfl
   generalize hh5:(h'.new (.map (mapO wV es) 0)).set (h1.next + 2) (.cells [.map h'.next,.map (h1.next + 1),.vec [] .full])=h5 at *
   simp -dsimp -implicitDefEqProofs only [↓STP,STQ,seval,st]
   have objs5:∀ j,j < h'.next→j ≠ h1.next + 2→h5.objs j=h'.objs j:=fun j hj hne=>by rw [← hh5,set_objs,if_neg hne,new_objs,if_neg (by omega)]
   have next5:h5.next=h'.next + 1:=by rw [← hh5]; rfl
   have A:AtI p ⟨h1.next + 2,h'.next,h1.next + 1,h1.next + 3,.vec [] .full,es,ws⟩ (startX p ls) h5:=by
    have hkn:((wd0 ++ zerL p.arrays).map (·.1)).Nodup:=by
     rw [List.map_append,zerL_keys,← hwd]
     refine List.Nodup.sublist ?_ hp.nm
     have:=arrL_keys (l:=insD p.ins ls (atI0 ls))
     rw [insD_names] at this
     exact List.Sublist.append this (List.Sublist.refl _)
    refine ⟨by rw [← hh5,set_objs,if_pos rfl],⟨0,?_⟩,?_,fun y=>?_,?_,fun i d hd=>?_,fun y d hd hz=>?_,⟨fun c hc=>(by cases hc),.inl ⟨rfl,rfl⟩⟩,by rw [B.keys]; exact hkn,?_,fun id hi=>?_⟩
    ·show h5.objs h'.next=_
     rw [← hh5,set_objs,if_neg (by omega),new_objs,if_pos rfl]
    ·show ∃ ver,h5.objs (h1.next + 1)=_
     rw [objs5 _ (by omega) (by omega)]; exact B.w
    ·show findL y es=findL y (scalL (insD p.ins ls (atI0 ls)))
     rw [hes]
    ·show (es.map (·.1)).Nodup
     rw [← hes]
     exact List.Nodup.sublist scalL_keys hnd
    ·have hmem:(d.name,List.replicate d.size.toNat 0) ∈ wd0 ++ zerL p.arrays:=List.mem_append_right _ (List.mem_map.2 ⟨d,List.mem_of_getElem? hd,rfl⟩)
     obtain ⟨id,q1,q2⟩:=B.cs _ _ (findL_of_mem hkn hmem)
     have:=B.lt _ (findL_mem q1)
     simp only at this
     refine ⟨id,_,?_,q1,by rw [objs5 _ (by omega) (by omega)]; exact q2⟩
     show (p.arrays.map fun d=>List.replicate d.size.toNat 0)[i]?=_
     rw [List.getElem?_map,hd]; rfl
    ·obtain ⟨us,_,_,h2⟩:=start_in (List.nodup_append.1 hp.nm).1 (ls:=ls) hd
     have h2:=h2 hz
     have e:(startX p ls).inw y=us:=by show (findL y _).getD []=us; rw [h2]; rfl
     rw [hwd] at h2
     obtain ⟨id,q1,q2⟩:=B.cs y us (findL_app_some h2)
     have:=B.lt _ (findL_mem q1)
     simp only at this
     rw [e]
     exact ⟨id,q1,by rw [objs5 _ (by omega) (by omega)]; exact q2⟩
    ·have hl:∀ i ∈ ws.map (fun r=>r.2.1),h1.next + 4 ≤ i∧i < h'.next:=fun i hi=>by
      obtain ⟨r,hr,rfl⟩:=List.mem_map.1 hi
      exact B.lt r hr
     have no:∀ i,(i < h1.next + 4∨h'.next ≤ i)→i ∉ ws.map (fun r=>r.2.1):=fun i hi hm=>by have:=hl i hm; omega
     simp only [Ik.own,List.cons_append,List.nil_append,List.nodup_cons,List.mem_cons,not_or]
     exact ⟨⟨by omega,by omega,by omega,no _ (by omega)⟩,⟨by omega,by omega,no _ (by omega)⟩,⟨by omega,no _ (by omega)⟩,no _ (by omega),B.ids⟩
    ·simp only [Ik.own,List.cons_append,List.nil_append,List.mem_cons] at hi
     rw [next5]
     rcases hi with e | e | e | e | e
     ·omega
     ·omega
     ·omega
     ·omega
     ·obtain ⟨r,hr,rfl⟩:=List.mem_map.1 e
      have:=B.lt r hr; omega
   have own5:∀ id,id < h1.next→id ∉ Ik.own ⟨h1.next + 2,h'.next,h1.next + 1,h1.next + 3,.vec [] .full,es,ws⟩:=fun id hl hi=>by
    simp only [Ik.own,List.cons_append,List.nil_append,List.mem_cons] at hi
    rcases hi with e | e | e | e | e
    ·omega
    ·omega
    ·omega
    ·omega
    ·obtain ⟨r,hr,rfl⟩:=List.mem_map.1 e
     have:=B.lt r hr; omega
   refine bodyI hp v.ok.lb v.body v.ok.body (initT p) σ ⟨h1.next + 2,h'.next,h1.next + 1,h1.next + 3,.vec [] .full,es,ws⟩ (startX p ls) h5 _ A (ag_start hp hf) (TOk_init v.ins v.ars) hs fun L6 h6 A6 F6=>?_
   have gx6:=get_of A6.x
   rw [F6.x] at gx6
   have gx6:h6.get (h1.next + 2)=some [.map L6.v,.map L6.w,L6.tv]:=gx6
   have u6:UpH h1 h6:=⟨by have:=F6.nx; omega,fun j hj=>by rw [F6.same j (by omega) (own5 j hj),objs5 j (by omega) (by omega)]; exact B.old j hj⟩
   have ho:outX p ls=(runsX p p.body (startX p ls)).told:=rfl
   rw [ho] at hK
   have g6:=A6.told.2
   generalize (runsX p p.body (startX p ls)).told=told at hK g6
   rcases g6 with ⟨e1,e2⟩ | ⟨e1,e2,e3⟩
   ·have e1:told=[]:=List.map_eq_nil_iff.1 e1
    simp -dsimp -implicitDefEqProofs only [↓STP,STQ,seval,gx6,e2]
    exact hK h6 _ (u1.trans u6) (.inl (by rw [e1]; rfl))
   ·rw [List.length_map] at e2
    have e3:h6.get L6.t=some (Ws told):=by rw [e3,told_flat]
    simp -dsimp -implicitDefEqProofs only [↓STP,STQ,seval,gx6,e2]
    exact hK h6 _ (u1.trans u6) (.inr ⟨L6.t,A6.lt _ Ik.mem.2.2.2,rfl,e3⟩)
end
end YtljoifdccjcidaaDoor
end Go.Ab
namespace Go.Ab
namespace YtljoifdccjcidaaDoor
section
variable {h:H} {K:Out→H→Prop}
end
end YtljoifdccjcidaaDoor
end Go.Ab
namespace Go.Ab
namespace YtljoifdccjcidaaDoor
section
variable {h:H} {K:Out→H→Prop}
end
end YtljoifdccjcidaaDoor
end Go.Ab
namespace Go.Ab
def eNum (n:Nat):Exp:=.mk 1 0 n noName []
def eName (y:ByteArray):Exp:=.mk 2 0 0 y []
def eOp (k:Int) (a b:Exp):Exp:=.mk 4 k 0 noName [a,b]
def eNot (a:Exp):Exp:=.mk 5 0 0 noName [a]
def eSel (c a b:Exp):Exp:=.mk 6 0 0 noName [c,a,b]
def sSet (y:ByteArray) (e:Exp):Stm:=.mk 1 y [e] [] []
def sOut (e:Exp):Stm:=.mk 5 noName [e] [] []
def sFor (y:ByteArray) (a b:Exp) (l:List Stm):Stm:=.mk 4 y [a,b] l []
theorem run_set {p:Prg} {y:ByteArray} {e:Exp} {s:RS}:runX p (sSet y e) s={ s with vars:=setM s.vars y (some (valX p s e)) }:=by rw [sSet,runX_mk]; rfl
theorem run_out {p:Prg} {e:Exp} {s:RS}:runX p (sOut e) s={ s with told:=s.told ++ [valX p s e] }:=by rw [sOut,runX_mk]; rfl
theorem val_num {p:Prg} {s:RS} {n:Nat}:valX p s (eNum n)=n:=by unfold eNum; rw [valX_mk]; rfl
theorem val_name {p:Prg} {s:RS} {y:ByteArray}:valX p s (eName y)=(s.vars y).getD 0:=by unfold eName; rw [valX_mk]; rfl
theorem val_sel {p:Prg} {s:RS} {c a b:Exp}:valX p s (eSel c a b)=if valX p s c=1 then valX p s a else valX p s b:=by unfold eSel; rw [valX_mk]; rfl
theorem val_op {p:Prg} {s:RS} {k:Int} {a b:Exp}:valX p s (eOp k a b)=opX k (valX p s a) (valX p s b):=by unfold eOp; rw [valX_mk]; rfl
theorem val_not {p:Prg} {s:RS} {a:Exp}:valX p s (eNot a)=1 - valX p s a:=by unfold eNot; rw [valX_mk]; rfl
theorem setM_self {f:ByteArray→Option Nat} {y:ByteArray} {v:Option Nat}:setM f y v y=v:=if_pos rfl
theorem exprs_one {p:Prg} {σ:TE} {e:Exp} {r:Kn} {m:Nat} (h:exprT p σ e=.ok (r,m)):exprsT p σ [e]=.ok ([r],max m 0):=by rw [exprsT,h,andT_ok,exprsT]; rfl
theorem exprT_num {p:Prg} {σ:TE} {n:Nat} (h:n < 1152921504606846976):exprT p σ (eNum n)=.ok (kcon n,max 0 (wid n)):=by
 have hw:wid n ≤ 60:=wid_le h (by decide)
 unfold eNum
 rw [exprT,exprsT,andT_ok]
 simp only
 unfold madeT
 rw [if_pos rfl,andT_ok]
 unfold toldT
 rw [if_pos (show (kcon n).kind=1 from rfl),if_neg (by show ¬ 60 < wid n; omega)]
 rfl
theorem exprT_name {p:Prg} {σ:TE} {y:ByteArray} {r:Kn} (h:nameT p σ y=.ok r) (hw:r.w ≤ 60):∃ m,exprT p σ (eName y)=.ok (r,m)∧(r.kind=1→r.w ≤ m)∧m ≤ max 0 r.w:=by
 unfold eName
 rw [exprT,exprsT,andT_ok]
 simp only
 unfold madeT
 rw [if_neg (by decide),if_pos rfl,h,andT_ok]
 unfold toldT
 split
 ·rw [if_neg (by omega)]; exact ⟨_,rfl,fun _=>Nat.le_max_right _ _,Nat.le_refl _⟩
 ·rename_i hk; exact ⟨_,rfl,fun h=>absurd h hk,Nat.zero_le _⟩
theorem errI_of_ok {p:Prg} {ls:List (List Nat)} {σ:TS} (h:checkT p=.ok σ):errI p ls=if fitB p ls then 0 else 1:=by
 unfold errI
 rw [h,if_neg (by simp [errT])]
theorem stepT_le {σ:TS} (h:σ.steps + 1 ≤ 10000):stepT σ=.ok { σ with steps:=σ.steps + 1 }:=by unfold stepT; rw [if_neg (by omega)]
theorem out_ok {p:Prg} {e:Exp} {σ:TS} {r:Kn} {m:Nat} (hs:σ.steps + 1 ≤ 10000) (he:exprT p σ.env e=.ok (r,m)) (hf:σ.ifs=0):stmtT p (sOut e) σ=.ok { σ with steps:=σ.steps + 1,most:=max σ.most (max m 0) }:=by
 rw [sOut,stmtT,stepT_le hs,andT_ok,exprs_one he,andT_ok]
 show stmt1 p 5 noName _ _ _ _=_
 unfold stmt1
 rw [if_neg (by decide),if_neg (by decide),if_neg (by decide),if_neg (by decide),if_neg (by show ¬ 0 < σ.ifs; omega)]
end Go.Ab
namespace Go.Ab.YtljoifdccjcidaaDoor
section
variable {h:H} {K:Out→H→Prop}
theorem same03W {a b:List Nat} {av bv:V} (ha:WordsAt h av a) (hb:WordsAt h bv b) (hl:a.length ≤ 20000) (hK:K (.ret (.bool (decide (a=b)))) h):R 15 [av,bv] h K:=by
 obtain ⟨p1,p2,p3,p4⟩:=ha.out
 obtain ⟨o1,o2,o3,o4⟩:=hb.out
 refine run15 (Nat.le_of_ble_eq_true rfl) ?_
 by_cases hlen:(a.length:Int)=b.length
 ·simp -dsimp -implicitDefEqProofs only [↓STP,STQ,seval,ir15,p4,o4,hlen]
  have hlen':a.length=b.length:=by omega
  refine codeT_for (N:=a.length) (fun i=>⟨upd (upd (upd ρ0 0 av) 1 bv) 5 (I i),m0,0,[],h⟩) (fun i=>a.take i=b.take i) (by simp -dsimp -implicitDefEqProofs only [↓STP,STQ,seval,p3,o3] <;> rfl) rfl (fun i hlt htk=>?_) (fun htk=>?_) mono
  ·obtain ⟨ptr1,r1,r2⟩:=ha.idx hlt
   obtain ⟨ptr,q1,q2⟩:=hb.idx (i:=i) (by omega)
   by_cases he:(a[i]:Int)=((b[i]'(by omega):Nat):Int)
   ·simp -dsimp -implicitDefEqProofs only [↓STP,STQ,seval,p4,o4,Int.ofNat_lt,hlt,r1,r2,q1,q2,he,wi (show i < 9000000000000000000 by omega),p3,o3]
    rw [List.take_add_one,List.take_add_one,htk,List.getElem?_eq_getElem hlt,List.getElem?_eq_getElem (by omega)]
    have:a[i]=b[i]'(by omega):=by omega
    rw [this]
   ·simp -dsimp -implicitDefEqProofs only [↓STP,STQ,seval,p4,o4,Int.ofNat_lt,hlt,r1,r2,q1,q2,he]
    have:a ≠ b:=fun h=>he (by subst h; rfl)
    rw [decide_eq_false this] at hK
    exact hK
  ·simp -dsimp -implicitDefEqProofs only [↓STP,STQ,seval,p4,o4,Int.lt_irrefl]
   have:a=b:=by
    have e1:a.take a.length=a:=List.take_of_length_le (by omega)
    have e2:b.take a.length=b:=List.take_of_length_le (by omega)
    rw [← e1,← e2,htk]
   rw [decide_eq_true this] at hK
   exact hK
 ·simp -dsimp -implicitDefEqProofs only [↓STP,STQ,seval,ir15,p4,o4,hlen]
  have:a ≠ b:=fun h=>hlen (by subst h; rfl)
  rw [decide_eq_false this] at hK
  exact hK
end
end Go.Ab.YtljoifdccjcidaaDoor
namespace Go.Ab
def nA:ByteArray:=⟨#[97]⟩
def nB:ByteArray:=⟨#[98]⟩
def nC:ByteArray:=⟨#[99]⟩
theorem isA:isName nA:=⟨by decide,by decide,⟨97,[],rfl,by decide⟩,by decide,by simp [words26,nA]⟩
theorem isB:isName nB:=⟨by decide,by decide,⟨98,[],rfl,by decide⟩,by decide,by simp [words26,nB]⟩
theorem isC:isName nC:=⟨by decide,by decide,⟨99,[],rfl,by decide⟩,by decide,by simp [words26,nC]⟩
def dA (w:Int):InD:=⟨nA,1,w,0⟩
def dB (w:Int):InD:=⟨nB,2,w,0⟩
def twoP (w:Int) (l:List Stm):Prg:=⟨[dA w,dB w],[],l⟩
theorem VE_nm {s:ByteArray} {lv:Nat} (h:isName s) (hl:lv ≤ 24):VE (eName s) lv:=
 VE_mk.2 ⟨hl,rfl,fun _=>h,fun hn=>absurd (.inl rfl) hn,fun h=>absurd h (by decide),fun _=>rfl,by decide,fun _=>rfl,by simp⟩
theorem VE_nu {n lv:Nat} (h:n ≤ 1152921504606846975) (hl:lv ≤ 24):VE (eNum n) lv:=
 VE_mk.2 ⟨hl,rfl,fun h=>absurd h (by decide),fun _=>rfl,fun h=>absurd h (by decide),fun _=>rfl,h,fun h=>absurd rfl h,by simp⟩
theorem VE_op' {k:Int} {a b:Exp} {lv:Nat} (h1:1 ≤ k) (h7:k ≤ 7) (ha:VE a (lv + 1)) (hb:VE b (lv + 1)) (hl:lv ≤ 24):VE (eOp k a b) lv:=
 VE_mk.2 ⟨hl,rfl,fun h=>absurd h (by decide),fun _=>rfl,fun _=>⟨h1,h7⟩,fun h=>absurd rfl h,by decide,fun _=>rfl,fun x hx=>by
  rcases List.mem_cons.1 hx with rfl | hx
  ·exact ha
  ·rcases List.mem_cons.1 hx with rfl | hx
   ·exact hb
   ·cases hx⟩
theorem VE_not' {a:Exp} {lv:Nat} (ha:VE a (lv + 1)) (hl:lv ≤ 24):VE (eNot a) lv:=
 VE_mk.2 ⟨hl,rfl,fun h=>absurd h (by decide),fun _=>rfl,fun h=>absurd h (by decide),fun _=>rfl,by decide,fun _=>rfl,fun x hx=>by
  rcases List.mem_cons.1 hx with rfl | hx
  ·exact ha
  ·cases hx⟩
theorem VE_sel' {c a b:Exp} {lv:Nat} (hc:VE c (lv + 1)) (ha:VE a (lv + 1)) (hb:VE b (lv + 1)) (hl:lv ≤ 24):VE (eSel c a b) lv:=
 VE_mk.2 ⟨hl,rfl,fun h=>absurd h (by decide),fun _=>rfl,fun h=>absurd h (by decide),fun _=>rfl,by decide,fun _=>rfl,fun x hx=>by
  rcases List.mem_cons.1 hx with rfl | hx
  ·exact hc
  ·rcases List.mem_cons.1 hx with rfl | hx
   ·exact ha
   ·rcases List.mem_cons.1 hx with rfl | hx
    ·exact hb
    ·cases hx⟩
theorem VSs_nil {lv:Nat}:VSs [] lv:=VSs_all.2 (by simp)
theorem VS_out' {e:Exp} {lv:Nat} (he:VE e (lv + 1)) (hl:lv ≤ 24):VS (sOut e) lv:=
 VS_mk.2 ⟨hl,by decide,by decide,rfl,fun h=>absurd rfl h.2,fun _=>rfl,fun _=>rfl,fun _ _=>rfl,by simpa using he,VSs_nil,VSs_nil⟩
theorem VS_set' {y:ByteArray} {e:Exp} {lv:Nat} (hy:isName y) (he:VE e (lv + 1)) (hl:lv ≤ 24):VS (sSet y e) lv:=
 VS_mk.2 ⟨hl,by decide,by decide,rfl,fun _=>hy,fun h=>absurd ⟨by decide,by decide⟩ h,fun _=>rfl,fun _ _=>rfl,by simpa using he,VSs_nil,VSs_nil⟩
theorem EOk_of {k o:Int} {n:Nat} {s:ByteArray} {ks:List Exp} (hk:I64 k) (ho:I64 o) (hn:n < 18446744073709551616) (hs:s.size ≤ maxLen) (hl:ks.length ≤ 3) (h:∀ x ∈ ks,EOk x):EOk (.mk k o n s ks):=.mk hk ho hn hs (by have:=maxLen_eq; omega) h
theorem i64 {k:Int} (h:0 ≤ k) (h':k ≤ 100):I64 k:=by unfold I64; omega
theorem noName_size:noName.size ≤ maxLen:=by rw [maxLen_eq]; decide
theorem EOk_nm {s:ByteArray} (h:s.size ≤ maxLen):EOk (eName s):=EOk_of (i64 (by decide) (by decide)) (i64 (by decide) (by decide)) (by decide) h (by decide) (by simp)
theorem EOk_nu {n:Nat} (h:n < 18446744073709551616):EOk (eNum n):=EOk_of (i64 (by decide) (by decide)) (i64 (by decide) (by decide)) h noName_size (by decide) (by simp)
theorem EOk_op {k:Int} {a b:Exp} (h0:0 ≤ k) (h7:k ≤ 7) (ha:EOk a) (hb:EOk b):EOk (eOp k a b):=EOk_of (i64 (by decide) (by decide)) (i64 h0 (by omega)) (by decide) noName_size (by simp) (by simp [ha,hb])
theorem EOk_not {a:Exp} (ha:EOk a):EOk (eNot a):=EOk_of (i64 (by decide) (by decide)) (i64 (by decide) (by decide)) (by decide) noName_size (by simp) (by simp [ha])
theorem EOk_sel {c a b:Exp} (hc:EOk c) (ha:EOk a) (hb:EOk b):EOk (eSel c a b):=EOk_of (i64 (by decide) (by decide)) (i64 (by decide) (by decide)) (by decide) noName_size (by simp) (by simp [hc,ha,hb])
theorem SOk_out {e:Exp} (he:EOk e):SOk (sOut e):=.mk (i64 (by decide) (by decide)) noName_size (by rw [maxLen_eq]; simp) (by rw [maxLen_eq]; decide) (by rw [maxLen_eq]; decide) (by simpa using he) (by simp) (by simp)
theorem SOk_set {y:ByteArray} {e:Exp} (hy:y.size ≤ maxLen) (he:EOk e):SOk (sSet y e):=.mk (i64 (by decide) (by decide)) hy (by rw [maxLen_eq]; simp) (by rw [maxLen_eq]; decide) (by rw [maxLen_eq]; decide) (by simpa using he) (by simp) (by simp)
theorem nA_size:nA.size ≤ maxLen:=by rw [maxLen_eq]; decide
theorem nB_size:nB.size ≤ maxLen:=by rw [maxLen_eq]; decide
theorem nC_size:nC.size ≤ maxLen:=by rw [maxLen_eq]; decide
theorem two_vt {w:Int} {l:List Stm} (w1:1 ≤ w) (w2:w ≤ 16) (hl:l.length ≤ 100) (hv:VSs l 1) (hs:∀ x ∈ l,SOk x):VT (twoP w l):=by
 have hm:=maxLen_eq
 refine ⟨⟨fun x hx=>?_,fun x hx=>(by cases hx),hs,by show 2 ≤ maxLen; omega,by show 0 ≤ maxLen; omega,by show l.length ≤ maxLen; omega⟩,hv,fun d hd=>?_,fun d hd=>(by cases hd)⟩
 ·rcases List.mem_cons.1 hx with rfl | hx
  ·exact ⟨i64 (show (0:Int) ≤ 1 by decide) (show (1:Int) ≤ 100 by decide),i64 (show 0 ≤ w by omega) (show w ≤ 100 by omega),i64 (show (0:Int) ≤ 0 by decide) (show (0:Int) ≤ 100 by decide),nA_size⟩
  ·rw [List.mem_singleton] at hx; subst hx
   exact ⟨i64 (show (0:Int) ≤ 2 by decide) (show (2:Int) ≤ 100 by decide),i64 (show 0 ≤ w by omega) (show w ≤ 100 by omega),i64 (show (0:Int) ≤ 0 by decide) (show (0:Int) ≤ 100 by decide),nB_size⟩
 ·rcases List.mem_cons.1 hd with rfl | hd
  ·exact ⟨isA,show (1:Int) ≤ 1 by decide,show (1:Int) ≤ 13 by decide,w1,w2,show (0:Int) ≤ 0 by decide,show (0:Int) ≤ 64 by decide⟩
  ·rw [List.mem_singleton] at hd; subst hd
   exact ⟨isB,show (1:Int) ≤ 2 by decide,show (2:Int) ≤ 13 by decide,w1,w2,show (0:Int) ≤ 0 by decide,show (0:Int) ≤ 64 by decide⟩
theorem two_fit {w:Int} {l:List Stm} {x y:Nat} (hx:x < 2 ^ w.toNat) (hy:y < 2 ^ w.toNat):fitB (twoP w l) [[x],[y]]=true∧insD (twoP w l).ins [[x],[y]] (atI0 [[x],[y]])=[(dA w,[x]),(dB w,[y])]:=by
 have ew1:wordsD [[x],[y]] [0,0] (dA w)=[x]:=rfl
 have ew2:wordsD [[x],[y]] [1,0] (dB w)=[y]:=rfl
 have o1:okD [[x],[y]] [0,0] (dA w):=⟨show 0 < 2 by decide,by show 0 + 1 ≤ 1; decide,fun v hv=>by rw [ew1,List.mem_singleton] at hv; subst hv; exact hx⟩
 have o2:okD [[x],[y]] [1,0] (dB w):=⟨show 1 < 2 by decide,by show 0 + 1 ≤ 1; decide,fun v hv=>by rw [ew2,List.mem_singleton] at hv; subst hv; exact hy⟩
 have n1:nextD [0,0] (dA w)=[1,0]:=rfl
 have n2:nextD [1,0] (dB w)=[1,1]:=rfl
 constructor
 ·show fitEnd [[x],[y]] (fitG [dA w,dB w] [[x],[y]] [0,0])=true
  rw [fitG,if_pos o1,n1,fitG,if_pos o2,n2,fitG]; rfl
 ·show insD [dA w,dB w] [[x],[y]] [0,0]=_
  rw [insD,insD,insD,n1,ew1,ew2]
theorem two_vars {w:Int} {l:List Stm} {x y:Nat} (hx:x < 2 ^ w.toNat) (hy:y < 2 ^ w.toNat):(startX (twoP w l) [[x],[y]]).vars nA=some x∧(startX (twoP w l) [[x],[y]]).vars nB=some y∧(startX (twoP w l) [[x],[y]]).told=[]:=by
 refine ⟨?_,?_,rfl⟩
 ·show findL nA (scalL (insD (twoP w l).ins [[x],[y]] (atI0 [[x],[y]])))=_
  rw [(two_fit hx hy).2]; rfl
 ·show findL nB (scalL (insD (twoP w l).ins [[x],[y]] (atI0 [[x],[y]])))=_
  rw [(two_fit hx hy).2]; rfl
theorem lok2 {x y:Nat} (hx:x < 65536) (hy:y < 65536):LsOk [[x],[y]]:=⟨by simp,fun l hl=>by
 rcases List.mem_cons.1 hl with rfl | hl
 ·exact ⟨by simp,fun v hv=>by rw [List.mem_singleton] at hv; omega⟩
 ·rw [List.mem_singleton] at hl; subst hl
  exact ⟨by simp,fun v hv=>by rw [List.mem_singleton] at hv; omega⟩⟩
theorem WordsAt.shape {h:H} {v:V} {ws:List Nat} (a:WordsAt h v ws):v=.vec (Ws ws) .any∨∃ id,v=.ref id 0 ws.length 1:=by
 rcases a with a | ⟨id,_,b,_⟩
 ·exact .inl a
 ·exact .inr ⟨id,b⟩
def exE:Exp:=eSel (eOp 4 (eName nA) (eName nB)) (eOp 2 (eName nB) (eName nA)) (eOp 2 (eName nA) (eName nB))
theorem ex_check1:errT (checkT (twoP 4 [sOut exE]))=0:=by kernel_rfl
theorem ex_check2:errT (checkT (twoP 4 [sOut (eName nC)]))=4:=by kernel_rfl
theorem ex_check3:errT (checkT (twoP 4 []))=0:=by kernel_rfl
end Go.Ab
namespace Go.Ab
theorem two_err {w:Int} {l:List Stm} {x y:Nat} (hc:errT (checkT (twoP w l))=0) (hx:x < 2 ^ w.toNat) (hy:y < 2 ^ w.toNat):errI (twoP w l) [[x],[y]]=0:=by
 obtain ⟨σ,h⟩:=errT_ok hc checkT_nz
 rw [errI_of_ok h,(two_fit hx hy).1,if_pos rfl]
theorem two_res {w:Int} {l:List Stm} {x y:Nat} (hc:errT (checkT (twoP w l))=0) (hx:x < 2 ^ w.toNat) (hy:y < 2 ^ w.toNat):resX (twoP w l) [[x],[y]]=(runsX (twoP w l) l (startX (twoP w l) [[x],[y]])).told:=by
 unfold resX
 rw [if_pos (two_err hc hx hy)]; rfl
theorem ex_vt1:VT (twoP 4 [sOut exE]):=by
 have a:VE (eName nA) 4:=VE_nm isA (by decide)
 have b:VE (eName nB) 4:=VE_nm isB (by decide)
 have oa:=EOk_nm nA_size
 have ob:=EOk_nm nB_size
 refine two_vt (by decide) (by decide) (by simp) (VSs_all.2 fun x hx=>?_) fun x hx=>?_
 ·rw [List.mem_singleton] at hx; subst hx
  exact VS_out' (VE_sel' (VE_op' (by decide) (by decide) a b (by decide)) (VE_op' (by decide) (by decide) b a (by decide)) (VE_op' (by decide) (by decide) a b (by decide)) (by decide)) (by decide)
 ·rw [List.mem_singleton] at hx; subst hx
  exact SOk_out (EOk_sel (EOk_op (by decide) (by decide) oa ob) (EOk_op (by decide) (by decide) ob oa) (EOk_op (by decide) (by decide) oa ob))
theorem ex_vt2:VT (twoP 4 [sOut (eName nC)]):=by
 refine two_vt (by decide) (by decide) (by simp) (VSs_all.2 fun x hx=>?_) fun x hx=>?_
 ·rw [List.mem_singleton] at hx; subst hx
  exact VS_out' (VE_nm isC (by decide)) (by decide)
 ·rw [List.mem_singleton] at hx; subst hx
  exact SOk_out (EOk_nm nC_size)
theorem ex_vt3:VT (twoP 4 []):=two_vt (by decide) (by decide) (by simp) VSs_nil (by simp)
theorem ex_res1:resX (twoP 4 [sOut exE]) [[3],[9]]=[6]:=by
 obtain ⟨v1,v2,v3⟩:=two_vars (w:=4) (l:=[sOut exE]) (x:=3) (y:=9) (by decide) (by decide)
 rw [two_res ex_check1 (by decide) (by decide)]
 generalize startX (twoP 4 [sOut exE]) [[3],[9]]=s at *
 rw [runsX,runsX,run_out,v3,exE,val_sel,val_op,val_op,val_op,val_name,val_name,v1,v2]; rfl
theorem ex_err2:errI (twoP 4 [sOut exE]) [[3],[16]]=1:=by
 obtain ⟨σ,h⟩:=errT_ok ex_check1 checkT_nz
 rw [errI_of_ok h]; decide
theorem ex_err3:errI (twoP 4 [sOut (eName nC)]) [[3],[9]]=4:=by
 unfold errI
 rw [ex_check2,if_pos (by decide)]
namespace YtljoifdccjcidaaDoor
section
variable {h:H} {K:Out→H→Prop}
theorem nameL {s:ByteArray} (hK:K (.ret (eName s).v) h):R 17 [.str s] h K:=by
 refine run17 (Nat.le_of_ble_eq_true rfl) ?_
 simp -dsimp -implicitDefEqProofs only [↓STP,STQ,seval,ir17,storeV]
 rw [eName,Exp.v_mk] at hK
 exact hK
theorem numL {n:Nat} (hK:K (.ret (eNum n).v) h):R 21 [W n] h K:=by
 refine run21 (Nat.le_of_ble_eq_true rfl) ?_
 simp -dsimp -implicitDefEqProofs only [↓STP,STQ,seval,ir21,storeV]
 rw [eNum,Exp.v_mk] at hK
 exact hK
theorem opL {k:Int} {a b:Exp} (hK:K (.ret (eOp k a b).v) h):R 18 [I k,a.v,b.v] h K:=by
 refine run18 (Nat.le_of_ble_eq_true rfl) ?_
 obtain ⟨k1,o1,n1,s1,ks1⟩:=a
 obtain ⟨k2,o2,n2,s2,ks2⟩:=b
 simp -dsimp -implicitDefEqProofs only [↓STP,STQ,seval,ir18,Exp.v_mk,storeV]
 rw [eOp,Exp.v_mk] at hK
 simp only [List.map_cons,List.map_nil,Exp.v_mk] at hK
 exact hK
theorem outputL {a:Exp} (hK:K (.ret (sOut a).v) h):R 20 [a.v] h K:=by
 refine run20 (Nat.le_of_ble_eq_true rfl) ?_
 obtain ⟨k1,o1,n1,s1,ks1⟩:=a
 simp -dsimp -implicitDefEqProofs only [↓STP,STQ,seval,ir20,Exp.v_mk,storeV]
 rw [sOut,Stm.v_mk] at hK
 simp only [List.map_cons,List.map_nil,Exp.v_mk] at hK
 exact hK
theorem twoL {w:Int} {l:List Stm} (hK:K (.ret (twoP w l).v) h):R 19 [I w,.vec (l.map Stm.v) .any] h K:=by
 refine run19 (Nat.le_of_ble_eq_true rfl) ?_
 simp -dsimp -implicitDefEqProofs only [↓STP,STQ,seval,ir19,storeV]
 exact hK
theorem opL' {k:Int} {a b:Exp} {va vb:V} (ha:va=a.v) (hb:vb=b.v) (hK:K (.ret (eOp k a b).v) h):R 18 [I k,va,vb] h K:=by subst ha hb; exact opL hK
theorem outputL' {a:Exp} {va:V} (ha:va=a.v) (hK:K (.ret (sOut a).v) h):R 20 [va] h K:=by subst ha; exact outputL hK
theorem twoL' {w:Int} {l:List Stm} {vs:V} (hl:vs=.vec (l.map Stm.v) .any) (hK:K (.ret (twoP w l).v) h):R 19 [I w,vs] h K:=by subst hl; exact twoL hK
theorem runI' {p:Prg} {ls:List (List Nat)} {vp vl:V} (hp:vp=p.v) (hl:vl=LV ls) (v:VT p) (ok:LsOk ls) (hK:∀ h' r,UpH h h'→WordsAt h' r (resX p ls)→K (.ret (.tuple [r,I (errI p ls)])) h'):R 13 [vp,vl] h K:=by subst hp hl; exact runI v ok hK
theorem checkI' {p:Prg} {ls:List (List Nat)} {vp vl:V} (hp:vp=p.v) (hl:vl=LV ls) (v:VT p) (ok:LsOk ls) (hK:∀ h',UpH h h'→K (.ret (I (errI p ls))) h'):R 16 [vp,vl] h K:=by subst hp hl; exact checkI v ok hK
theorem hname {s:ByteArray}:(eName s).v=V.agg [I 2,I 0,W 0,.str s,.vec [] .any]:=by rw [eName,Exp.v_mk]; rfl
theorem hop {k:Int} {a b:Exp}:(eOp k a b).v=V.agg [I 4,I k,W 0,.str noName,.vec [a.v,b.v] .any]:=by rw [eOp,Exp.v_mk]; rfl
theorem hsel {c a b:Exp}:(eSel c a b).v=V.agg [I 6,I 0,W 0,.str noName,.vec [c.v,a.v,b.v] .any]:=by rw [eSel,Exp.v_mk]; rfl
theorem hnot {a:Exp}:(eNot a).v=V.agg [I 5,I 0,W 0,.str noName,.vec [a.v] .any]:=by rw [eNot,Exp.v_mk]; rfl
theorem hout {a:Exp}:(sOut a).v=V.agg [I 5,.str noName,.vec [a.v] .any,.vec [] .any,.vec [] .any]:=by rw [sOut,Stm.v_mk]; rfl
theorem htwo {w:Int} {l:List Stm}:(twoP w l).v=V.agg [.vec [.agg [.str nA,I 1,I w,I 0],.agg [.str nB,I 2,I w,I 0]] .any,.vec [] .any,.vec (l.map Stm.v) .any]:=rfl
theorem awake30 (hK:∀ h',UpH h h'→K (.ret (.bool true)) h'):R 11 [] h K:=by
 refine run11 (Nat.le_of_ble_eq_true rfl) ?_
 have l1:LsOk [[3],[9]]:=lok2 (by decide) (by decide)
 have l2:LsOk [[3],[16]]:=lok2 (by decide) (by decide)
 have l3:LsOk [[15],[0]]:=lok2 (by decide) (by decide)
 simp -dsimp -implicitDefEqProofs only [↓STP,STQ,seval,ir11]
 refine nameL ?_
 simp -dsimp -implicitDefEqProofs only [↓STP,STQ,seval,hname]
 refine nameL ?_
 simp -dsimp -implicitDefEqProofs only [↓STP,STQ,seval,hname,storeV]
 refine opL' (a:=eName nA) (b:=eName nB) hname.symm hname.symm ?_
 simp -dsimp -implicitDefEqProofs only [↓STP,STQ,seval,hop]
 refine opL' (a:=eName nB) (b:=eName nA) hname.symm hname.symm ?_
 simp -dsimp -implicitDefEqProofs only [↓STP,STQ,seval,hop]
 refine opL' (a:=eName nA) (b:=eName nB) hname.symm hname.symm ?_
 simp -dsimp -implicitDefEqProofs only [↓STP,STQ,seval,hop,storeV]
 refine outputL' (a:=exE) (by rw [exE,hsel,hop,hop,hop]; rfl) ?_
 simp -dsimp -implicitDefEqProofs only [↓STP,STQ,seval,hout]
 refine twoL' (l:=[sOut exE]) (by rw [List.map_cons,List.map_nil,hout]) ?_
 simp -dsimp -implicitDefEqProofs only [↓STP,STQ,seval,htwo]
 refine runI' (p:=twoP 4 [sOut exE]) (ls:=[[3],[9]]) (by rw [htwo]; rfl) rfl ex_vt1 l1 fun h1 r1 u1 w1=>?_
 rw [ex_res1] at w1
 rw [two_err ex_check1 (by decide) (by decide)]
 rcases w1.shape with rfl | ⟨id1,rfl⟩
 all_goals
  simp -dsimp -implicitDefEqProofs only [↓STP,STQ,seval]
  refine outputL' (a:=exE) (by rw [exE,hsel,hop,hop,hop]; rfl) ?_
  simp -dsimp -implicitDefEqProofs only [↓STP,STQ,seval,hout]
  refine twoL' (l:=[sOut exE]) (by rw [List.map_cons,List.map_nil,hout]) ?_
  simp -dsimp -implicitDefEqProofs only [↓STP,STQ,seval,htwo]
  refine runI' (p:=twoP 4 [sOut exE]) (ls:=[[3],[16]]) (by rw [htwo]; rfl) rfl ex_vt1 l2 fun h2 r2 u2 w2=>?_
  rw [ex_err2]
  simp -dsimp -implicitDefEqProofs only [↓STP,STQ,seval]
  refine nameL ?_
  simp -dsimp -implicitDefEqProofs only [↓STP,STQ,seval,hname]
  refine outputL' (a:=eName nC) hname.symm ?_
  simp -dsimp -implicitDefEqProofs only [↓STP,STQ,seval,hout]
  refine twoL' (l:=[sOut (eName nC)]) (by rw [List.map_cons,List.map_nil,hout]) ?_
  simp -dsimp -implicitDefEqProofs only [↓STP,STQ,seval,htwo]
  refine runI' (p:=twoP 4 [sOut (eName nC)]) (ls:=[[3],[9]]) (by rw [htwo]; rfl) rfl ex_vt2 l1 fun h3 r3 u3 w3=>?_
  rw [ex_err3]
  simp -dsimp -implicitDefEqProofs only [↓STP,STQ,seval]
  refine same03W (a:=[6]) (b:=[6]) ((w1.frame u2.nx u2.old).frame u3.nx u3.old) (.inl rfl) (by decide) ?_
  rw [decide_eq_true rfl]
  simp -dsimp -implicitDefEqProofs only [↓STP,STQ,seval]
  refine twoL' (l:=[]) rfl ?_
  simp -dsimp -implicitDefEqProofs only [↓STP,STQ,seval,htwo]
  refine checkI' (p:=twoP 4 []) (ls:=[[15],[0]]) (by rw [htwo]; rfl) rfl ex_vt3 l3 fun h4 u4=>?_
  rw [two_err ex_check3 (by decide) (by decide)]
  simp -dsimp -implicitDefEqProofs only [↓STP,STQ,seval]
  exact hK h4 (((u1.trans u2).trans u3).trans u4)
end
end YtljoifdccjcidaaDoor
end Go.Ab
namespace Go.Ab
def TyX (p:Prg) (σ:TE) (e:Exp) (k:Int) (W:Nat):Prop:=∃ r m,exprT p σ e=.ok (r,m)∧r.kind=k∧r.w ≤ W
theorem ty_num {p:Prg} {σ:TE} {n j:Nat} (h:n < 2 ^ j) (h1:1 ≤ j) (h2:j ≤ 60):TyX p σ (eNum n) 1 j:=by
 have:n < 1152921504606846976:=Nat.lt_of_lt_of_le h (Nat.le_trans (Nat.pow_le_pow_right (by decide) h2) (by decide))
 exact ⟨_,_,exprT_num this,rfl,wid_le h h1⟩
theorem ty_name {p:Prg} {σ:TE} {y:ByteArray} {w:Nat} (h:nameT p σ y=.ok (knum w)) (hw:w ≤ 60):TyX p σ (eName y) 1 w:=by
 obtain ⟨m,h1,_,_⟩:=exprT_name h hw
 exact ⟨_,m,h1,rfl,Nat.le_refl _⟩
theorem ty_op {p:Prg} {σ:TE} {o:Int} {a b:Exp} {ra rb r:Kn} {ma mb:Nat} (h1:exprT p σ a=.ok (ra,ma)) (h2:exprT p σ b=.ok (rb,mb)) (h:opK o ra rb=.ok r) (hw:r.w ≤ 60):∃ m,exprT p σ (eOp o a b)=.ok (r,m):=by
 unfold eOp
 rw [exprT,exprsT,h1,andT_ok,exprsT,h2,andT_ok,exprsT]
 simp only [andT_ok]
 unfold madeT
 rw [if_neg (by decide),if_neg (by decide),if_neg (by decide),if_pos rfl]
 show ∃ m,andT (opK o ra rb) _=_
 rw [h,andT_ok]
 unfold toldT
 split
 ·rw [if_neg (by omega)]; exact ⟨_,rfl⟩
 ·exact ⟨_,rfl⟩
theorem ty_add {p:Prg} {σ:TE} {a b:Exp} {u v:Nat} (ha:TyX p σ a 1 u) (hb:TyX p σ b 1 v) (h:max u v + 1 ≤ 60):TyX p σ (eOp 1 a b) 1 (max u v + 1):=by
 obtain ⟨ra,ma,a1,a2,a3⟩:=ha
 obtain ⟨rb,mb,b1,b2,b3⟩:=hb
 have e:opK 1 ra rb=.ok ⟨1,max ra.w rb.w + 1,ra.is && rb.is,if ra.is && rb.is then ra.val + rb.val else 0⟩:=by unfold opK; rw [if_neg (by rw [a2,b2]; decide),if_pos rfl]
 obtain ⟨m,hm⟩:=ty_op a1 b1 e (by show max ra.w rb.w + 1 ≤ 60; omega)
 exact ⟨_,m,hm,rfl,by show max ra.w rb.w + 1 ≤ max u v + 1; omega⟩
theorem ty_sub {p:Prg} {σ:TE} {a b:Exp} {u v:Nat} (ha:TyX p σ a 1 u) (hb:TyX p σ b 1 v) (h:u ≤ 60):TyX p σ (eOp 2 a b) 1 u:=by
 obtain ⟨ra,ma,a1,a2,a3⟩:=ha
 obtain ⟨rb,mb,b1,b2,b3⟩:=hb
 have e:opK 2 ra rb=.ok ⟨1,ra.w,ra.is && rb.is,if ra.is && rb.is then ra.val - rb.val else 0⟩:=by unfold opK; rw [if_neg (by rw [a2,b2]; decide),if_neg (by decide),if_pos rfl]
 obtain ⟨m,hm⟩:=ty_op a1 b1 e (by show ra.w ≤ 60; omega)
 exact ⟨_,m,hm,rfl,a3⟩
theorem ty_mul {p:Prg} {σ:TE} {a b:Exp} {u v:Nat} (ha:TyX p σ a 1 u) (hb:TyX p σ b 1 v) (h:u + v ≤ 60):TyX p σ (eOp 3 a b) 1 (u + v):=by
 obtain ⟨ra,ma,a1,a2,a3⟩:=ha
 obtain ⟨rb,mb,b1,b2,b3⟩:=hb
 have e:opK 3 ra rb=.ok ⟨1,ra.w + rb.w,ra.is && rb.is,if ra.is && rb.is then ra.val * rb.val else 0⟩:=by unfold opK; rw [if_neg (by rw [a2,b2]; decide),if_neg (by decide),if_neg (by decide),if_pos rfl]
 obtain ⟨m,hm⟩:=ty_op a1 b1 e (by show ra.w + rb.w ≤ 60; omega)
 exact ⟨_,m,hm,rfl,by show ra.w + rb.w ≤ u + v; omega⟩
theorem ty_cmp {p:Prg} {σ:TE} {o:Int} {a b:Exp} {u v:Nat} (ho:o=4∨o=5) (ha:TyX p σ a 1 u) (hb:TyX p σ b 1 v):TyX p σ (eOp o a b) 2 0:=by
 obtain ⟨ra,ma,a1,a2,a3⟩:=ha
 obtain ⟨rb,mb,b1,b2,b3⟩:=hb
 have e:opK o ra rb=.ok kboo:=by
  unfold opK
  have:opKind o=1:=by rcases ho with rfl | rfl <;> rfl
  rw [if_neg (by rw [a2,b2,this]; decide),if_neg (by omega),if_neg (by omega),if_neg (by omega)]
 obtain ⟨m,hm⟩:=ty_op a1 b1 e (by decide)
 exact ⟨_,m,hm,rfl,Nat.le_refl _⟩
theorem sel_ok' {p:Prg} {σ:TE} {c a b:Exp} {rc ra rb:Kn} {mc ma mb:Nat} (h1:exprT p σ c=.ok (rc,mc)) (hk:rc.kind=2) (h2:exprT p σ a=.ok (ra,ma)) (h3:exprT p σ b=.ok (rb,mb)) (hab:rb.kind=ra.kind) (wa:ra.w ≤ 60) (wb:rb.w ≤ 60) :
  ∃ m,exprT p σ (eSel c a b)=.ok (⟨ra.kind,max ra.w rb.w,false,0⟩,m):=by
 unfold eSel
 rw [exprT,exprsT,h1,andT_ok,exprsT,h2,andT_ok,exprsT,h3,andT_ok,exprsT]
 simp only [andT_ok]
 unfold madeT
 rw [if_neg (by decide),if_neg (by decide),if_neg (by decide),if_neg (by decide),if_neg (by decide),if_neg (by show ¬ (rc.kind ≠ 2∨rb.kind ≠ ra.kind); simp [hk,hab]),andT_ok]
 unfold toldT
 show ∃ m,(if ra.kind=1 then (if 60 < max ra.w rb.w then _ else _) else _)=_
 split
 ·rw [if_neg (by omega)]; exact ⟨_,rfl⟩
 ·exact ⟨_,rfl⟩
theorem ty_sel {p:Prg} {σ:TE} {c a b:Exp} {u v w:Nat} (hc:TyX p σ c 2 w) (ha:TyX p σ a 1 u) (hb:TyX p σ b 1 v) (h:max u v ≤ 60):TyX p σ (eSel c a b) 1 (max u v):=by
 obtain ⟨rc,mc,c1,c2,c3⟩:=hc
 obtain ⟨ra,ma,a1,a2,a3⟩:=ha
 obtain ⟨rb,mb,b1,b2,b3⟩:=hb
 obtain ⟨m,hm⟩:=sel_ok' c1 c2 a1 b1 (b2.trans a2.symm) (by omega) (by omega)
 exact ⟨_,m,hm,a2,by show max ra.w rb.w ≤ max u v; omega⟩
theorem outs_ok {p:Prg} {E:TE}:∀ {l:List Exp} {σ:TS},(∀ e ∈ l,∃ k W,TyX p E e k W)→σ.env=E→σ.steps + l.length ≤ 10000→σ.ifs=0→∃ τ,stmtsT p (l.map sOut) σ=.ok τ
 | [],σ,_,_,_,_=>⟨σ,by rw [List.map_nil,stmtsT]⟩
 | e :: es,σ,h,hE,hs,hf=>by
  obtain ⟨k,W,r,m,h1,_,_⟩:=h e (by simp)
  rw [List.length_cons] at hs
  have h2:=out_ok (p:=p) (e:=e) (σ:=σ) (r:=r) (m:=m) (by omega) (by rw [hE]; exact h1) hf
  rw [List.map_cons,stmtsT,h2,andT_ok]
  exact outs_ok (fun x hx=>h x (by simp [hx])) hE (by show σ.steps + 1 + es.length ≤ 10000; omega) hf
theorem two_name {w:Int} {l:List Stm} (y:ByteArray) (hy:y=nA∨y=nB):nameT (twoP w l) (initT (twoP w l)).env y=.ok (knum w.toNat):=by
 rcases hy with rfl | rfl
 ·rfl
 ·rfl
theorem two_check {w:Int} {l:List Exp} (h:∀ e ∈ l,∃ k W,TyX (twoP w (l.map sOut)) (initT (twoP w (l.map sOut))).env e k W) (hl:l.length ≤ 100):errT (checkT (twoP w (l.map sOut)))=0:=by
 obtain ⟨τ,ht⟩:=outs_ok (σ:=initT (twoP w (l.map sOut))) h rfl (by show 0 + l.length ≤ 10000; omega) rfl
 have:checkT (twoP w (l.map sOut))=.ok τ:=by
  unfold checkT
  rw [if_pos (by unfold unlikeT; exact decide_eq_true (by show [nA,nB].Nodup; decide))]
  exact ht
 rw [this]; rfl
def eEq (a b:Exp):Exp:=eOp 5 a b
def arE (z:Nat):List Exp:=
 [eEq (eOp 3 (eName nA) (eOp 1 (eName nB) (eNum z))) (eOp 1 (eOp 3 (eName nA) (eName nB)) (eOp 3 (eName nA) (eNum z))),
 eEq (eOp 1 (eOp 1 (eName nA) (eName nB)) (eNum z)) (eOp 1 (eName nA) (eOp 1 (eName nB) (eNum z))),
 eEq (eOp 3 (eName nA) (eName nB)) (eOp 3 (eName nB) (eName nA)),
 eEq (eOp 1 (eOp 2 (eName nA) (eName nB)) (eName nB)) (eSel (eOp 4 (eName nA) (eName nB)) (eName nB) (eName nA)),
 eEq (eOp 2 (eOp 2 (eName nA) (eName nB)) (eNum z)) (eOp 2 (eName nA) (eOp 1 (eName nB) (eNum z)))]
theorem ar_check {z:Nat} (hz:z < 65536):errT (checkT (twoP 16 ((arE z).map sOut)))=0:=by
 refine two_check (fun e he=>?_) (by simp [arE])
 generalize hp:twoP 16 ((arE z).map sOut)=p
 have a:TyX p (initT p).env (eName nA) 1 16:=ty_name (by rw [← hp]; exact two_name nA (.inl rfl)) (by decide)
 have b:TyX p (initT p).env (eName nB) 1 16:=ty_name (by rw [← hp]; exact two_name nB (.inr rfl)) (by decide)
 have c:TyX p (initT p).env (eNum z) 1 16:=ty_num hz (by decide) (by decide)
 simp only [arE,List.mem_cons,List.not_mem_nil,or_false] at he
 rcases he with rfl | rfl | rfl | rfl | rfl
 ·exact ⟨_,_,ty_cmp (.inr rfl) (ty_mul a (ty_add b c (by decide)) (by decide)) (ty_add (ty_mul a b (by decide)) (ty_mul a c (by decide)) (by decide))⟩
 ·exact ⟨_,_,ty_cmp (.inr rfl) (ty_add (ty_add a b (by decide)) c (by decide)) (ty_add a (ty_add b c (by decide)) (by decide))⟩
 ·exact ⟨_,_,ty_cmp (.inr rfl) (ty_mul a b (by decide)) (ty_mul b a (by decide))⟩
 ·exact ⟨_,_,ty_cmp (.inr rfl) (ty_add (ty_sub a b (by decide)) b (by decide)) (ty_sel (ty_cmp (.inl rfl) a b) b a (by decide))⟩
 ·exact ⟨_,_,ty_cmp (.inr rfl) (ty_sub (ty_sub a b (by decide)) c (by decide)) (ty_sub a (ty_add b c (by decide)) (by decide))⟩
theorem ar_vt {z:Nat} (hz:z < 65536):VT (twoP 16 ((arE z).map sOut)):=by
 have va:∀ lv,lv ≤ 24→VE (eName nA) lv:=fun lv h=>VE_nm isA h
 have vb:∀ lv,lv ≤ 24→VE (eName nB) lv:=fun lv h=>VE_nm isB h
 have vc:∀ lv,lv ≤ 24→VE (eNum z) lv:=fun lv h=>VE_nu (by omega) h
 have oa:=EOk_nm nA_size
 have ob:=EOk_nm nB_size
 have oc:EOk (eNum z):=EOk_nu (by omega)
 have vo:∀ {k:Int} {a b:Exp},1 ≤ k→k ≤ 7→∀ {lv:Nat},VE a (lv + 1)→VE b (lv + 1)→lv ≤ 24→VE (eOp k a b) lv:=fun h1 h2 _ ha hb h=>VE_op' h1 h2 ha hb h
 have key:∀ e ∈ arE z,VE e 2∧EOk e:=fun e he=>by
  simp only [arE,List.mem_cons,List.not_mem_nil,or_false] at he
  have A:=va
  rcases he with rfl | rfl | rfl | rfl | rfl
  ·exact ⟨vo (by decide) (by decide) (vo (by decide) (by decide) (va _ (by decide)) (vo (by decide) (by decide) (vb _ (by decide)) (vc _ (by decide)) (by decide)) (by decide)) (vo (by decide) (by decide) (vo (by decide) (by decide) (va _ (by decide)) (vb _ (by decide)) (by decide)) (vo (by decide) (by decide) (va _ (by decide)) (vc _ (by decide)) (by decide)) (by decide)) (by decide),
    EOk_op (by decide) (by decide) (EOk_op (by decide) (by decide) oa (EOk_op (by decide) (by decide) ob oc)) (EOk_op (by decide) (by decide) (EOk_op (by decide) (by decide) oa ob) (EOk_op (by decide) (by decide) oa oc))⟩
  ·exact ⟨vo (by decide) (by decide) (vo (by decide) (by decide) (vo (by decide) (by decide) (va _ (by decide)) (vb _ (by decide)) (by decide)) (vc _ (by decide)) (by decide)) (vo (by decide) (by decide) (va _ (by decide)) (vo (by decide) (by decide) (vb _ (by decide)) (vc _ (by decide)) (by decide)) (by decide)) (by decide),
    EOk_op (by decide) (by decide) (EOk_op (by decide) (by decide) (EOk_op (by decide) (by decide) oa ob) oc) (EOk_op (by decide) (by decide) oa (EOk_op (by decide) (by decide) ob oc))⟩
  ·exact ⟨vo (by decide) (by decide) (vo (by decide) (by decide) (va _ (by decide)) (vb _ (by decide)) (by decide)) (vo (by decide) (by decide) (vb _ (by decide)) (va _ (by decide)) (by decide)) (by decide),
    EOk_op (by decide) (by decide) (EOk_op (by decide) (by decide) oa ob) (EOk_op (by decide) (by decide) ob oa)⟩
  ·exact ⟨vo (by decide) (by decide) (vo (by decide) (by decide) (vo (by decide) (by decide) (va _ (by decide)) (vb _ (by decide)) (by decide)) (vb _ (by decide)) (by decide)) (VE_sel' (vo (by decide) (by decide) (va _ (by decide)) (vb _ (by decide)) (by decide)) (vb _ (by decide)) (va _ (by decide)) (by decide)) (by decide),
    EOk_op (by decide) (by decide) (EOk_op (by decide) (by decide) (EOk_op (by decide) (by decide) oa ob) ob) (EOk_sel (EOk_op (by decide) (by decide) oa ob) ob oa)⟩
  ·exact ⟨vo (by decide) (by decide) (vo (by decide) (by decide) (vo (by decide) (by decide) (va _ (by decide)) (vb _ (by decide)) (by decide)) (vc _ (by decide)) (by decide)) (vo (by decide) (by decide) (va _ (by decide)) (vo (by decide) (by decide) (vb _ (by decide)) (vc _ (by decide)) (by decide)) (by decide)) (by decide),
    EOk_op (by decide) (by decide) (EOk_op (by decide) (by decide) (EOk_op (by decide) (by decide) oa ob) oc) (EOk_op (by decide) (by decide) oa (EOk_op (by decide) (by decide) ob oc))⟩
 refine two_vt (by decide) (by decide) (by simp [arE]) (VSs_all.2 fun x hx=>?_) fun x hx=>?_
 ·obtain ⟨e,he,rfl⟩:=List.mem_map.1 hx
  exact VS_out' (key e he).1 (by decide)
 ·obtain ⟨e,he,rfl⟩:=List.mem_map.1 hx
  exact SOk_out (key e he).2
theorem ar_res {x y z:Nat} (hx:x < 65536) (hy:y < 65536) (hz:z < 65536):resX (twoP 16 ((arE z).map sOut)) [[x],[y]]=[1,1,1,1,1]:=by
 obtain ⟨v1,v2,v3⟩:=two_vars (w:=16) (l:=(arE z).map sOut) (x:=x) (y:=y) hx hy
 rw [two_res (ar_check hz) hx hy]
 generalize startX (twoP 16 ((arE z).map sOut)) [[x],[y]]=s at *
 generalize twoP 16 ((arE z).map sOut)=p
 unfold arE eEq
 simp only [List.map_cons,List.map_nil,runsX,run_out,val_op,val_sel,val_num,val_name,v1,v2,v3,Option.getD_some,opX_1,opX_2,opX_3,opX_4,opX_5,List.nil_append,List.cons_append]
 rw [oneIf_true (Nat.mul_add x y z),oneIf_true (Nat.add_assoc x y z),oneIf_true (Nat.mul_comm x y),oneIf_true (show x - y + y=if oneIf (x < y)=1 then y else x by unfold oneIf; split <;> split <;> omega),oneIf_true (Nat.sub_sub x y z)]
def nS:ByteArray:=⟨#[115]⟩
def nI:ByteArray:=⟨#[105]⟩
theorem isS:isName nS:=⟨by decide,by decide,⟨115,[],rfl,by decide⟩,by decide,by simp [words26,nS]⟩
theorem isI:isName nI:=⟨by decide,by decide,⟨105,[],rfl,by decide⟩,by decide,by simp [words26,nI]⟩
theorem nS_size:nS.size ≤ maxLen:=by rw [maxLen_eq]; decide
theorem nI_size:nI.size ≤ maxLen:=by rw [maxLen_eq]; decide
def sAddS:Stm:=sSet nS (eOp 1 (eName nS) (eOp 3 (eName nA) (eName nI)))
def loopP (f t:Nat):List Stm:=[sSet nS (eNum 0),sFor nI (eNum f) (eNum t) [sAddS],sOut (eName nS)]
theorem loop_checks:∀ f:Fin 9,∀ t:Fin 9,errT (checkT (twoP 16 (loopP f.1 t.1)))=0:=by decide +kernel
theorem loop_check {f t:Nat} (hf:f < 9) (ht:t < 9):errT (checkT (twoP 16 (loopP f t)))=0:=loop_checks ⟨f,hf⟩ ⟨t,ht⟩
def sumA (a:Nat):Nat→Nat→Nat→Nat
 | 0,_,v=>v
 | c + 1,n,v=>sumA a c (n + 1) (v + n * a)
theorem run_for {p:Prg} {y:ByteArray} {a b:Exp} {l:List Stm} {s:RS}:runX p (sFor y a b l) s=forX y (valX p s a) (valX p s b) (runsX p l) s:=by rw [sFor,runX_mk]; rfl
theorem loop_iter {p:Prg} {a:Nat}:∀ (c n v:Nat) (s:RS),s.vars nS=some v→s.vars nA=some a→s.told=[] →
  (iterX (fun n s=>runsX p [sAddS] { s with vars:=setM s.vars nI (some n) }) c n s).vars nS=some (sumA a c n v)∧(iterX (fun n s=>runsX p [sAddS] { s with vars:=setM s.vars nI (some n) }) c n s).told=[]
 | 0,n,v,s,h1,h2,h3=>by rw [iterX,sumA]; exact ⟨h1,h3⟩
 | c + 1,n,v,s,h1,h2,h3=>by
  rw [iterX,sumA]
  have e:runsX p [sAddS] { s with vars:=setM s.vars nI (some n) }={ s with vars:=setM (setM s.vars nI (some n)) nS (some (v + n * a)) }:=by
   rw [runsX,runsX,sAddS,run_set,val_op,val_op,val_name,val_name,val_name]
   show ({ s with vars:=setM (setM s.vars nI (some n)) nS (some (opX 1 ((setM s.vars nI (some n) nS).getD 0) (opX 3 ((setM s.vars nI (some n) nA).getD 0) ((setM s.vars nI (some n) nI).getD 0)))) }:RS)=_
   rw [setM_self,setM_get,if_neg (by decide),setM_get,if_neg (by decide),h1,h2]
   show ({ s with vars:=setM (setM s.vars nI (some n)) nS (some (v + a * n)) }:RS)=_
   rw [Nat.mul_comm]
  rw [e]
  exact loop_iter c (n + 1) (v + n * a) { s with vars:=setM (setM s.vars nI (some n)) nS (some (v + n * a)) } (by show setM (setM s.vars nI (some n)) nS (some (v + n * a)) nS=_; rw [setM_self]) (by show setM (setM s.vars nI (some n)) nS (some (v + n * a)) nA=_; rw [setM_get,if_neg (by decide),setM_get,if_neg (by decide)]; exact h2) h3
theorem loop_vt {f t:Nat} (hf:f < 9) (ht:t < 9):VT (twoP 16 (loopP f t)):=by
 have va:∀ lv,lv ≤ 24→VE (eName nA) lv:=fun lv h=>VE_nm isA h
 have vs:∀ lv,lv ≤ 24→VE (eName nS) lv:=fun lv h=>VE_nm isS h
 have vi:∀ lv,lv ≤ 24→VE (eName nI) lv:=fun lv h=>VE_nm isI h
 have vb:VE (eOp 1 (eName nS) (eOp 3 (eName nA) (eName nI))) 3:=VE_op' (by decide) (by decide) (vs _ (by decide)) (VE_op' (by decide) (by decide) (va _ (by decide)) (vi _ (by decide)) (by decide)) (by decide)
 have ob:SOk sAddS:=SOk_set nS_size (EOk_op (by decide) (by decide) (EOk_nm nS_size) (EOk_op (by decide) (by decide) (EOk_nm nA_size) (EOk_nm nI_size)))
 refine two_vt (by decide) (by decide) (by simp [loopP]) (VSs_all.2 fun x hx=>?_) fun x hx=>?_
 ·simp only [loopP,List.mem_cons,List.not_mem_nil,or_false] at hx
  rcases hx with rfl | rfl | rfl
  ·exact VS_set' isS (VE_nu (by decide) (by decide)) (by decide)
  ·refine VS_mk.2 ⟨by decide,by decide,by decide,rfl,fun _=>isI,fun h=>absurd ⟨by decide,by decide⟩ h,fun _=>rfl,fun _ h=>absurd rfl h,fun x hx=>?_,VSs_all.2 fun x hx=>?_,VSs_nil⟩
   ·rcases List.mem_cons.1 hx with rfl | hx
    ·exact VE_nu (by omega) (by decide)
    ·rw [List.mem_singleton] at hx; subst hx; exact VE_nu (by omega) (by decide)
   ·rw [List.mem_singleton] at hx; subst hx
    exact VS_set' isS vb (by decide)
  ·exact VS_out' (vs _ (by decide)) (by decide)
 ·simp only [loopP,List.mem_cons,List.not_mem_nil,or_false] at hx
  rcases hx with rfl | rfl | rfl
  ·exact SOk_set nS_size (EOk_nu (by decide))
  ·refine .mk (i64 (by decide) (by decide)) nI_size (by rw [maxLen_eq]; simp) (by rw [maxLen_eq]; simp) (by rw [maxLen_eq]; simp) (fun x hx=>?_) (by simpa using ob) (by simp)
   rcases List.mem_cons.1 hx with rfl | hx
   ·exact EOk_nu (by omega)
   ·rw [List.mem_singleton] at hx; subst hx; exact EOk_nu (by omega)
  ·exact SOk_out (EOk_nm nS_size)
theorem loop_res {f t a:Nat} (hf:f < 9) (ht:t < 9) (ha:a < 65536):resX (twoP 16 (loopP f t)) [[a],[0]]=[sumA a (t + 1 - f) f 0]:=by
 obtain ⟨v1,v2,v3⟩:=two_vars (w:=16) (l:=loopP f t) (x:=a) (y:=0) ha (by decide)
 rw [two_res (loop_check hf ht) ha (by decide)]
 generalize startX (twoP 16 (loopP f t)) [[a],[0]]=s at *
 generalize twoP 16 (loopP f t)=p
 unfold loopP
 rw [runsX,runsX,runsX,runsX,run_set,val_num,run_for,val_num,val_num,run_out,val_name]
 unfold forX
 obtain ⟨i1,i2⟩:=loop_iter (p:=p) (a:=a) (t + 1 - f) f 0 { s with vars:=setM (setM s.vars nS (some 0)) nI none } (by show setM (setM s.vars nS (some 0)) nI none nS=_; rw [setM_get,if_neg (by decide),setM_self]) (by show setM (setM s.vars nS (some 0)) nI none nA=_; rw [setM_get,if_neg (by decide),setM_get,if_neg (by decide)]; exact v1) v3
 simp only
 rw [i2,setM_get,if_neg (show ¬ nS=nI by decide),i1]; rfl
end Go.Ab
namespace Go.Ab
namespace YtljoifdccjcidaaDoor
section
variable {h:H} {K:Out→H→Prop}
theorem hnum {n:Nat}:(eNum n).v=V.agg [I 1,I 0,W n,.str noName,.vec [] .any]:=by rw [eNum,Exp.v_mk]; rfl
theorem hset {y:ByteArray} {a:Exp}:(sSet y a).v=V.agg [I 1,.str y,.vec [a.v] .any,.vec [] .any,.vec [] .any]:=by rw [sSet,Stm.v_mk]; rfl
theorem hfor {y:ByteArray} {a b:Exp} {l:List Stm}:(sFor y a b l).v=V.agg [I 4,.str y,.vec [a.v,b.v] .any,.vec (l.map Stm.v) .any,.vec [] .any]:=by rw [sFor,Stm.v_mk]; rfl
theorem outEqL' {a b:Exp} {va vb:V} (ha:va=a.v) (hb:vb=b.v) (hK:K (.ret (sOut (eEq a b)).v) h):R 23 [va,vb] h K:=by
 subst ha hb
 refine run23 (Nat.le_of_ble_eq_true rfl) ?_
 obtain ⟨k1,o1,n1,s1,ks1⟩:=a
 obtain ⟨k2,o2,n2,s2,ks2⟩:=b
 simp -dsimp -implicitDefEqProofs only [↓STP,STQ,seval,ir23,Exp.v_mk,storeV]
 refine opL' (k:=5) (a:=.mk k1 o1 n1 s1 ks1) (b:=.mk k2 o2 n2 s2 ks2) (by rw [Exp.v_mk]) (by rw [Exp.v_mk]) ?_
 simp -dsimp -implicitDefEqProofs only [↓STP,STQ,seval,hop]
 refine outputL' (a:=eEq (.mk k1 o1 n1 s1 ks1) (.mk k2 o2 n2 s2 ks2)) (by rw [eEq,hop]) ?_
 simp -dsimp -implicitDefEqProofs only [↓STP,STQ,seval,hout]
 rw [hout] at hK
 exact hK
theorem arith30 {x y z:Nat} (hx:x < 65536) (hy:y < 65536) (hz:z < 65536) (hK:∀ h',K (.ret (.bool true)) h'):R 9 [.int .u16 x,.int .u16 y,.int .u16 z] h K:=by
 refine run9 (Nat.le_of_ble_eq_true rfl) ?_
 have wx:IntKind.u64.wrap (x:Int)=(x:Int):=by rw [wrap_u64_self] <;> omega
 have wy:IntKind.u64.wrap (y:Int)=(y:Int):=by rw [wrap_u64_self] <;> omega
 have wz:IntKind.u64.wrap (z:Int)=(z:Int):=by rw [wrap_u64_self] <;> omega
 simp -dsimp -implicitDefEqProofs only [↓STP,STQ,seval,ir9]
 refine awake30 fun h1 u1=>?_
 simp -dsimp -implicitDefEqProofs only [↓STP,STQ,seval]
 refine nameL ?_
 simp -dsimp -implicitDefEqProofs only [↓STP,STQ,seval,hname]
 refine nameL ?_
 simp -dsimp -implicitDefEqProofs only [↓STP,STQ,seval,hname,wz]
 refine numL ?_
 simp -dsimp -implicitDefEqProofs only [↓STP,STQ,seval,hnum,storeV]
 refine opL' (k:=4) (a:=eName nA) (b:=eName nB) (by simp only [hop,hname,hnum,hsel,hnot,hout] <;> rfl) (by simp only [hop,hname,hnum,hsel,hnot,hout] <;> rfl) ?_
 simp -dsimp -implicitDefEqProofs only [↓STP,STQ,seval,hop,storeV]
 refine opL' (k:=1) (a:=eName nB) (b:=eNum z) (by simp only [hop,hname,hnum,hsel,hnot,hout] <;> rfl) (by simp only [hop,hname,hnum,hsel,hnot,hout] <;> rfl) ?_
 simp -dsimp -implicitDefEqProofs only [↓STP,STQ,seval,hop]
 refine opL' (k:=3) (a:=eName nA) (b:=eOp 1 (eName nB) (eNum z)) (by simp only [hop,hname,hnum,hsel,hnot,hout] <;> rfl) (by simp only [hop,hname,hnum,hsel,hnot,hout] <;> rfl) ?_
 simp -dsimp -implicitDefEqProofs only [↓STP,STQ,seval,hop]
 refine opL' (k:=3) (a:=eName nA) (b:=eName nB) (by simp only [hop,hname,hnum,hsel,hnot,hout] <;> rfl) (by simp only [hop,hname,hnum,hsel,hnot,hout] <;> rfl) ?_
 simp -dsimp -implicitDefEqProofs only [↓STP,STQ,seval,hop]
 refine opL' (k:=3) (a:=eName nA) (b:=eNum z) (by simp only [hop,hname,hnum,hsel,hnot,hout] <;> rfl) (by simp only [hop,hname,hnum,hsel,hnot,hout] <;> rfl) ?_
 simp -dsimp -implicitDefEqProofs only [↓STP,STQ,seval,hop]
 refine opL' (k:=1) (a:=eOp 3 (eName nA) (eName nB)) (b:=eOp 3 (eName nA) (eNum z)) (by simp only [hop,hname,hnum,hsel,hnot,hout] <;> rfl) (by simp only [hop,hname,hnum,hsel,hnot,hout] <;> rfl) ?_
 simp -dsimp -implicitDefEqProofs only [↓STP,STQ,seval,hop]
 refine outEqL' (a:=eOp 3 (eName nA) (eOp 1 (eName nB) (eNum z))) (b:=eOp 1 (eOp 3 (eName nA) (eName nB)) (eOp 3 (eName nA) (eNum z))) (by simp only [hop,hname,hnum,hsel,hnot,hout] <;> rfl) (by simp only [hop,hname,hnum,hsel,hnot,hout] <;> rfl) ?_
 simp -dsimp -implicitDefEqProofs only [↓STP,STQ,seval,hout,eEq,hop]
 refine opL' (k:=1) (a:=eName nA) (b:=eName nB) (by simp only [hop,hname,hnum,hsel,hnot,hout] <;> rfl) (by simp only [hop,hname,hnum,hsel,hnot,hout] <;> rfl) ?_
 simp -dsimp -implicitDefEqProofs only [↓STP,STQ,seval,hop]
 refine opL' (k:=1) (a:=eOp 1 (eName nA) (eName nB)) (b:=eNum z) (by simp only [hop,hname,hnum,hsel,hnot,hout] <;> rfl) (by simp only [hop,hname,hnum,hsel,hnot,hout] <;> rfl) ?_
 simp -dsimp -implicitDefEqProofs only [↓STP,STQ,seval,hop]
 refine opL' (k:=1) (a:=eName nB) (b:=eNum z) (by simp only [hop,hname,hnum,hsel,hnot,hout] <;> rfl) (by simp only [hop,hname,hnum,hsel,hnot,hout] <;> rfl) ?_
 simp -dsimp -implicitDefEqProofs only [↓STP,STQ,seval,hop]
 refine opL' (k:=1) (a:=eName nA) (b:=eOp 1 (eName nB) (eNum z)) (by simp only [hop,hname,hnum,hsel,hnot,hout] <;> rfl) (by simp only [hop,hname,hnum,hsel,hnot,hout] <;> rfl) ?_
 simp -dsimp -implicitDefEqProofs only [↓STP,STQ,seval,hop]
 refine outEqL' (a:=eOp 1 (eOp 1 (eName nA) (eName nB)) (eNum z)) (b:=eOp 1 (eName nA) (eOp 1 (eName nB) (eNum z))) (by simp only [hop,hname,hnum,hsel,hnot,hout] <;> rfl) (by simp only [hop,hname,hnum,hsel,hnot,hout] <;> rfl) ?_
 simp -dsimp -implicitDefEqProofs only [↓STP,STQ,seval,hout,eEq,hop]
 refine opL' (k:=3) (a:=eName nA) (b:=eName nB) (by simp only [hop,hname,hnum,hsel,hnot,hout] <;> rfl) (by simp only [hop,hname,hnum,hsel,hnot,hout] <;> rfl) ?_
 simp -dsimp -implicitDefEqProofs only [↓STP,STQ,seval,hop]
 refine opL' (k:=3) (a:=eName nB) (b:=eName nA) (by simp only [hop,hname,hnum,hsel,hnot,hout] <;> rfl) (by simp only [hop,hname,hnum,hsel,hnot,hout] <;> rfl) ?_
 simp -dsimp -implicitDefEqProofs only [↓STP,STQ,seval,hop]
 refine outEqL' (a:=eOp 3 (eName nA) (eName nB)) (b:=eOp 3 (eName nB) (eName nA)) (by simp only [hop,hname,hnum,hsel,hnot,hout] <;> rfl) (by simp only [hop,hname,hnum,hsel,hnot,hout] <;> rfl) ?_
 simp -dsimp -implicitDefEqProofs only [↓STP,STQ,seval,hout,eEq,hop]
 refine opL' (k:=2) (a:=eName nA) (b:=eName nB) (by simp only [hop,hname,hnum,hsel,hnot,hout] <;> rfl) (by simp only [hop,hname,hnum,hsel,hnot,hout] <;> rfl) ?_
 simp -dsimp -implicitDefEqProofs only [↓STP,STQ,seval,hop]
 refine opL' (k:=1) (a:=eOp 2 (eName nA) (eName nB)) (b:=eName nB) (by simp only [hop,hname,hnum,hsel,hnot,hout] <;> rfl) (by simp only [hop,hname,hnum,hsel,hnot,hout] <;> rfl) ?_
 simp -dsimp -implicitDefEqProofs only [↓STP,STQ,seval,hop]
 refine outEqL' (a:=eOp 1 (eOp 2 (eName nA) (eName nB)) (eName nB)) (b:=eSel (eOp 4 (eName nA) (eName nB)) (eName nB) (eName nA)) (by simp only [hop,hname,hnum,hsel,hnot,hout] <;> rfl) (by simp only [hop,hname,hnum,hsel,hnot,hout] <;> rfl) ?_
 simp -dsimp -implicitDefEqProofs only [↓STP,STQ,seval,hout,eEq,hop]
 refine opL' (k:=2) (a:=eName nA) (b:=eName nB) (by simp only [hop,hname,hnum,hsel,hnot,hout] <;> rfl) (by simp only [hop,hname,hnum,hsel,hnot,hout] <;> rfl) ?_
 simp -dsimp -implicitDefEqProofs only [↓STP,STQ,seval,hop]
 refine opL' (k:=2) (a:=eOp 2 (eName nA) (eName nB)) (b:=eNum z) (by simp only [hop,hname,hnum,hsel,hnot,hout] <;> rfl) (by simp only [hop,hname,hnum,hsel,hnot,hout] <;> rfl) ?_
 simp -dsimp -implicitDefEqProofs only [↓STP,STQ,seval,hop]
 refine opL' (k:=1) (a:=eName nB) (b:=eNum z) (by simp only [hop,hname,hnum,hsel,hnot,hout] <;> rfl) (by simp only [hop,hname,hnum,hsel,hnot,hout] <;> rfl) ?_
 simp -dsimp -implicitDefEqProofs only [↓STP,STQ,seval,hop]
 refine opL' (k:=2) (a:=eName nA) (b:=eOp 1 (eName nB) (eNum z)) (by simp only [hop,hname,hnum,hsel,hnot,hout] <;> rfl) (by simp only [hop,hname,hnum,hsel,hnot,hout] <;> rfl) ?_
 simp -dsimp -implicitDefEqProofs only [↓STP,STQ,seval,hop]
 refine outEqL' (a:=eOp 2 (eOp 2 (eName nA) (eName nB)) (eNum z)) (b:=eOp 2 (eName nA) (eOp 1 (eName nB) (eNum z))) (by simp only [hop,hname,hnum,hsel,hnot,hout] <;> rfl) (by simp only [hop,hname,hnum,hsel,hnot,hout] <;> rfl) ?_
 simp -dsimp -implicitDefEqProofs only [↓STP,STQ,seval,hout,eEq,hop]
 refine twoL' (w:=16) (l:=(arE z).map sOut) (by simp only [arE,eEq,List.map_cons,List.map_nil,hout,hop,hname,hnum,hsel] <;> rfl) ?_
 simp -dsimp -implicitDefEqProofs only [↓STP,STQ,seval,htwo,wx,wy]
 refine runI' (p:=twoP 16 ((arE z).map sOut)) (ls:=[[x],[y]]) (by rw [htwo]) rfl (ar_vt hz) (lok2 hx hy) fun h2 r1 u2 w2=>?_
 rw [ar_res hx hy hz] at w2
 rw [two_err (ar_check hz) hx hy]
 rcases w2.shape with rfl | ⟨id1,rfl⟩
 all_goals
  simp -dsimp -implicitDefEqProofs only [↓STP,STQ,seval]
  refine same03W (b:=[1,1,1,1,1]) w2 (.inl rfl) (by simp) ?_
  rw [decide_eq_true rfl]
  simp -dsimp -implicitDefEqProofs only [↓STP,STQ,seval]
  exact hK _
theorem loop30 {x y a:Nat} (hx:x < 256) (hy:y < 256) (ha:a < 65536) (hK:∀ h',K (.ret (.bool true)) h'):R 7 [.int .u8 x,.int .u8 y,.int .u16 a] h K:=by
 refine run7 (Nat.le_of_ble_eq_true rfl) ?_
 have wa:IntKind.u64.wrap (a:Int)=(a:Int):=by rw [wrap_u64_self] <;> omega
 have hf:x % 9 < 9:=Nat.mod_lt _ (by decide)
 have ht:y % 9 < 9:=Nat.mod_lt _ (by decide)
 have m1:Int.tmod (x:Int) 9=((x % 9:Nat):Int):=rfl
 have m2:Int.tmod (y:Int) 9=((y % 9:Nat):Int):=rfl
 generalize x % 9=f at *
 generalize y % 9=t at *
 have wf:IntKind.u64.wrap (f:Int)=(f:Int):=by rw [wrap_u64_self] <;> omega
 have wt:IntKind.u64.wrap (t:Int)=(t:Int):=by rw [wrap_u64_self] <;> omega
 simp -dsimp -implicitDefEqProofs only [↓STP,STQ,seval,ir7]
 refine awake30 fun h1 u1=>?_
 simp -dsimp -implicitDefEqProofs only [↓STP,STQ,seval,m1,m2,wf,wt]
 refine nameL ?_
 simp -dsimp -implicitDefEqProofs only [↓STP,STQ,seval,hname]
 refine nameL ?_
 simp -dsimp -implicitDefEqProofs only [↓STP,STQ,seval,hname]
 refine nameL ?_
 simp -dsimp -implicitDefEqProofs only [↓STP,STQ,seval,hname]
 refine opL' (k:=3) (a:=eName nA) (b:=eName nI) (by simp only [hop,hname,hnum,hsel,hnot,hout] <;> rfl) (by simp only [hop,hname,hnum,hsel,hnot,hout] <;> rfl) ?_
 simp -dsimp -implicitDefEqProofs only [↓STP,STQ,seval,hop]
 refine opL' (k:=1) (a:=eName nS) (b:=eOp 3 (eName nA) (eName nI)) (by simp only [hop,hname,hnum,hsel,hnot,hout] <;> rfl) (by simp only [hop,hname,hnum,hsel,hnot,hout] <;> rfl) ?_
 simp -dsimp -implicitDefEqProofs only [↓STP,STQ,seval,hop,storeV]
 refine numL ?_
 simp -dsimp -implicitDefEqProofs only [↓STP,STQ,seval,hnum]
 refine numL ?_
 simp -dsimp -implicitDefEqProofs only [↓STP,STQ,seval,hnum,storeV]
 refine numL (n:=0) ?_
 simp -dsimp -implicitDefEqProofs only [↓STP,STQ,seval,hnum,storeV]
 refine nameL ?_
 simp -dsimp -implicitDefEqProofs only [↓STP,STQ,seval,hname]
 refine outputL' (a:=eName nS) (by simp only [hop,hname,hnum,hsel,hnot,hout] <;> rfl) ?_
 simp -dsimp -implicitDefEqProofs only [↓STP,STQ,seval,hout]
 refine ⟨by simp only [hname],?_⟩
 refine twoL' (w:=16) (l:=loopP f t) (by simp only [loopP,sAddS,hset,hfor,List.map_cons,List.map_nil,hout,hop,hname,hnum] <;> rfl) ?_
 simp -dsimp -implicitDefEqProofs only [↓STP,STQ,seval,htwo,wa]
 refine runI' (p:=twoP 16 (loopP f t)) (ls:=[[a],[0]]) (by rw [htwo]) rfl (loop_vt hf ht) (lok2 ha (by decide)) fun h2 r1 u2 w2=>?_
 rw [loop_res hf ht ha] at w2
 rw [two_err (loop_check hf ht) ha (by decide)]
 rcases w2.shape with rfl | ⟨id1,rfl⟩
 ·simp -dsimp -implicitDefEqProofs only [↓STP,STQ,seval]
  refine codeT_loop (fun c s'=>∃ n v,c=t + 1 - n∧n ≤ 9∧v ≤ n * (9 * 65536)∧sumA a (t + 1 - n) n v=sumA a (t + 1 - f) f 0 ∧
   s'=⟨upd (upd (upd (upd (upd (upd ρ0 2 (.int .u16 a)) 8 (W t)) 12 (.vec (Ws [sumA a (t + 1 - f) f 0]) .any)) 13 (I 0)) 14 (W v)) 15 (W n),m0,0,[],h2⟩) (i:=t + 1 - f) ⟨f,0,rfl,by omega,Nat.zero_le _,rfl,by simp -dsimp -implicitDefEqProofs only [↓STP,STQ,seval] <;> rfl⟩ ?_ mono
  rintro c s' ⟨n,v,rfl,hn,hv,hs,rfl⟩
  by_cases hle:n ≤ t
  ·have hle':((n:Nat):Int) ≤ ((t:Nat):Int):=by omega
   have h1:n * a ≤ 9 * 65536:=Nat.mul_le_mul (by omega) (by omega)
   have h9:n * (9 * 65536) ≤ 9 * (9 * 65536):=Nat.mul_le_mul hn (Nat.le_refl _)
   have g1:IntKind.u64.wrap ((n:Int) * (a:Int))=((n * a:Nat):Int):=by rw [← Int.natCast_mul,wrap_u64_self] <;> omega
   have g2:IntKind.u64.wrap ((v:Int) + ((n * a:Nat):Int))=((v + n * a:Nat):Int):=by rw [wrap_u64_self] <;> omega
   have g3:IntKind.u64.wrap ((n:Int) + 1)=((n + 1:Nat):Int):=by rw [wrap_u64_self] <;> omega
   simp -dsimp -implicitDefEqProofs only [↓STP,STQ,seval,eq_true hle',wa,g1,g2,g3]
   rw [show t + 1 - n=(t + 1 - (n + 1)) + 1 by omega,sumA] at hs
   exact ⟨t + 1 - (n + 1),by omega,n + 1,v + n * a,rfl,by omega,by rw [Nat.add_mul,Nat.one_mul]; omega,hs,rfl⟩
  ·have hle':¬ ((n:Nat):Int) ≤ ((t:Nat):Int):=by omega
   rw [show t + 1 - n=0 by omega,sumA] at hs
   simp -dsimp -implicitDefEqProofs only [↓STP,STQ,seval,eq_false hle']
   refine same03W (b:=[v]) w2 (.inl rfl) (by simp) ?_
   rw [decide_eq_true (by rw [hs])]
   simp -dsimp -implicitDefEqProofs only [↓STP,STQ,seval]
   exact hK _
 ·simp -dsimp -implicitDefEqProofs only [↓STP,STQ,seval]
  refine codeT_loop (fun c s'=>∃ n v,c=t + 1 - n∧n ≤ 9∧v ≤ n * (9 * 65536)∧sumA a (t + 1 - n) n v=sumA a (t + 1 - f) f 0 ∧
   s'=⟨upd (upd (upd (upd (upd (upd ρ0 2 (.int .u16 a)) 8 (W t)) 12 (.ref id1 0 [sumA a (t + 1 - f) f 0].length 1)) 13 (I 0)) 14 (W v)) 15 (W n),m0,0,[],h2⟩) (i:=t + 1 - f) ⟨f,0,rfl,by omega,Nat.zero_le _,rfl,by simp -dsimp -implicitDefEqProofs only [↓STP,STQ,seval] <;> rfl⟩ ?_ mono
  rintro c s' ⟨n,v,rfl,hn,hv,hs,rfl⟩
  by_cases hle:n ≤ t
  ·have hle':((n:Nat):Int) ≤ ((t:Nat):Int):=by omega
   have h1:n * a ≤ 9 * 65536:=Nat.mul_le_mul (by omega) (by omega)
   have h9:n * (9 * 65536) ≤ 9 * (9 * 65536):=Nat.mul_le_mul hn (Nat.le_refl _)
   have g1:IntKind.u64.wrap ((n:Int) * (a:Int))=((n * a:Nat):Int):=by rw [← Int.natCast_mul,wrap_u64_self] <;> omega
   have g2:IntKind.u64.wrap ((v:Int) + ((n * a:Nat):Int))=((v + n * a:Nat):Int):=by rw [wrap_u64_self] <;> omega
   have g3:IntKind.u64.wrap ((n:Int) + 1)=((n + 1:Nat):Int):=by rw [wrap_u64_self] <;> omega
   simp -dsimp -implicitDefEqProofs only [↓STP,STQ,seval,eq_true hle',wa,g1,g2,g3]
   rw [show t + 1 - n=(t + 1 - (n + 1)) + 1 by omega,sumA] at hs
   exact ⟨t + 1 - (n + 1),by omega,n + 1,v + n * a,rfl,by omega,by rw [Nat.add_mul,Nat.one_mul]; omega,hs,rfl⟩
  ·have hle':¬ ((n:Nat):Int) ≤ ((t:Nat):Int):=by omega
   rw [show t + 1 - n=0 by omega,sumA] at hs
   simp -dsimp -implicitDefEqProofs only [↓STP,STQ,seval,eq_false hle']
   refine same03W (b:=[v]) w2 (.inl rfl) (by simp) ?_
   rw [decide_eq_true (by rw [hs])]
   simp -dsimp -implicitDefEqProofs only [↓STP,STQ,seval]
   exact hK _
end
end YtljoifdccjcidaaDoor
end Go.Ab
namespace Go.Ab
def oBoth:Exp:=eNot (eOp 4 (eName nA) (eName nB))
def oEq:Exp:=eOp 5 (eName nA) (eName nB)
def opsP:List Stm:=[sOut (eOp 1 (eName nA) (eName nB)),sOut (eOp 2 (eName nA) (eName nB)),sOut (eOp 3 (eName nA) (eName nB)),sOut (eOp 4 (eName nA) (eName nB)),sOut oEq,sOut oBoth,sOut (eOp 6 oBoth oEq),sOut (eOp 7 oBoth oEq)]
theorem ops_check:errT (checkT (twoP 16 opsP))=0:=by kernel_rfl
theorem ops_vt:VT (twoP 16 opsP):=by
 have va:∀ lv,lv ≤ 24→VE (eName nA) lv:=fun lv h=>VE_nm isA h
 have vb:∀ lv,lv ≤ 24→VE (eName nB) lv:=fun lv h=>VE_nm isB h
 have oa:=EOk_nm nA_size
 have ob:=EOk_nm nB_size
 have vo:∀ k:Int,1 ≤ k→k ≤ 7→∀ lv,lv ≤ 23→VE (eOp k (eName nA) (eName nB)) lv:=fun k h1 h2 lv h=>VE_op' h1 h2 (va _ (by omega)) (vb _ (by omega)) (by omega)
 have oo:∀ k:Int,0 ≤ k→k ≤ 7→EOk (eOp k (eName nA) (eName nB)):=fun k h1 h2=>EOk_op h1 h2 oa ob
 have vn:∀ lv,lv ≤ 22→VE oBoth lv:=fun lv h=>VE_not' (vo 4 (by decide) (by decide) _ (by omega)) (by omega)
 have on:EOk oBoth:=EOk_not (oo 4 (by decide) (by decide))
 refine two_vt (by decide) (by decide) (by simp [opsP]) (VSs_all.2 fun x hx=>?_) fun x hx=>?_
 ·simp only [opsP,List.mem_cons,List.not_mem_nil,or_false] at hx
  rcases hx with rfl | rfl | rfl | rfl | rfl | rfl | rfl | rfl
  ·exact VS_out' (vo 1 (by decide) (by decide) _ (by decide)) (by decide)
  ·exact VS_out' (vo 2 (by decide) (by decide) _ (by decide)) (by decide)
  ·exact VS_out' (vo 3 (by decide) (by decide) _ (by decide)) (by decide)
  ·exact VS_out' (vo 4 (by decide) (by decide) _ (by decide)) (by decide)
  ·exact VS_out' (vo 5 (by decide) (by decide) _ (by decide)) (by decide)
  ·exact VS_out' (vn _ (by decide)) (by decide)
  ·exact VS_out' (VE_op' (by decide) (by decide) (vn _ (by decide)) (vo 5 (by decide) (by decide) _ (by decide)) (by decide)) (by decide)
  ·exact VS_out' (VE_op' (by decide) (by decide) (vn _ (by decide)) (vo 5 (by decide) (by decide) _ (by decide)) (by decide)) (by decide)
 ·simp only [opsP,List.mem_cons,List.not_mem_nil,or_false] at hx
  rcases hx with rfl | rfl | rfl | rfl | rfl | rfl | rfl | rfl
  ·exact SOk_out (oo 1 (by decide) (by decide))
  ·exact SOk_out (oo 2 (by decide) (by decide))
  ·exact SOk_out (oo 3 (by decide) (by decide))
  ·exact SOk_out (oo 4 (by decide) (by decide))
  ·exact SOk_out (oo 5 (by decide) (by decide))
  ·exact SOk_out on
  ·exact SOk_out (EOk_op (by decide) (by decide) on (oo 5 (by decide) (by decide)))
  ·exact SOk_out (EOk_op (by decide) (by decide) on (oo 5 (by decide) (by decide)))
theorem ops_res {x y:Nat} (hx:x < 65536) (hy:y < 65536):resX (twoP 16 opsP) [[x],[y]] =
  [x + y,x - y,x * y,oneIf (x < y),oneIf (x=y),1 - oneIf (x < y),oneIf (x=y),1 - oneIf (x < y)]:=by
 obtain ⟨v1,v2,v3⟩:=two_vars (w:=16) (l:=opsP) (x:=x) (y:=y) hx hy
 rw [two_res ops_check hx hy]
 generalize startX (twoP 16 opsP) [[x],[y]]=s at *
 unfold opsP oBoth oEq
 simp only [runsX,run_out,val_op,val_not,val_name,v1,v2,v3,Option.getD_some,opX_1,opX_2,opX_3,opX_4,opX_5,opX_6,opX_7,List.nil_append,List.cons_append]
 have e1:oneIf (1 - oneIf (x < y)=1∧oneIf (x=y)=1)=oneIf (x=y):=by unfold oneIf; split <;> split <;> split <;> omega
 have e2:oneIf (1 - oneIf (x < y)=1∨oneIf (x=y)=1)=1 - oneIf (x < y):=by unfold oneIf; split <;> split <;> split <;> omega
 rw [e1,e2]
namespace YtljoifdccjcidaaDoor
section
variable {h:H} {K:Out→H→Prop}
theorem operators30 {x y:Nat} (hx:x < 65536) (hy:y < 65536) (hK:∀ h',K (.ret (.bool true)) h'):R 4 [.int .u16 x,.int .u16 y] h K:=by
 refine run4 (Nat.le_of_ble_eq_true rfl) ?_
 simp -dsimp -implicitDefEqProofs only [↓STP,STQ,seval,ir4]
 refine awake30 fun h1 u1=>?_
 simp -dsimp -implicitDefEqProofs only [↓STP,STQ,seval]
 refine nameL ?_
 simp -dsimp -implicitDefEqProofs only [↓STP,STQ,seval,hname]
 refine nameL ?_
 simp -dsimp -implicitDefEqProofs only [↓STP,STQ,seval,hname,storeV]
 refine opL' (a:=eName nA) (b:=eName nB) hname.symm hname.symm ?_
 simp -dsimp -implicitDefEqProofs only [↓STP,STQ,seval,hop,storeV]
 refine opL' (k:=1) (a:=eName nA) (b:=eName nB) (hname.symm) (hname.symm) ?_
 simp -dsimp -implicitDefEqProofs only [↓STP,STQ,seval,hop]
 refine outputL' (a:=eOp 1 (eName nA) (eName nB)) (by rw [hop]) ?_
 simp -dsimp -implicitDefEqProofs only [↓STP,STQ,seval,hout]
 refine opL' (k:=2) (a:=eName nA) (b:=eName nB) (hname.symm) (hname.symm) ?_
 simp -dsimp -implicitDefEqProofs only [↓STP,STQ,seval,hop]
 refine outputL' (a:=eOp 2 (eName nA) (eName nB)) (by rw [hop]) ?_
 simp -dsimp -implicitDefEqProofs only [↓STP,STQ,seval,hout]
 refine opL' (k:=3) (a:=eName nA) (b:=eName nB) (hname.symm) (hname.symm) ?_
 simp -dsimp -implicitDefEqProofs only [↓STP,STQ,seval,hop]
 refine outputL' (a:=eOp 3 (eName nA) (eName nB)) (by rw [hop]) ?_
 simp -dsimp -implicitDefEqProofs only [↓STP,STQ,seval,hout]
 refine opL' (k:=4) (a:=eName nA) (b:=eName nB) (hname.symm) (hname.symm) ?_
 simp -dsimp -implicitDefEqProofs only [↓STP,STQ,seval,hop]
 refine outputL' (a:=eOp 4 (eName nA) (eName nB)) (by rw [hop]) ?_
 simp -dsimp -implicitDefEqProofs only [↓STP,STQ,seval,hout]
 refine opL' (k:=5) (a:=eName nA) (b:=eName nB) (hname.symm) (hname.symm) ?_
 simp -dsimp -implicitDefEqProofs only [↓STP,STQ,seval,hop]
 refine outputL' (a:=oEq) (by rw [oEq,hop]) ?_
 simp -dsimp -implicitDefEqProofs only [↓STP,STQ,seval,hout]
 refine outputL' (a:=oBoth) (by rw [oBoth,hnot,hop]; rfl) ?_
 simp -dsimp -implicitDefEqProofs only [↓STP,STQ,seval,hout]
 refine opL' (k:=5) (a:=eName nA) (b:=eName nB) (hname.symm) (hname.symm) ?_
 simp -dsimp -implicitDefEqProofs only [↓STP,STQ,seval,hop]
 refine opL' (k:=6) (a:=oBoth) (b:=oEq) (by rw [oBoth,hnot,hop]; rfl) (by rw [oEq,hop]) ?_
 simp -dsimp -implicitDefEqProofs only [↓STP,STQ,seval,hop]
 refine outputL' (a:=eOp 6 oBoth oEq) (by rw [hop]) ?_
 simp -dsimp -implicitDefEqProofs only [↓STP,STQ,seval,hout]
 refine opL' (k:=5) (a:=eName nA) (b:=eName nB) (hname.symm) (hname.symm) ?_
 simp -dsimp -implicitDefEqProofs only [↓STP,STQ,seval,hop]
 refine opL' (k:=7) (a:=oBoth) (b:=oEq) (by rw [oBoth,hnot,hop]; rfl) (by rw [oEq,hop]) ?_
 simp -dsimp -implicitDefEqProofs only [↓STP,STQ,seval,hop]
 refine outputL' (a:=eOp 7 oBoth oEq) (by rw [hop]) ?_
 simp -dsimp -implicitDefEqProofs only [↓STP,STQ,seval,hout]
 refine twoL' (w:=16) (l:=opsP) (by simp only [opsP,List.map_cons,List.map_nil,hout,hop]) ?_
 have wx:IntKind.u64.wrap (x:Int)=(x:Int):=by rw [wrap_u64_self] <;> omega
 have wy:IntKind.u64.wrap (y:Int)=(y:Int):=by rw [wrap_u64_self] <;> omega
 have wp:IntKind.u64.wrap ((x:Int) + (y:Int))=((x + y:Nat):Int):=by rw [wrap_u64_self] <;> omega
 have hxy:x * y < 65536 * 65536:=Nat.mul_lt_mul'' hx hy
 have wt:IntKind.u64.wrap ((x:Int) * (y:Int))=((x * y:Nat):Int):=by rw [← Int.natCast_mul,wrap_u64_self] <;> omega
 simp -dsimp -implicitDefEqProofs only [↓STP,STQ,seval,htwo,wx,wy]
 refine runI' (p:=twoP 16 opsP) (ls:=[[x],[y]]) (by rw [htwo]) rfl ops_vt (lok2 hx hy) fun h2 r1 u2 w2=>?_
 rw [ops_res hx hy] at w2
 rw [two_err ops_check hx hy]
 rcases w2.shape with rfl | ⟨id1,rfl⟩
 all_goals
  rcases Nat.lt_trichotomy x y with c | c | c
  ·have c1:¬ (y:Int) < (x:Int):=by omega
   have c2:(x:Int) < (y:Int):=by omega
   have c3:¬ (x:Int)=(y:Int):=by omega
   simp -dsimp -implicitDefEqProofs only [↓STP,STQ,seval,wx,wy,wp,wt,eq_false c1,eq_true c2,eq_false c3]
   refine same03W (b:=[x + y,0,x * y,1,0,0,0,0]) w2 (.inl rfl) (by simp) ?_
   rw [decide_eq_true (by rw [oneIf_true c,oneIf_false (show ¬ x=y by omega),show x - y=0 by omega])]
   simp -dsimp -implicitDefEqProofs only [↓STP,STQ,seval]
   exact hK _
  ·have c1:¬ (y:Int) < (x:Int):=by omega
   have c2:¬ (x:Int) < (y:Int):=by omega
   have c3:(x:Int)=(y:Int):=by omega
   simp -dsimp -implicitDefEqProofs only [↓STP,STQ,seval,wx,wy,wp,wt,eq_false c1,eq_false c2,eq_true c3]
   refine same03W (b:=[x + y,0,x * y,0,1,1,1,1]) w2 (.inl rfl) (by simp) ?_
   rw [decide_eq_true (by rw [oneIf_false (show ¬ x < y by omega),oneIf_true c,show x - y=0 by omega])]
   simp -dsimp -implicitDefEqProofs only [↓STP,STQ,seval]
   exact hK _
  ·have c1:(y:Int) < (x:Int):=by omega
   have c2:¬ (x:Int) < (y:Int):=by omega
   have c3:¬ (x:Int)=(y:Int):=by omega
   have ws:IntKind.u64.wrap ((x:Int) - (y:Int))=((x - y:Nat):Int):=by rw [wrap_u64_self] <;> omega
   simp -dsimp -implicitDefEqProofs only [↓STP,STQ,seval,wx,wy,wp,wt,ws,eq_true c1,eq_false c2,eq_false c3]
   refine same03W (b:=[x + y,x - y,x * y,0,0,1,0,1]) w2 (.inl rfl) (by simp) ?_
   rw [decide_eq_true (by rw [oneIf_false (show ¬ x < y by omega),oneIf_false (show ¬ x=y by omega)])]
   simp -dsimp -implicitDefEqProofs only [↓STP,STQ,seval]
   exact hK _
end
end YtljoifdccjcidaaDoor
end Go.Ab
namespace Go.Ab
open Go.RowKit Go.ChangeShapes
section
variable {H':Type} {enc:TypeId × Value→H'} {P:Program} {W:World} {ts:List TypeId}
theorem law_callsG {G:List (Nat × List V)} {E:Env} (hcall:∀ n,CallOK P G (call E n)) (hwr:WR (k0 W) h0 W G) {f:FuncId} {vals:Array Value} {vs:List V} (hargs:ArgsOK (k0 W) W vs vals) (hr:Runs E f vs h0 (fun o _=>o=.ret (.bool true))) :
  Calls P f vals W fun e W'=>e=.returned (.bool true)∧Below W.heap.size W W':=by
 obtain ⟨n,hn⟩:=hr
 refine ((hcall n _ _ _ _ hn).2 (k0 W) W vals hwr hargs).mono fun e W' h=>?_
 obtain ⟨o,h',rfl,k',hwr,hold,x,b,fb,rfl,_,hx⟩:=h
 have hx':VR k' W' (.bool true) x:=hx
 cases hx'
 exact ⟨rfl,hold.misc.2.1,hold.misc.1,hold.misc.2.2,hold.keeps.size,fun b hb=>hold.same b hb (fun id o ho=>by simp [h0] at ho)⟩
theorem law_contractG {B:DataW H'→Nat} (hB:BulkOK B) {N:Nat} {G:List (Nat × List V)} {E:Env} (hcall:∀ n,CallOK P G (call E n)) (hwr:WR (k0 W) h0 W G) {f:FuncId} {fn:Func} {s:ChangeSpec} {apart fresh handsOn:Bool} {base:Nat} {args:Array Value} {ds gs:List (DataW H')} {before:List MemPlace} {tb:TypeId}
  (hl:laidOutB P=true) (hc:closedT P ts=true) (hts:(fn.params.toList.all fun t=>ts.contains t && P.readableRec t && decide (t < P.types.size))=true) (hres:fn.resultTypes=#[tb]) (htb:P.underlying tb=some .bool)
  (hvars:s.vars=[]) (hfn:∀ ds:List (DataW H'),ds.length=fn.params.toList.length→s.fn H' ds={ results:=[.lit (.bool true)],args:=ds })
  (hval:∀ (j:Nat) t v,fn.params[j]?=some t→args[j]?=some v→Value.okWide P W .any base t v)
  (hW:DataW.Whole enc P fn.params.toList s.vars apart W args.toList ds gs before)
  (hbulk:(ds.map B).sum ≤ N)
  (hrun:∀ vs,TyArgs P fn.params.toList vs→V.bulks vs ≤ N→Runs E f vs h0 (fun o _=>o=.ret (.bool true))) :
  Calls P f args W fun e W'=>∃ v,e=.returned v∧s.post enc P fn apart fresh handsOn false W args v W':=by
 have hW0:=hW
 obtain ⟨p,q,hA,hV,rfl,_,_⟩:=hW
 rw [List.all_eq_true] at hts
 have hts':∀ t ∈ fn.params.toList,ts.contains t=true∧P.readableRec t=true∧t < P.types.size:=fun t ht=>by
  have:=hts t ht
  simp only [Bool.and_eq_true,decide_eq_true_eq] at this
  exact ⟨this.1.1,this.1.2,this.2⟩
 rw [hvars] at hV
 obtain ⟨rfl,rfl⟩:gs=[]∧q=[]:=by
  cases gs with
  | nil=>exact ⟨rfl,hV⟩
  | cons=>exact hV.elim
 obtain ⟨us,u1,u2,u3,u4⟩:=args_VB hB (b0:=base) hc (fun t ht=>(hts' t ht).1) hA (fun j t v h1 h2=>hval j t v (by simpa using h1) (by simpa using h2))
 refine (law_callsG hcall hwr (vs:=us) ⟨by simpa using u1.symm,fun j u hj=>?_⟩ (hrun us u3 (Nat.le_trans u4 hbulk))).mono fun e W' h=>?_
 ·obtain ⟨x,a,b⟩:=u2 j u hj
  exact ⟨x,by simpa using a,b⟩
 obtain ⟨rfl,hb⟩:=h
 have hfn:=hfn ds (trodAll_len hA)
 refine ⟨_,rfl,ds,[],p ++ [],[],p,[],hW0,?_,?_,?_,hb.frame _,fun h=>by cases h⟩
 ·rw [List.append_nil,hfn,hres]
  exact trodAll_mk1 (shut_bool htb true)
 ·rw [List.append_nil,hfn]
  exact trodAll_below hl hb (fun t ht=>(hts' t ht).2) hA
 ·rw [List.append_nil,hfn,hvars]; rfl
def litX:V→Value
 | .int k n=>.int k n
 | .bool b=>.bool b
 | _=>.nilFunc
theorem glob_vr {g:Nat} {vs:List V} (hp:∀ v ∈ vs,(∃ k n,v=.int k n)∨∃ b,v=.bool b) (hc:∀ (j:Nat) (v:V),vs[j]?=some v→W.cell? ⟨g,j,none⟩=some (litX v)):VR (k0 W) W (.iptr vs) (.pointer (some ⟨g,0,none⟩)):=by
 refine .iptr vs ⟨g,0,none⟩ (fun j=>litX (vs.getD j .undef)) rfl (fun j v hj=>?_) (fun j v hj=>?_)
 ·have e:vs.getD j .undef=v:=by rw [List.getD_eq_getElem?_getD,hj]; rfl
  have h1:=hc j v hj
  have ha:(⟨g,0,none⟩:Addr).add j=⟨g,j,none⟩:=by simp [Addr.add]; try omega
  rw [ha]
  simp only [e]
  refine ⟨h1,cell_lim h1,?_⟩
  rcases hp v (List.mem_of_getElem? hj) with ⟨k,n,rfl⟩ | ⟨b,rfl⟩ <;> rfl
 ·have e:vs.getD j .undef=v:=by rw [List.getD_eq_getElem?_getD,hj]; rfl
  simp only [e]
  rcases hp v (List.mem_of_getElem? hj) with ⟨k,n,rfl⟩ | ⟨b,rfl⟩
  ·exact .int k n
  ·exact .bool b
theorem wrG {G:List (Nat × List V)} (h:∀ g cells,(g,cells) ∈ G→VR (k0 W) W (.iptr cells) (.pointer (some ⟨g,0,none⟩))):WR (k0 W) h0 W G:=⟨rfl,fun id o h=>by simp [h0] at h,fun id id' o o' h=>by simp [h0] at h,h⟩
end
end Go.Ab
