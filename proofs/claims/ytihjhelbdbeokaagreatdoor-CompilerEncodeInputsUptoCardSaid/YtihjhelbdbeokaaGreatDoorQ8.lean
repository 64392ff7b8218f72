/- Part of a proof: The given checker: statements. -/
import Derived.Test.YtihjhelbdbeokaaGreatDoorQ7
set_option linter.unusedVariables false
set_option linter.unusedSimpArgs false
namespace Go.Ab
namespace YtihjhelbdbeokaaGreatDoor
section
variable {K:Out→H→Prop} {p:Prg}
def SpS (p:Prg) (x:Stm) (lv:Nat):Prop:=∀ (L:Lk) (σ:TS) (h:H) (K:Out→H→Prop) (l:List Kn),At p L σ h→TOk p σ→σ.ifs ≤ lv→(∀ k ∈ l,KOk k)→l.length=x.e.length →
 EndS p L h K (Zg4 p x.kind x.name l (Zal p x.thn) (Zal p x.els) σ)→R 120 [.ptr L.x 0,x.v,.vec (l.map Kn.v) .any] h K
theorem stmtG {k:Int} {s:ByteArray} {e:List Exp} {a b:List Stm} {lv:Nat} (hp:PV p) (hv:VS (.mk k s e a b) lv) (ha:SpSs p a (lv + 1)) (hb:SpSs p b (lv + 1)) (ga:Zcj p (Zal p a)) (gb:Zcj p (Zal p b)):SpS p (.mk k s e a b) lv:=by
 intro L σ h K l A ok hifs hl hll hK
 obtain ⟨v1,v2,v3,v4,v5,v6,v7,v8,v9,v10,v11⟩:=VS_mk.1 hv
 have hle:l.length=e.length:=hll
 have hK:EndS p L h K (Zg4 p k s l (Zal p a) (Zal p b) σ):=hK
 have okn:=fun i=>Zb6 hl i
 have gx:=Zam A.x
 have kk:k=1∨k=2∨k=3∨k=4∨k=5:=by omega
 have h0:0 < l.length:=by rw [hle,v4]; split <;> decide
 have g0:=Zbg (l:=l) (i:=0) h0
 refine run120 (Nat.le_of_ble_eq_true rfl) ?_
 unfold Zg4 at hK
 rcases kk with rfl | rfl | rfl | rfl | rfl
 ·rw [if_pos rfl] at hK
  unfold setT at hK
  simp -dsimp -implicitDefEqProofs only [↓STP,STQ,seval,Stm.v_mk,ir120]
  refine takenG A ?_
  cases ht:Zdl p σ.env s with
  | true =>
   rw [ht,if_pos rfl] at hK
   simp -dsimp -implicitDefEqProofs only [↓STP,STQ,seval]
   refine Zd9 ?_
   simp -dsimp -implicitDefEqProofs only [↓STP,STQ,seval]
   exact hK _ _ (Fr.refl _ _)
  | false =>
   rw [ht,if_neg (by decide)] at hK
   obtain ⟨ver,hvv⟩:=A.v
   obtain ⟨ver',hup⟩:=Zii (f:=vkV) (s:=s) (v:=((nthK l 0).kind,(nthK l 0).w)) hvv
   rw [show vkV ((nthK l 0).kind,(nthK l 0).w)=V.agg [I (nthK l 0).kind,I (nthK l 0).w,.bool false,.int .u64 0] from rfl] at hup
   simp -dsimp -implicitDefEqProofs only [↓STP,STQ,seval,gx,Lk.cs,g0,Kn.v_clen,Zab,hup]
   obtain ⟨A',F'⟩:=A.setVars (h':=h.set L.v (.map (mapO vkV (setE s ((nthK l 0).kind,(nthK l 0).w) L.es)) ver')) Zm0 (es':=setE s ((nthK l 0).kind,(nthK l 0).w) L.es) ⟨ver',by rw [Zac,if_pos rfl]⟩
    (vars':=setV σ.env.vars s (some ((nthK l 0).kind,(nthK l 0).w))) (fun t=>by rw [Zh4,A.es]; rfl) (Zk4 A.esn)
   exact hK _ _ A' F'
 ·rw [if_neg (by decide),if_pos rfl] at hK
  have h1:1 < l.length:=by rw [hle,v4,if_pos (.inl rfl)]; decide
  have g1:=Zbg (l:=l) (i:=1) h1
  unfold Zkt at hK
  obtain ⟨ver,hs⟩:=A.s
  obtain ⟨verw,hw⟩:=A.w
  have e2:=Zjz (p:=p) (s:=s)
  cases c2:arOf p s with
  | none =>
   rw [c2] at e2 hK
   simp -dsimp -implicitDefEqProofs only [↓STP,STQ,seval,Stm.v_mk,ir120,gx,Lk.cs,Zaw hs,e2,Option.map_none,Za8,getD_some,Za7,Za2,Zap,Zat]
   refine Zd9 ?_
   simp -dsimp -implicitDefEqProofs only [↓STP,STQ,seval]
   exact hK _ _ (Fr.refl _ _)
  | some i =>
   rw [c2] at e2 hK
   obtain ⟨d,hd,hn,hg⟩:=Zc0 c2
   rw [Option.map_some,hg] at e2
   simp only at hK
   rw [hg] at hK
   obtain ⟨id,ws,hws,hfw,hob⟩:=A.ws i d hd
   rw [hn] at hfw
   have hlen:=(ok.env.words i ws d hws hd).1
   have hds:=hp.ars d (List.mem_of_getElem? hd)
   simp -dsimp -implicitDefEqProofs only [↓STP,STQ,seval,Stm.v_mk,ir120,gx,Lk.cs,Zaw hs,e2,Za8,getD_some,Za7,Za2,Zap,Zat,intU,g0,Kn.v_clen,Kn.v_mkEl]
   refine Zvb (by omega) (by omega) (okn 0).lt ?_
   cases hpl:Zb0 (nthK l 0) d.size with
   | error er =>
    rw [hpl] at hK
    rw [Zbk]
    simp -dsimp -implicitDefEqProofs only [↓STP,STQ,seval]
    exact hK _ _ (Fr.refl _ _)
   | ok n =>
    rw [hpl,Zau] at hK
    rw [Zc1]
    have hnl:n < ws.length:=by
     unfold Zb0 at hpl
     split at hpl
     ·cases hpl
     ·split at hpl
      ·cases hpl
      ·cases hpl; omega
    simp -dsimp -implicitDefEqProofs only [↓STP,STQ,seval,g1,Kn.v_clen,Kn.v_mkEl]
    refine Zen (fun c=>?_) (fun c=>?_)
    rotate_left
    ·rw [if_pos c] at hK
     simp -dsimp -implicitDefEqProofs only [↓STP,STQ,seval]
     exact hK _ _ (Fr.refl _ _)
    rw [if_neg (by simp [c])] at hK
    have hnI:((n:Nat):Int) < ((ws.length:Nat):Int):=by omega
    have stw:=fun ρ m n' u=>Zco (ρ:=ρ) (m:=m) (n:=n') (u:=u) (j:=n) (v:=I (((nthK l 1).w:Nat):Int)) (Zam hob) (by rw [Zbq]; exact hnl) rfl rfl
    rw [Zfw] at stw
    simp -dsimp -implicitDefEqProofs only [↓STP,STQ,seval,gx,Lk.cs,Zh0 hw,hfw,Za2,getD_some,refV,g1,Kn.v_clen,Zab,eq_true hnI,Nat.mul_one,stw]
    obtain ⟨A',F'⟩:=A.setWord hp (n:=n) (w:=(nthK l 1).w) c2 hws hfw
    exact hK _ _ A' F'
 ·rw [if_neg (by decide),if_neg (by decide),if_pos rfl] at hK
  unfold ifT at hK
  simp -dsimp -implicitDefEqProofs only [↓STP,STQ,seval,Stm.v_mk,ir120,g0,Kn.v_clen,Kn.v_mkEl]
  refine Zen (fun c=>?_) (fun c=>?_)
  rotate_left
  ·rw [if_pos c] at hK
   simp -dsimp -implicitDefEqProofs only [↓STP,STQ,seval]
   exact hK _ _ (Fr.refl _ _)
  rw [if_neg (by simp [c])] at hK
  simp -dsimp -implicitDefEqProofs only [↓STP,STQ,seval]
  refine branchG hp ha hb ga gb A ok hifs (by omega) ?_
  refine Zcv hK (fun σ' hq L' h' A' F'=>?_) (fun er hq L' h' F'=>?_)
  ·simp -dsimp -implicitDefEqProofs only [↓STP,STQ,seval]
   exact hq _ _ A' F'
  ·simp -dsimp -implicitDefEqProofs only [↓STP,STQ,seval]
   exact hq _ _ F'
 ·rw [if_neg (by decide),if_neg (by decide),if_neg (by decide),if_pos rfl] at hK
  have h1:1 < l.length:=by rw [hle,v4,if_pos (.inr rfl)]; decide
  have g1:=Zbg (l:=l) (i:=1) h1
  simp -dsimp -implicitDefEqProofs only [↓STP,STQ,seval,Stm.v_mk,ir120,g0,g1,Kn.v_clen,Kn.v_mkEl]
  rw [← Stm.v_mk]
  refine loopG (k:=4) (e:=e) (b:=b) hp (lv:=lv + 1) ha ga A ok (by omega) hl ?_
  refine Zcv hK (fun σ' hq L' h' A' F'=>?_) (fun er hq L' h' F'=>?_)
  ·simp -dsimp -implicitDefEqProofs only [↓STP,STQ,seval]
   exact hq _ _ A' F'
  ·simp -dsimp -implicitDefEqProofs only [↓STP,STQ,seval]
   exact hq _ _ F'
 ·rw [if_neg (by decide),if_neg (by decide),if_neg (by decide),if_neg (by decide)] at hK
  by_cases c:0 < σ.ifs
  ·have c':(0:Int) < (σ.ifs:Int):=by omega
   rw [if_pos c] at hK
   simp -dsimp -implicitDefEqProofs only [↓STP,STQ,seval,Stm.v_mk,ir120,gx,Lk.cs,eq_true c']
   refine Zd9 ?_
   simp -dsimp -implicitDefEqProofs only [↓STP,STQ,seval]
   exact hK _ _ (Fr.refl _ _)
  ·have c':¬ (0:Int) < (σ.ifs:Int):=by omega
   rw [if_neg c] at hK
   simp -dsimp -implicitDefEqProofs only [↓STP,STQ,seval,Stm.v_mk,ir120,gx,Lk.cs,eq_false c']
   exact hK _ _ A (Fr.refl _ _)
theorem Zek {p:Prg}:∀ {a b:List Stm} {σ:TS},Zal p (a ++ b) σ=andT (Zal p a σ) (Zal p b)
 | [],b,σ=>by rw [List.nil_append,Zal,Zau]
 | x :: xs,b,σ=>by
  rw [List.cons_append,Zal,Zal]
  cases Zg3 p x σ with
  | error e=>rfl
  | ok τ=>rw [Zau,Zau,Zek]
theorem Zjb {p:Prg} {l:List Stm} {j:Nat} (hj:j < l.length) {σ τ:TS} (h:Zal p (l.take j) σ=.ok τ):Zal p (l.take (j + 1)) σ=Zg3 p l[j] τ:=by
 rw [List.take_add_one,List.getElem?_eq_getElem hj,Option.toList_some,Zek,h,Zau,Zal]
 cases Zg3 p l[j] τ with
 | error e=>rfl
 | ok q=>rw [Zau,Zal]
theorem Zej {p:Prg} {l:List Stm} {j:Nat} {σ:TS} {e:Int} (h:Zal p (l.take j) σ=.error e):Zal p l σ=.error e:=by
 have:l=l.take j ++ l.drop j:=(List.take_append_drop j l).symm
 rw [this,Zek,h]; rfl
theorem Zjd {l:List Stm} {lv:Nat} (hp:PV p) (hlen:l.length ≤ 9223372036854775807) (ih:∀ x ∈ l,SpS p x lv) (hv:VSs l lv) (okl:∀ x ∈ l,SOk x):SpSs p l lv:=by
 intro L σ h K A ok hifs hK
 have good:∀ j,Zcj p (Zal p (l.take j)):=fun j=>Zd3 hp (VSs_all.2 fun x hx=>VSs_all.1 hv x (List.mem_of_mem_take hx))
 refine run97 (Nat.le_of_ble_eq_true rfl) ?_
 simp -dsimp -implicitDefEqProofs only [↓STP,STQ,seval,ir97,List.length_map]
 refine Zai (fun k s=>∃ j τ L' h',j ≤ l.length∧k=l.length - j∧Zal p (l.take j) σ=.ok τ∧At p L' τ h'∧Fr L L' h h' ∧
  s=⟨upd (upd (upd (upd ρ0 0 (.ptr L.x 0)) 6 (.vec (l.map Stm.v) .any)) 7 (I l.length)) 8 (I j),m0,0,[],h'⟩) (i:=l.length) ⟨0,σ,L,h,Nat.zero_le _,rfl,by rw [List.take_zero,Zal],A,Fr.refl _ _,by simp -dsimp -implicitDefEqProofs only [↓STP,STQ,seval] <;> rfl⟩ ?_ mono
 rintro k s ⟨j,τ,L',h',hj,rfl,hr,A',F',rfl⟩
 have kp:=good j _ _ ok hr
 rcases Nat.lt_or_ge j l.length with hi | hi
 ·have hget:=Za5 (f:=Stm.v) hi
  have hx:=ih _ (List.getElem_mem hi)
  have hvx:=VSs_all.1 hv _ (List.getElem_mem hi)
  have okx:=okl _ (List.getElem_mem hi)
  have w1:=wiM (show j < 9223372036854775807 by omega)
  have htk:=Zjb hi hr
  generalize hxe:l[j]=x at *
  obtain ⟨k,s,e,a,b⟩:=x
  obtain ⟨v1,v2,v3,v4,v5,v6,v7,v8,v9,v10,v11⟩:=VS_mk.1 hvx
  obtain ⟨_,_,_,_,_,oke,_,_⟩:=Ziq okx
  simp -dsimp -implicitDefEqProofs only [↓STP,STQ,seval,Int.ofNat_lt,hi,hget,Zun,Stm.v_outs,Stm.v_clen,Stm.v_tk,Stm.v_ag,Stm.v_out,eq_self]
  rw [← F'.x]
  refine stepG A' kp.ok.steps ?_
  rw [Zg3] at htk
  cases hst:Zhu τ with
  | error er =>
   rw [hst] at htk
   have hfa:=Zej htk
   rw [hfa] at hK
   rw [Zbk]
   simp -dsimp -implicitDefEqProofs only [↓STP,STQ,seval]
   exact hK _ _ F'
  | ok τ1 =>
   rw [hst,Zau] at htk
   rw [Zc1]
   obtain ⟨rfl,kp1⟩:=Zix kp.ok hst
   intro h2 A2 F2
   simp -dsimp -implicitDefEqProofs only [↓STP,STQ,seval,Stm.v_mk]
   refine Znw hp (by rw [v4]; split <;> decide) (fun x hx=>exprG hp x _ (v9 x hx) (oke x hx)) v9 A2 kp1.ok ?_
   cases hex:Za9 p ({ τ with steps:=τ.steps + 1 }:TS).env e with
   | error er =>
    rw [hex] at htk
    have hfa:=Zej htk
    rw [hfa] at hK
    intro h3 F3
    simp -dsimp -implicitDefEqProofs only [↓STP,STQ,seval]
    exact hK _ _ ((F'.trans F2).trans F3)
   | ok lm =>
    obtain ⟨lk,m⟩:=lm
    rw [hex,Zau] at htk
    obtain ⟨hkl,hm,hll⟩:=Zff hp kp1.ok.env v9 lk m hex
    intro h3 A3 F3
    simp -dsimp -implicitDefEqProofs only [↓STP,STQ,seval]
    rw [← Stm.v_mk]
    have ok3:TOk p { ({ τ with steps:=τ.steps + 1 }:TS) with most:=max τ.most m }:=⟨kp.ok.env,kp1.ok.steps,by have:=kp.ok.most; show max τ.most m ≤ 60; omega⟩
    refine hx _ _ _ _ lk A3 ok3 (by show τ.ifs ≤ lv; rw [kp.ifs]; exact hifs) hkl hll ?_
    show EndS p L' h3 _ (Zg4 p k s lk (Zal p a) (Zal p b) { ({ τ with steps:=τ.steps + 1 }:TS) with most:=max τ.most m })
    cases hs1:Zg4 p k s lk (Zal p a) (Zal p b) { ({ τ with steps:=τ.steps + 1 }:TS) with most:=max τ.most m } with
    | error er =>
     have htk':Zal p (l.take (j + 1)) σ=.error er:=htk.trans hs1
     have hfa:=Zej htk'
     rw [hfa] at hK
     intro L4 h4 F4
     simp -dsimp -implicitDefEqProofs only [↓STP,STQ,seval]
     exact hK _ _ (((F'.trans F2).trans F3).trans F4)
    | ok τ2 =>
     have htk':Zal p (l.take (j + 1)) σ=.ok τ2:=htk.trans hs1
     intro L4 h4 A4 F4
     have FF:=((F'.trans F2).trans F3).trans F4
     simp -dsimp -implicitDefEqProofs only [↓STP,STQ,seval,w1]
     exact ⟨l.length - (j + 1),by omega,j + 1,τ2,L4,h4,hi,rfl,htk',A4,FF,by rw [F'.x]⟩
 ·have hj':j=l.length:=by omega
  subst hj'
  rw [List.take_length] at hr
  rw [hr] at hK
  simp -dsimp -implicitDefEqProofs only [↓STP,STQ,seval,Int.lt_irrefl]
  exact hK _ _ A' F'
theorem stmtGG (hp:PV p) (x:Stm):∀ lv,VS x lv→SOk x→SpS p x lv:=by
 induction x using Stm.ind with
 | h k s e a b iha ihb =>
  intro lv hv ok
  obtain ⟨v1,v2,v3,v4,v5,v6,v7,v8,v9,v10,v11⟩:=VS_mk.1 hv
  obtain ⟨_,_,_,la,lb,oke,oka,okb⟩:=Ziq ok
  have hm:=Za4
  exact stmtG hp hv (Zjd hp (by omega) (fun x hx=>iha x hx _ (VSs_all.1 v10 x hx) (oka x hx)) v10 oka) (Zjd hp (by omega) (fun x hx=>ihb x hx _ (VSs_all.1 v11 x hx) (okb x hx)) v11 okb) (Zd3 hp v10) (Zd3 hp v11)
theorem stmtsG (hp:PV p) {l:List Stm} {lv:Nat} (hl:l.length ≤ maxLen) (hv:VSs l lv) (ok:∀ x ∈ l,SOk x):SpSs p l lv:=
 Zjd hp (by have:=Za4; omega) (fun x hx=>stmtGG hp x _ (VSs_all.1 hv x hx) (ok x hx)) hv ok
end
end YtihjhelbdbeokaaGreatDoor
end Go.Ab
namespace Go.Ab
theorem bsz {a:Array UInt8}:ByteArray.size ⟨a⟩=a.size:=rfl
theorem addS {a b:ByteArray} (h:a.size + b.size ≤ 9223372036854775807):binS .add a b=some (.str (a ++ b)):=by simp only [binS,if_pos h]
theorem len1 {α:Type} {l:List α} (h:l.length=1):∃ a,l=[a]:=by
 match l,h with
 | [a],_=>exact ⟨a,rfl⟩
theorem len2 {α:Type} {l:List α} (h:l.length=2):∃ a b,l=[a,b]:=by
 match l,h with
 | [a,b],_=>exact ⟨a,b,rfl⟩
theorem len3 {α:Type} {l:List α} (h:l.length=3):∃ a b c,l=[a,b,c]:=by
 match l,h with
 | [a,b,c],_=>exact ⟨a,b,c,rfl⟩
theorem Zpg {k:Int} {n:Nat} (h:Zb3 k=n):k=1∨k=2∨k=3∨k=4∨k=5∨k=6:=by
 unfold Zb3 at h
 split at h
 ·omega
 ·split at h
  ·omega
  ·split at h
   ·omega
   ·split at h <;> omega
def dlen (n:Nat):Nat:=if n < 10 then 1 else 1 + dlen (n / 10)
theorem Zh8 {n:Nat} (h:n < 10):dlen n=1:=by rw [dlen,if_pos h]
theorem Zrh {n:Nat} (h:¬ n < 10):dlen n=1 + dlen (n / 10):=by rw [dlen,if_neg h]
theorem Zwx:∀ {k n:Nat},n < 10 ^ k→dlen n ≤ max k 1
 | 0, n, h => by have : n = 0 := by simpa using h
                 subst this; rw [Zh8 (by decide)]; decide
 | k + 1,n,h=>by
  by_cases h1:n < 10
  ·rw [Zh8 h1]; omega
  ·rw [Zrh h1]
   have h2:n / 10 < 10 ^ k:=by rw [Nat.div_lt_iff_lt_mul (by decide),← Nat.pow_succ]; exact h
   have:=Zwx h2
   rcases Nat.eq_zero_or_pos k with hk | hk
   ·subst hk; simp at h2; omega
   ·omega
theorem Zcy {n:Nat} (h:n < 18446744073709551616):dlen n ≤ 20:=Zwx (k:=20) (by omega)
def Zcd (k o:Int):Int:=if k=6 then 1 else if k=5 then 8 else if k=4 then (if o=7 then 2 else if o=6 then 3 else if o=5 then 4 else if o=4 then 5 else if o=3 then 7 else 6) else 9
def held (x:Int × Nat) (m:Int):Nat:=if x.1 < m then x.2 + 2 else x.2
def nth (l:List (Int × Nat)) (i:Nat):Int × Nat:=l.getD i (9,0)
def Zdk (k o:Int) (n:Nat) (s:ByteArray) (l:List (Int × Nat)):Nat:=
 if k=1 then dlen n else if k=2 then s.size else if k=3 then s.size + 1 + (nth l 0).2 + 1 else if k=5 then 1 + held (nth l 0) 8
 else if k=6 then held (nth l 0) 2 + 3 + (nth l 1).2 + 3 + (nth l 2).2
 else held (nth l 0) (Zcd k o) + 1 + (if o=5 then 2 else 1) + 1 + held (nth l 1) (Zcd k o + 1)
mutual
def tlen:Exp→Nat
 | .mk k o n s ks=>Zdk k o n s (Zx6 ks)
def Zx6:List Exp→List (Int × Nat)
 | []=>[]
 | e :: es=>(Zcd e.kind e.op,tlen e) :: Zx6 es
end
def tl (e:Exp):Int × Nat:=(Zcd e.kind e.op,tlen e)
theorem Znb:∀ l:List Exp,Zx6 l=l.map tl
 | []=>rfl
 | e :: es=>by rw [Zx6,Znb es]; rfl
theorem Zuh {k o:Int} {n:Nat} {s:ByteArray} {ks:List Exp}:tlen (.mk k o n s ks)=Zdk k o n s (ks.map tl):=by rw [tlen,Znb]
namespace YtihjhelbdbeokaaGreatDoor
section
variable {h:H} {K:Out→H→Prop}
theorem dec27 {n:Nat} (hn:n < 18446744073709551616) (hK:∀ s:ByteArray,s.size=dlen n→K (.ret (.str s)) h):R 108 [W n] h K:=by
 refine run108 (Nat.le_of_ble_eq_true rfl) ?_
 have w1:∀ {n:Nat},IntKind.u64.wrap (48 + Int.tmod (n:Int) 10)=((48 + n % 10:Nat):Int):=fun {n}=>by
  rw [show Int.tmod (n:Int) 10=((n % 10:Nat):Int) from rfl,Zay] <;> omega
 simp -dsimp -implicitDefEqProofs only [↓STP,STQ,seval,ir108,w1,Zfk]
 refine Zai (fun k st=>∃ (m:Nat) (s:ByteArray),k=m∧m ≤ n∧s.size + dlen m=dlen n + 1∧s.size ≤ 30∧st=⟨upd (upd ρ0 0 (W m)) 3 (.str s),m0,0,[],h⟩) (i:=n) ⟨n,_,rfl,Nat.le_refl _,?_,?_,by simp -dsimp -implicitDefEqProofs only [↓STP,STQ,seval] <;> rfl⟩ ?_ mono
 ·simp only [bsz,List.size_toArray,List.length_cons,List.length_nil]; omega
 ·simp only [bsz,List.size_toArray,List.length_cons,List.length_nil]; omega
 rintro m st ⟨_,s,rfl,hm,hs,hs2,rfl⟩
 have hd:=Zcy hn
 by_cases c:(10:Int) ≤ (m:Int)
 ·have q1:IntKind.u64.wrap (Int.tdiv (m:Int) 10)=((m / 10:Nat):Int):=by
   rw [show Int.tdiv (m:Int) 10=((m / 10:Nat):Int) from rfl,Zay] <;> omega
  have hdm:=Zrh (show ¬ m < 10 by omega)
  simp -dsimp -implicitDefEqProofs (disch:=first | (simp -dsimp only [↓STP,STQ,seval]; done) | omega | (simp only [ByteArray.size_append,bsz,List.size_toArray,List.length_cons,List.length_nil]; omega)) only [↓STP,STQ,seval,addS,eq_true c,q1,w1,Zfk]
  refine ⟨m / 10,by omega,m / 10,_,rfl,by omega,?_,?_,rfl⟩
  ·simp only [ByteArray.size_append,bsz,List.size_toArray,List.length_cons,List.length_nil]; omega
  ·simp only [ByteArray.size_append,bsz,List.size_toArray,List.length_cons,List.length_nil]; omega
 ·have hdm:=Zh8 (show m < 10 by omega)
  simp -dsimp -implicitDefEqProofs only [↓STP,STQ,seval,eq_false c]
  exact hK s (by omega)
theorem Zu8 {e:Exp} (hK:K (.ret (I (Zcd e.kind e.op))) h):R 127 [e.v] h K:=by
 obtain ⟨k,o,n,s,ks⟩:=e
 refine run127 (Nat.le_of_ble_eq_true rfl) ?_
 by_cases c6:k=6
 ·simp -dsimp -implicitDefEqProofs only [↓STP,STQ,seval,Exp.v_mk,ir127,eq_true c6]
  simpa [Exp.kind,Exp.op,Zcd,c6] using hK
 by_cases c5:k=5
 ·simp -dsimp -implicitDefEqProofs only [↓STP,STQ,seval,Exp.v_mk,ir127,eq_false c6,eq_true c5]
  simpa [Exp.kind,Exp.op,Zcd,c5] using hK
 by_cases c4:k=4
 ·by_cases o7:o=7
  ·simp -dsimp -implicitDefEqProofs only [↓STP,STQ,seval,Exp.v_mk,ir127,eq_false c6,eq_false c5,eq_true c4,eq_true o7]
   simpa [Exp.kind,Exp.op,Zcd,c4,o7] using hK
  by_cases o6:o=6
  ·simp -dsimp -implicitDefEqProofs only [↓STP,STQ,seval,Exp.v_mk,ir127,eq_false c6,eq_false c5,eq_true c4,eq_false o7,eq_true o6]
   simpa [Exp.kind,Exp.op,Zcd,c4,o6] using hK
  by_cases o5:o=5
  ·simp -dsimp -implicitDefEqProofs only [↓STP,STQ,seval,Exp.v_mk,ir127,eq_false c6,eq_false c5,eq_true c4,eq_false o7,eq_false o6,eq_true o5]
   simpa [Exp.kind,Exp.op,Zcd,c4,o5] using hK
  by_cases o4:o=4
  ·simp -dsimp -implicitDefEqProofs only [↓STP,STQ,seval,Exp.v_mk,ir127,eq_false c6,eq_false c5,eq_true c4,eq_false o7,eq_false o6,eq_false o5,eq_true o4]
   simpa [Exp.kind,Exp.op,Zcd,c4,o4] using hK
  by_cases o3:o=3
  ·simp -dsimp -implicitDefEqProofs only [↓STP,STQ,seval,Exp.v_mk,ir127,eq_false c6,eq_false c5,eq_true c4,eq_false o7,eq_false o6,eq_false o5,eq_false o4,eq_true o3]
   simpa [Exp.kind,Exp.op,Zcd,c4,o3] using hK
  simp -dsimp -implicitDefEqProofs only [↓STP,STQ,seval,Exp.v_mk,ir127,eq_false c6,eq_false c5,eq_true c4,eq_false o7,eq_false o6,eq_false o5,eq_false o4,eq_false o3]
  simpa [Exp.kind,Exp.op,Zcd,c4,o7,o6,o5,o4,o3] using hK
 simp -dsimp -implicitDefEqProofs only [↓STP,STQ,seval,Exp.v_mk,ir127,eq_false c6,eq_false c5,eq_false c4]
 simpa [Exp.kind,Exp.op,Zcd,c6,c5,c4] using hK
theorem sign27 {o:Int} (h1:1 ≤ o) (h2:o ≤ 7) (hK:∀ s:ByteArray,s.size=(if o=5 then 2 else 1)→K (.ret (.str s)) h):R 128 [I o] h K:=by
 refine run128 (Nat.le_of_ble_eq_true rfl) ?_
 have kk:o=1∨o=2∨o=3∨o=4∨o=5∨o=6∨o=7:=by omega
 have ww:∀ {a b:Int},a=b→0 ≤ b→b ≤ 10→IntKind.i64.wrap a=b:=fun h1 h2 h3=>by rw [h1,wrap_i64] <;> omega
 have w0:=ww (a:=0) rfl (by decide) (by decide)
 have w1:=ww (a:=1) rfl (by decide) (by decide)
 have w2:=ww (a:=2) rfl (by decide) (by decide)
 have w3:=ww (a:=3) rfl (by decide) (by decide)
 have w4:=ww (a:=4) rfl (by decide) (by decide)
 have w5:=ww (a:=5) rfl (by decide) (by decide)
 have w6:=ww (a:=6) rfl (by decide) (by decide)
 rcases kk with rfl | rfl | rfl | rfl | rfl | rfl | rfl
 all_goals
  simp -dsimp -implicitDefEqProofs only [↓STP,STQ,seval,ir128,w0,w1,w2,w3,w4,w5,w6]
  exact hK _ rfl
def Zrx (e:Exp):Prop:=∀ (h:H) (K:Out→H→Prop),(∀ s:ByteArray,s.size=tlen e→K (.ret (.str s)) h)→R 109 [e.v] h K
theorem Zl7 {e:Exp} {m:Int} (ok:Zrx e) (hl:held (tl e) m ≤ 1000000000) (hK:∀ s:ByteArray,s.size=held (tl e) m→K (.ret (.str s)) h):R 126 [e.v,I m] h K:=by
 refine run126 (Nat.le_of_ble_eq_true rfl) ?_
 obtain ⟨k,o,n,s,ks⟩:=e
 have hpe:Zcd (Exp.mk k o n s ks).kind (Exp.mk k o n s ks).op=Zcd k o:=rfl
 by_cases c:Zcd k o < m
 ·have hh:held (tl (.mk k o n s ks)) m=tlen (.mk k o n s ks) + 2:=if_pos c
  rw [hh] at hl hK
  simp -dsimp -implicitDefEqProofs only [↓STP,STQ,seval,Exp.v_mk,ir126]
  rw [← Exp.v_mk]
  refine Zu8 ?_
  simp -dsimp -implicitDefEqProofs only [↓STP,STQ,seval,Exp.v_mk,hpe,c]
  rw [← Exp.v_mk]
  refine ok _ _ fun s hs=>?_
  simp -dsimp -implicitDefEqProofs (disch:=first | (simp -dsimp only [↓STP,STQ,seval]; done) | omega | (simp only [ByteArray.size_append,bsz,List.size_toArray,List.length_cons,List.length_nil]; omega)) only [↓STP,STQ,seval,addS]
  exact hK _ (by simp only [ByteArray.size_append,bsz,List.size_toArray,List.length_cons,List.length_nil]; omega)
 ·have hh:held (tl (.mk k o n s ks)) m=tlen (.mk k o n s ks):=if_neg c
  rw [hh] at hl hK
  simp -dsimp -implicitDefEqProofs only [↓STP,STQ,seval,Exp.v_mk,ir126]
  rw [← Exp.v_mk]
  refine Zu8 ?_
  simp -dsimp -implicitDefEqProofs only [↓STP,STQ,seval,Exp.v_mk,hpe,c]
  rw [← Exp.v_mk]
  refine ok _ _ fun s hs=>?_
  simp -dsimp -implicitDefEqProofs only [↓STP,STQ,seval]
  exact hK s hs
theorem text27 (e:Exp):∀ lv,VE e lv→EOk e→tlen e ≤ 1000000000→Zrx e:=by
 induction e using Exp.ind with
 | h k o n s ks ih =>
  intro lv hv ok hl h K hK
  obtain ⟨v1,v2,v3,v4,v5,v6,v7,v8,v9⟩:=VE_mk.1 hv
  obtain ⟨_,_,hn,hs,_,hks⟩:=Zlt ok
  rw [Zuh] at hl hK
  have one:∀ (x:Exp),x ∈ ks→tlen x ≤ 1000000000→Zrx x:=fun x hx hl=>ih _ hx (lv + 1) (v9 _ hx) (hks _ hx) hl
  refine run109 (Nat.le_of_ble_eq_true rfl) ?_
  by_cases c1:k=1
  ·subst c1
   have ht:Zdk 1 o n s (ks.map tl)=dlen n:=if_pos rfl
   rw [ht] at hl hK
   simp -dsimp -implicitDefEqProofs only [↓STP,STQ,seval,Exp.v_mk,ir109]
   refine dec27 hn fun s hs=>?_
   simp -dsimp -implicitDefEqProofs only [↓STP,STQ,seval]
   exact hK s hs
  by_cases c2:k=2
  ·subst c2
   have ht:Zdk 2 o n s (ks.map tl)=s.size:=by simp [Zdk]
   rw [ht] at hl hK
   simp -dsimp -implicitDefEqProofs only [↓STP,STQ,seval,Exp.v_mk,ir109]
   exact hK s rfl
  by_cases c3:k=3
  ·subst c3
   obtain ⟨a,rfl⟩:=len1 (show ks.length=1 by have:Zb3 _=(ks.length:Int):=v2; simp [Zb3] at this; omega)
   ·skip
    have ht:Zdk 3 o n s ([a].map tl)=s.size + 1 + tlen a + 1:=by simp [Zdk,nth,tl]
    rw [ht] at hl hK
    simp -dsimp -implicitDefEqProofs (disch:=first | (simp -dsimp only [↓STP,STQ,seval]; done) | omega | (simp only [ByteArray.size_append,bsz,List.size_toArray,List.length_cons,List.length_nil]; omega)) only [↓STP,STQ,seval,addS,Exp.v_mk,Exp.v_clen,Exp.v_tk,Exp.v_ag,Exp.v_out,ir109]
    refine one a (by simp) (by omega) _ _ fun s1 h1=>?_
    simp -dsimp -implicitDefEqProofs (disch:=first | (simp -dsimp only [↓STP,STQ,seval]; done) | omega | (simp only [ByteArray.size_append,bsz,List.size_toArray,List.length_cons,List.length_nil]; omega)) only [↓STP,STQ,seval,addS]
    exact hK _ (by simp only [ByteArray.size_append,bsz,List.size_toArray,List.length_cons,List.length_nil]; omega)
  by_cases c5:k=5
  ·subst c5
   obtain ⟨a,rfl⟩:=len1 (show ks.length=1 by have:Zb3 _=(ks.length:Int):=v2; simp [Zb3] at this; omega)
   ·skip
    have ht:Zdk 5 o n s ([a].map tl)=1 + held (tl a) 8:=by simp [Zdk,nth]
    rw [ht] at hl hK
    have hh:tlen a ≤ held (tl a) 8:=by unfold held; split <;> simp only [tl] <;> omega
    simp -dsimp -implicitDefEqProofs (disch:=first | (simp -dsimp only [↓STP,STQ,seval]; done) | omega | (simp only [ByteArray.size_append,bsz,List.size_toArray,List.length_cons,List.length_nil]; omega)) only [↓STP,STQ,seval,addS,Exp.v_mk,Exp.v_clen,Exp.v_tk,Exp.v_ag,Exp.v_out,ir109]
    refine Zl7 (one a (by simp) (by omega)) (by omega) fun s1 h1=>?_
    simp -dsimp -implicitDefEqProofs (disch:=first | (simp -dsimp only [↓STP,STQ,seval]; done) | omega | (simp only [ByteArray.size_append,bsz,List.size_toArray,List.length_cons,List.length_nil]; omega)) only [↓STP,STQ,seval,addS]
    exact hK _ (by simp only [ByteArray.size_append,bsz,List.size_toArray,List.length_cons,List.length_nil]; omega)
  by_cases c6:k=6
  ·subst c6
   obtain ⟨a,b,c,rfl⟩:=len3 (show ks.length=3 by have:Zb3 _=(ks.length:Int):=v2; simp [Zb3] at this; omega)
   ·skip
    have ht:Zdk 6 o n s ([a,b,c].map tl)=held (tl a) 2 + 3 + tlen b + 3 + tlen c:=by simp [Zdk,nth,tl]
    rw [ht] at hl hK
    have hh:tlen a ≤ held (tl a) 2:=by unfold held; split <;> simp only [tl] <;> omega
    simp -dsimp -implicitDefEqProofs (disch:=first | (simp -dsimp only [↓STP,STQ,seval]; done) | omega | (simp only [ByteArray.size_append,bsz,List.size_toArray,List.length_cons,List.length_nil]; omega)) only [↓STP,STQ,seval,addS,Exp.v_mk,Exp.v_clen,Exp.v_tk,Exp.v_ag,Exp.v_out,ir109]
    refine Zl7 (one a (by simp) (by omega)) (by omega) fun s1 h1=>?_
    simp -dsimp -implicitDefEqProofs (disch:=first | (simp -dsimp only [↓STP,STQ,seval]; done) | omega | (simp only [ByteArray.size_append,bsz,List.size_toArray,List.length_cons,List.length_nil]; omega)) only [↓STP,STQ,seval,addS,Exp.v_clen,Exp.v_tk,Exp.v_ag,Exp.v_out]
    refine one b (by simp) (by omega) _ _ fun s2 h2=>?_
    simp -dsimp -implicitDefEqProofs (disch:=first | (simp -dsimp only [↓STP,STQ,seval]; done) | omega | (simp only [ByteArray.size_append,bsz,List.size_toArray,List.length_cons,List.length_nil]; omega)) only [↓STP,STQ,seval,addS,Exp.v_clen,Exp.v_tk,Exp.v_ag,Exp.v_out]
    refine one c (by simp) (by omega) _ _ fun s3 h3=>?_
    simp -dsimp -implicitDefEqProofs (disch:=first | (simp -dsimp only [↓STP,STQ,seval]; done) | omega | (simp only [ByteArray.size_append,bsz,List.size_toArray,List.length_cons,List.length_nil]; omega)) only [↓STP,STQ,seval,addS]
    exact hK _ (by simp only [ByteArray.size_append,bsz,List.size_toArray,List.length_cons,List.length_nil]; omega)
  ·have c4:k=4:=by have:=Zpg v2; omega
   subst c4
   obtain ⟨o1,o2⟩:=v5 rfl
   obtain ⟨a,b,rfl⟩:=len2 (show ks.length=2 by have:Zb3 _=(ks.length:Int):=v2; simp [Zb3] at this; omega)
   ·skip
    have ht:Zdk 4 o n s ([a,b].map tl)=held (tl a) (Zcd 4 o) + 1 + (if o=5 then 2 else 1) + 1 + held (tl b) (Zcd 4 o + 1):=by simp [Zdk,nth]
    rw [ht] at hl hK
    have hha:tlen a ≤ held (tl a) (Zcd 4 o):=by unfold held; split <;> simp only [tl] <;> omega
    have hhb:tlen b ≤ held (tl b) (Zcd 4 o + 1):=by unfold held; split <;> simp only [tl] <;> omega
    have hp:2 ≤ Zcd 4 o∧Zcd 4 o ≤ 7:=by
     have:Zcd 4 o=(if o=7 then 2 else if o=6 then 3 else if o=5 then 4 else if o=4 then 5 else if o=3 then 7 else 6):=by simp [Zcd]
     rw [this]
     repeat' split
     all_goals omega
    have wp:IntKind.i64.wrap (Zcd 4 o + 1)=Zcd 4 o + 1:=by rw [wrap_i64] <;> omega
    have hpe:Zcd (Exp.mk 4 o n s [a,b]).kind (Exp.mk 4 o n s [a,b]).op=Zcd 4 o:=rfl
    simp -dsimp -implicitDefEqProofs (disch:=first | (simp -dsimp only [↓STP,STQ,seval]; done) | omega | (simp only [ByteArray.size_append,bsz,List.size_toArray,List.length_cons,List.length_nil]; omega)) only [↓STP,STQ,seval,addS,Exp.v_mk,ir109]
    refine Zu8 (e:=.mk 4 o n s [a,b]) ?_
    rw [hpe]
    simp -dsimp -implicitDefEqProofs (disch:=first | (simp -dsimp only [↓STP,STQ,seval]; done) | omega | (simp only [ByteArray.size_append,bsz,List.size_toArray,List.length_cons,List.length_nil]; omega)) only [↓STP,STQ,seval,addS,Exp.v_clen,Exp.v_tk,Exp.v_ag,Exp.v_out,wp]
    refine Zl7 (one a (by simp) (by omega)) (by omega) fun s1 h1=>?_
    simp -dsimp -implicitDefEqProofs (disch:=first | (simp -dsimp only [↓STP,STQ,seval]; done) | omega | (simp only [ByteArray.size_append,bsz,List.size_toArray,List.length_cons,List.length_nil]; omega)) only [↓STP,STQ,seval,addS,Exp.v_clen,Exp.v_tk,Exp.v_ag,Exp.v_out,eq_self]
    refine sign27 o1 o2 fun s2 h2=>?_
    simp -dsimp -implicitDefEqProofs (disch:=first | (simp -dsimp only [↓STP,STQ,seval]; done) | omega | (simp only [ByteArray.size_append,bsz,List.size_toArray,List.length_cons,List.length_nil]; omega)) only [↓STP,STQ,seval,addS,Exp.v_clen,Exp.v_tk,Exp.v_ag,Exp.v_out,eq_self]
    refine Zl7 (one b (by simp) (by omega)) (by omega) fun s3 h3=>?_
    simp -dsimp -implicitDefEqProofs (disch:=first | (simp -dsimp only [↓STP,STQ,seval]; done) | omega | (simp only [ByteArray.size_append,bsz,List.size_toArray,List.length_cons,List.length_nil]; omega)) only [↓STP,STQ,seval,addS]
    exact hK _ (by simp only [ByteArray.size_append,bsz,List.size_toArray,List.length_cons,List.length_nil]; omega)
end
end YtihjhelbdbeokaaGreatDoor
end Go.Ab
namespace Go.Ab
def at0 (l:List Nat) (i:Nat):Nat:=l.getD i 0
def Zdo (k:Int) (s:ByteArray) (es:List Nat) (ta tb nb ind:Nat):Nat:=
 if k=1 then ind + s.size + 3 + at0 es 0 + 2
 else if k=2 then ind + s.size + 1 + at0 es 0 + 4 + at0 es 1 + 2
 else if k=5 then ind + 4 + at0 es 0 + 2
 else if k=3 then ind + 4 + at0 es 0 + 4 + ta + (if nb=0 then 0 else ind + 9 + tb) + ind + 2
 else ind + 4 + s.size + 3 + at0 es 0 + 4 + at0 es 1 + 3 + ta + ind + 2
mutual
def llen:Stm→Nat→Nat
 | .mk k s e a b,ind=>Zdo k s (e.map tlen) (Zbe a (ind + 2)) (Zbe b (ind + 2)) b.length ind
def Zbe:List Stm→Nat→Nat
 | [],_=>0
 | x :: xs,ind=>llen x ind + Zbe xs ind
end
theorem Ze8:∀ (a b:List Stm) (ind:Nat),Zbe (a ++ b) ind=Zbe a ind + Zbe b ind
 | [],b,ind=>by rw [List.nil_append,Zbe,Nat.zero_add]
 | x :: a,b,ind=>by rw [List.cons_append,Zbe,Zbe,Ze8 a b,Nat.add_assoc]
theorem Zlb {l:List Stm} {i ind:Nat} (hi:i < l.length):Zbe (l.take (i + 1)) ind=Zbe (l.take i) ind + llen l[i] ind:=by
 rw [List.take_add_one,List.getElem?_eq_getElem hi,Ze8]
 simp [Zbe]
theorem llens_le {l:List Stm} {i ind:Nat} (hi:i < l.length):Zbe (l.take i) ind + llen l[i] ind ≤ Zbe l ind:=by
 have:Zbe l ind=Zbe (l.take (i + 1)) ind + Zbe (l.drop (i + 1)) ind:=by rw [← Ze8,List.take_append_drop]
 rw [this,Zlb hi]; omega
theorem ind2 {b:ByteArray}:(b ++ (⟨#[32,32]⟩:ByteArray)).size=b.size + 2:=by
 rw [ByteArray.size_append]; rfl
namespace YtihjhelbdbeokaaGreatDoor
section
variable {h:H} {K:Out→H→Prop}
def Zfn (l:List Stm):Prop:=∀ (lv:Nat) (ind:ByteArray) (h:H) (K:Out→H→Prop),VSs l lv→(∀ x ∈ l,SOk x)→l.length ≤ maxLen→ind.size ≤ 1000000000→Zbe l ind.size ≤ 1000000000→(∀ s:ByteArray,s.size=Zbe l ind.size→K (.ret (.str s)) h)→R 83 [.vec (l.map Stm.v) .any,.str ind] h K
theorem Zh1 (l:List Stm) (ih:∀ x ∈ l,Zfn x.thn∧Zfn x.els):Zfn l:=by
 intro lv ind h K hv ok hl hind hll hK
 have hm:=Za4
 refine run83 (Nat.le_of_ble_eq_true rfl) ?_
 simp -dsimp -implicitDefEqProofs only [↓STP,STQ,seval,ir83]
 refine Zai (fun k st=>∃ (i:Nat) (s:ByteArray),k=l.length - i∧i ≤ l.length∧s.size=Zbe (l.take i) ind.size∧st=⟨upd (upd (upd (upd ρ0 0 (.vec (l.map Stm.v) .any)) 1 (.str ind)) 5 (.str s)) 6 (I i),m0,0,[],h⟩) (i:=l.length) ⟨0,⟨#[]⟩,rfl,by omega,rfl,by simp -dsimp -implicitDefEqProofs only [↓STP,STQ,seval] <;> rfl⟩ ?_ mono
 rintro k st ⟨i,out,rfl,hi,hout,rfl⟩
 by_cases hlt:i < l.length
 rotate_left
 ·have:i=l.length:=by omega
  subst this
  rw [List.take_length] at hout
  simp -dsimp -implicitDefEqProofs only [↓STP,STQ,seval,List.length_map,Int.lt_irrefl]
  exact hK out hout
 have hget:=Za5 (f:=Stm.v) hlt
 have hx:=VSs_all.1 hv _ (List.getElem_mem hlt)
 have okx:=ok _ (List.getElem_mem hlt)
 have hle:=llens_le (ind:=ind.size) hlt
 have htk:=Zlb (ind:=ind.size) hlt
 have ihx:=ih _ (List.getElem_mem hlt)
 have w1:=wiM (show i < 9223372036854775807 by omega)
 generalize l[i]=x at *
 obtain ⟨k,s,e,a,b⟩:=x
 obtain ⟨v1,v2,v3,v4,v5,v6,v7,v8,v9,v10,v11⟩:=VS_mk.1 hx
 obtain ⟨_,hs,_,hla,hlb,oke,oka,okb⟩:=Ziq okx
 have hll2:llen (.mk k s e a b) ind.size=Zdo k s (e.map tlen) (Zbe a (ind.size + 2)) (Zbe b (ind.size + 2)) b.length ind.size:=by rw [llen]
 rw [hll2] at hle htk
 have text:∀ x ∈ e,tlen x ≤ 1000000000→Zrx x:=fun x hx hl=>text27 x (lv + 1) (v9 x hx) (oke x hx) hl
 have hA:Zfn a:=ihx.1
 have hB:Zfn b:=ihx.2
 have indS:∀ {q:ByteArray},q.size=ind.size + 2→q.size ≤ 1000000002:=fun h=>by omega
 have fin:∀ (t:ByteArray),t.size=Zbe (l.take (i + 1)) ind.size→(∃ j,j < l.length - i∧∃ (i':Nat) (s:ByteArray),j=l.length - i'∧i' ≤ l.length∧s.size=Zbe (l.take i') ind.size∧(⟨upd (upd (upd (upd ρ0 0 (.vec (l.map Stm.v) .any)) 1 (.str ind)) 5 (.str t)) 6 (I ((i + 1:Nat):Int)),m0,0,[],h⟩:S)=⟨upd (upd (upd (upd ρ0 0 (.vec (l.map Stm.v) .any)) 1 (.str ind)) 5 (.str s)) 6 (I i'),m0,0,[],h⟩):=
  fun t ht=>⟨l.length - (i + 1),by omega,i + 1,t,rfl,by omega,ht,rfl⟩
 have kk:k=1∨k=2∨k=3∨k=4∨k=5:=by omega
 rcases kk with rfl | rfl | rfl | rfl | rfl
 ·obtain ⟨e0,rfl⟩:=len1 (show e.length=1 by simpa using v4)
  have ht:Zdo 1 s ([e0].map tlen) (Zbe a (ind.size + 2)) (Zbe b (ind.size + 2)) b.length ind.size=ind.size + s.size + 3 + tlen e0 + 2:=by simp [Zdo,at0]
  rw [ht] at hle htk
  have hsz:s.size ≤ 20:=(v5 (by decide)).2.1
  simp -dsimp -implicitDefEqProofs (disch:=first | (simp -dsimp only [↓STP,STQ,seval]; done) | omega | (simp only [ByteArray.size_append,bsz,List.size_toArray,List.length_cons,List.length_nil]; omega)) only [↓STP,STQ,seval,addS,List.length_map,Int.ofNat_lt,hlt,hget,Stm.v_mk,Zad,Exp.v_clen,Exp.v_tk,Exp.v_ag,Exp.v_out,eq_self]
  refine text e0 (by simp) (by omega) _ _ fun s1 h1=>?_
  simp -dsimp -implicitDefEqProofs (disch:=first | (simp -dsimp only [↓STP,STQ,seval]; done) | omega | (simp only [ByteArray.size_append,bsz,List.size_toArray,List.length_cons,List.length_nil]; omega)) only [↓STP,STQ,seval,addS,eq_self,w1]
  refine fin _ ?_
  simp only [ByteArray.size_append,bsz,List.size_toArray,List.length_cons,List.length_nil]; omega
 ·obtain ⟨e0,e1,rfl⟩:=len2 (show e.length=2 by simpa using v4)
  have ht:Zdo 2 s ([e0,e1].map tlen) (Zbe a (ind.size + 2)) (Zbe b (ind.size + 2)) b.length ind.size=ind.size + s.size + 1 + tlen e0 + 4 + tlen e1 + 2:=by simp [Zdo,at0]
  rw [ht] at hle htk
  have hsz:s.size ≤ 20:=(v5 (by decide)).2.1
  simp -dsimp -implicitDefEqProofs (disch:=first | (simp -dsimp only [↓STP,STQ,seval]; done) | omega | (simp only [ByteArray.size_append,bsz,List.size_toArray,List.length_cons,List.length_nil]; omega)) only [↓STP,STQ,seval,addS,List.length_map,Int.ofNat_lt,hlt,hget,Stm.v_mk,Zad,Exp.v_clen,Exp.v_tk,Exp.v_ag,Exp.v_out,eq_self]
  refine text e0 (by simp) (by omega) _ _ fun s1 h1=>?_
  simp -dsimp -implicitDefEqProofs (disch:=first | (simp -dsimp only [↓STP,STQ,seval]; done) | omega | (simp only [ByteArray.size_append,bsz,List.size_toArray,List.length_cons,List.length_nil]; omega)) only [↓STP,STQ,seval,addS,Exp.v_clen,Exp.v_tk,Exp.v_ag,Exp.v_out,eq_self]
  refine text e1 (by simp) (by omega) _ _ fun s2 h2=>?_
  simp -dsimp -implicitDefEqProofs (disch:=first | (simp -dsimp only [↓STP,STQ,seval]; done) | omega | (simp only [ByteArray.size_append,bsz,List.size_toArray,List.length_cons,List.length_nil]; omega)) only [↓STP,STQ,seval,addS,eq_self,w1]
  refine fin _ ?_
  simp only [ByteArray.size_append,bsz,List.size_toArray,List.length_cons,List.length_nil]; omega
 ·obtain ⟨e0,rfl⟩:=len1 (show e.length=1 by simpa using v4)
  have ht:Zdo 3 s ([e0].map tlen) (Zbe a (ind.size + 2)) (Zbe b (ind.size + 2)) b.length ind.size=ind.size + 4 + tlen e0 + 4 + Zbe a (ind.size + 2) + (if b.length=0 then 0 else ind.size + 9 + Zbe b (ind.size + 2)) + ind.size + 2:=by simp [Zdo,at0]
  rw [ht] at hle htk
  by_cases hb:(0:Int) < (b.length:Int)
  ·rw [if_neg (show ¬ b.length=0 by omega)] at hle htk
   simp -dsimp -implicitDefEqProofs (disch:=first | (simp -dsimp only [↓STP,STQ,seval]; done) | omega | (simp only [ByteArray.size_append,bsz,List.size_toArray,List.length_cons,List.length_nil]; omega)) only [↓STP,STQ,seval,addS,List.length_map,Int.ofNat_lt,hlt,hget,Stm.v_mk,Zad,Exp.v_clen,Exp.v_tk,Exp.v_ag,Exp.v_out,eq_self]
   refine text e0 (by simp) (by omega) _ _ fun s1 h1=>?_
   simp -dsimp -implicitDefEqProofs (disch:=first | (simp -dsimp only [↓STP,STQ,seval]; done) | omega | (simp only [ByteArray.size_append,bsz,List.size_toArray,List.length_cons,List.length_nil]; omega)) only [↓STP,STQ,seval,addS,eq_self]
   refine hA (lv + 1) _ _ _ v10 oka hla (by rw [ind2]; omega) (by rw [ind2]; omega) fun s2 h2=>?_
   have h2':s2.size=Zbe a (ind.size + 2):=by rw [h2,ind2]
   simp -dsimp -implicitDefEqProofs (disch:=first | (simp -dsimp only [↓STP,STQ,seval]; done) | omega | (simp only [ByteArray.size_append,bsz,List.size_toArray,List.length_cons,List.length_nil]; omega)) only [↓STP,STQ,seval,addS,List.length_map,eq_true hb]
   refine hB (lv + 1) _ _ _ v11 okb hlb (by rw [ind2]; omega) (by rw [ind2]; omega) fun s3 h3=>?_
   have h3':s3.size=Zbe b (ind.size + 2):=by rw [h3,ind2]
   simp -dsimp -implicitDefEqProofs (disch:=first | (simp -dsimp only [↓STP,STQ,seval]; done) | omega | (simp only [ByteArray.size_append,bsz,List.size_toArray,List.length_cons,List.length_nil]; omega)) only [↓STP,STQ,seval,addS,eq_self,w1]
   refine fin _ ?_
   simp only [ByteArray.size_append,bsz,List.size_toArray,List.length_cons,List.length_nil]; omega
  ·rw [if_pos (show b.length=0 by omega)] at hle htk
   simp -dsimp -implicitDefEqProofs (disch:=first | (simp -dsimp only [↓STP,STQ,seval]; done) | omega | (simp only [ByteArray.size_append,bsz,List.size_toArray,List.length_cons,List.length_nil]; omega)) only [↓STP,STQ,seval,addS,List.length_map,Int.ofNat_lt,hlt,hget,Stm.v_mk,Zad,Exp.v_clen,Exp.v_tk,Exp.v_ag,Exp.v_out,eq_self]
   refine text e0 (by simp) (by omega) _ _ fun s1 h1=>?_
   simp -dsimp -implicitDefEqProofs (disch:=first | (simp -dsimp only [↓STP,STQ,seval]; done) | omega | (simp only [ByteArray.size_append,bsz,List.size_toArray,List.length_cons,List.length_nil]; omega)) only [↓STP,STQ,seval,addS,eq_self]
   refine hA (lv + 1) _ _ _ v10 oka hla (by rw [ind2]; omega) (by rw [ind2]; omega) fun s2 h2=>?_
   have h2':s2.size=Zbe a (ind.size + 2):=by rw [h2,ind2]
   simp -dsimp -implicitDefEqProofs (disch:=first | (simp -dsimp only [↓STP,STQ,seval]; done) | omega | (simp only [ByteArray.size_append,bsz,List.size_toArray,List.length_cons,List.length_nil]; omega)) only [↓STP,STQ,seval,addS,List.length_map,eq_false hb,w1]
   refine fin _ ?_
   simp only [ByteArray.size_append,bsz,List.size_toArray,List.length_cons,List.length_nil]; omega
 ·obtain ⟨e0,e1,rfl⟩:=len2 (show e.length=2 by simpa using v4)
  have ht:Zdo 4 s ([e0,e1].map tlen) (Zbe a (ind.size + 2)) (Zbe b (ind.size + 2)) b.length ind.size=ind.size + 4 + s.size + 3 + tlen e0 + 4 + tlen e1 + 3 + Zbe a (ind.size + 2) + ind.size + 2:=by simp [Zdo,at0]
  rw [ht] at hle htk
  have hsz:s.size ≤ 20:=(v5 (by decide)).2.1
  simp -dsimp -implicitDefEqProofs (disch:=first | (simp -dsimp only [↓STP,STQ,seval]; done) | omega | (simp only [ByteArray.size_append,bsz,List.size_toArray,List.length_cons,List.length_nil]; omega)) only [↓STP,STQ,seval,addS,List.length_map,Int.ofNat_lt,hlt,hget,Stm.v_mk,Zad,Exp.v_clen,Exp.v_tk,Exp.v_ag,Exp.v_out,eq_self]
  refine text e0 (by simp) (by omega) _ _ fun s1 h1=>?_
  simp -dsimp -implicitDefEqProofs (disch:=first | (simp -dsimp only [↓STP,STQ,seval]; done) | omega | (simp only [ByteArray.size_append,bsz,List.size_toArray,List.length_cons,List.length_nil]; omega)) only [↓STP,STQ,seval,addS,Exp.v_clen,Exp.v_tk,Exp.v_ag,Exp.v_out,eq_self]
  refine text e1 (by simp) (by omega) _ _ fun s2 h2=>?_
  simp -dsimp -implicitDefEqProofs (disch:=first | (simp -dsimp only [↓STP,STQ,seval]; done) | omega | (simp only [ByteArray.size_append,bsz,List.size_toArray,List.length_cons,List.length_nil]; omega)) only [↓STP,STQ,seval,addS,eq_self]
  refine hA (lv + 1) _ _ _ v10 oka hla (by rw [ind2]; omega) (by rw [ind2]; omega) fun s3 h3=>?_
  have h3':s3.size=Zbe a (ind.size + 2):=by rw [h3,ind2]
  simp -dsimp -implicitDefEqProofs (disch:=first | (simp -dsimp only [↓STP,STQ,seval]; done) | omega | (simp only [ByteArray.size_append,bsz,List.size_toArray,List.length_cons,List.length_nil]; omega)) only [↓STP,STQ,seval,addS,eq_self,w1]
  refine fin _ ?_
  simp only [ByteArray.size_append,bsz,List.size_toArray,List.length_cons,List.length_nil]; omega
 ·obtain ⟨e0,rfl⟩:=len1 (show e.length=1 by simpa using v4)
  have ht:Zdo 5 s ([e0].map tlen) (Zbe a (ind.size + 2)) (Zbe b (ind.size + 2)) b.length ind.size=ind.size + 4 + tlen e0 + 2:=by simp [Zdo,at0]
  rw [ht] at hle htk
  skip
  simp -dsimp -implicitDefEqProofs (disch:=first | (simp -dsimp only [↓STP,STQ,seval]; done) | omega | (simp only [ByteArray.size_append,bsz,List.size_toArray,List.length_cons,List.length_nil]; omega)) only [↓STP,STQ,seval,addS,List.length_map,Int.ofNat_lt,hlt,hget,Stm.v_mk,Zad,Exp.v_clen,Exp.v_tk,Exp.v_ag,Exp.v_out,eq_self]
  refine text e0 (by simp) (by omega) _ _ fun s1 h1=>?_
  simp -dsimp -implicitDefEqProofs (disch:=first | (simp -dsimp only [↓STP,STQ,seval]; done) | omega | (simp only [ByteArray.size_append,bsz,List.size_toArray,List.length_cons,List.length_nil]; omega)) only [↓STP,STQ,seval,addS,eq_self,w1]
  refine fin _ ?_
  simp only [ByteArray.size_append,bsz,List.size_toArray,List.length_cons,List.length_nil]; omega
theorem linesOk (x:Stm):Zfn x.thn∧Zfn x.els:=by
 induction x using Stm.ind with
 | h k s e a b iha ihb=>exact ⟨Zh1 a iha,Zh1 b ihb⟩
theorem lines27 (l:List Stm):Zfn l:=Zh1 l fun x _=>linesOk x
end
end YtihjhelbdbeokaaGreatDoor
end Go.Ab
namespace Go.Ab
structure VIn (x:InD):Prop where
 name:Zgg x.name
 f1:1 ≤ x.frm
 f2:x.frm ≤ 13
 w1:1 ≤ x.width
 w2:x.width ≤ 16
 s1:0 ≤ x.size
 s2:x.size ≤ 64
structure VAr (x:ArD):Prop where
 name:Zgg x.name
 s1:1 ≤ x.size
 s2:x.size ≤ 64
def ilen (x:InD):Nat:=3 + x.name.size + (if x.size=0 then 0 else 2 + dlen x.size.toNat) + 6 + dlen x.frm.toNat + 2 + dlen x.width.toNat + 2
def alen (x:ArD):Nat:=6 + x.name.size + 1 + dlen x.size.toNat + 3
def sumL {α:Type} (f:α→Nat):List α→Nat
 | []=>0
 | x :: xs=>f x + sumL f xs
theorem Zgm {α:Type} (f:α→Nat):∀ a b:List α,sumL f (a ++ b)=sumL f a + sumL f b
 | [],b=>by rw [List.nil_append,sumL,Nat.zero_add]
 | x :: a,b=>by rw [List.cons_append,sumL,sumL,Zgm f a,Nat.add_assoc]
theorem Zja {α:Type} {f:α→Nat} {l:List α} {i:Nat} (hi:i < l.length):sumL f (l.take (i + 1))=sumL f (l.take i) + f l[i]:=by
 rw [List.take_add_one,List.getElem?_eq_getElem hi,Zgm]; simp [sumL]
theorem Zul {α:Type} {f:α→Nat} {l:List α} {i:Nat} (hi:i < l.length):sumL f (l.take i) + f l[i] ≤ sumL f l:=by
 have:sumL f l=sumL f (l.take (i + 1)) + sumL f (l.drop (i + 1)):=by rw [← Zgm,List.take_append_drop]
 rw [this,Zja hi]; omega
def flen (p:Prg):Nat:=sumL ilen p.ins + sumL alen p.arrays + Zbe p.body 0
structure VP (p:Prg):Prop where
 ins:∀ x ∈ p.ins,VIn x
 arrays:∀ x ∈ p.arrays,VAr x
 body:VSs p.body 1
 len:flen p ≤ 20000
namespace YtihjhelbdbeokaaGreatDoor
section
variable {h:H} {K:Out→H→Prop}
theorem Zsx {n:Nat} (hn:n < 9223372036854775808) (hK:∀ s:ByteArray,s.size=dlen n→K (.ret (.str s)) h):R 82 [I n] h K:=by
 refine run82 (Nat.le_of_ble_eq_true rfl) ?_
 have w:IntKind.u64.wrap (n:Int)=(n:Int):=by rw [Zay] <;> omega
 simp -dsimp -implicitDefEqProofs only [↓STP,STQ,seval,ir82,w]
 refine dec27 (by omega) fun s hs=>?_
 simp -dsimp -implicitDefEqProofs only [↓STP,STQ,seval]
 exact hK s hs
def Zbh (p:Prg):List V:=[.vec (p.ins.map InD.v) .any,.vec (p.arrays.map ArD.v) .any,.vec (p.body.map Stm.v) .any]
theorem format27 {p:Prg} (ok:POk p) (hi:∀ x ∈ p.ins,VIn x) (ha:∀ x ∈ p.arrays,VAr x) (hv:VSs p.body 1) (hl:flen p ≤ 1000000000) (hK:∀ s:ByteArray,s.size=flen p→K (.ret (.str s)) h):R 47 [p.v] h K:=by
 have hm:=Za4
 have hli:=ok.li
 have hla:=ok.la
 refine run47 (Nat.le_of_ble_eq_true rfl) ?_
 unfold flen at hl hK
 simp -dsimp -implicitDefEqProofs only [↓STP,STQ,seval,Prg.v,Prg.cells,ir47]
 refine Zai (fun k st=>∃ (i:Nat) (s:ByteArray),k=p.ins.length - i∧i ≤ p.ins.length∧s.size=sumL ilen (p.ins.take i)∧st=⟨upd (upd (upd ρ0 1 (.lptr 0 3 0)) 3 (.str s)) 4 (I i),upd m0 0 (some (Zbh p)),1,[],h⟩) (i:=p.ins.length) ⟨0,⟨#[]⟩,rfl,by omega,rfl,by simp -dsimp -implicitDefEqProofs only [↓STP,STQ,seval,Zbh] <;> rfl⟩ ?_ mono
 rintro k st ⟨i,out,rfl,hi',hout,rfl⟩
 by_cases hlt:i < p.ins.length
 ·have hget:=Za5 (f:=InD.v) hlt
  have hx:=hi _ (List.getElem_mem hlt)
  have hle:=Zul (f:=ilen) hlt
  have htk:=Zja (f:=ilen) hlt
  have w1:=wiM (show i < 9223372036854775807 by omega)
  generalize p.ins[i]=x at *
  obtain ⟨s,f,w,z⟩:=x
  obtain ⟨x1,x2,x3,x4,x5,x6,x7⟩:=hx
  have hsz:s.size ≤ 20:=x1.2.1
  simp only at x2 x3 x4 x5 x6 x7
  obtain ⟨f,rfl⟩:∃ n:Nat,f=n:=⟨f.toNat,by omega⟩
  obtain ⟨w,rfl⟩:∃ n:Nat,w=n:=⟨w.toNat,by omega⟩
  obtain ⟨z,rfl⟩:∃ n:Nat,z=n:=⟨z.toNat,by omega⟩
  have d1:=Zcy (show f < 18446744073709551616 by omega)
  have d2:=Zcy (show w < 18446744073709551616 by omega)
  have d3:=Zcy (show z < 18446744073709551616 by omega)
  by_cases cz:(z:Int)=0
  ·have ht:ilen ⟨s,f,w,z⟩=3 + s.size + 0 + 6 + dlen f + 2 + dlen w + 2:=by simp [ilen,cz]
   rw [ht] at hle htk
   simp -dsimp -implicitDefEqProofs (disch:=first | (simp -dsimp only [↓STP,STQ,seval]; done) | omega | (simp only [ByteArray.size_append,bsz,List.size_toArray,List.length_cons,List.length_nil]; omega)) only [↓STP,STQ,seval,addS,Zbh,List.length_map,Int.ofNat_lt,hlt,hget,InD.v,InD.cells,Zad,eq_self,eq_true cz]
   refine Zsx (by omega) fun s1 h1=>?_
   simp -dsimp -implicitDefEqProofs (disch:=first | (simp -dsimp only [↓STP,STQ,seval]; done) | omega | (simp only [ByteArray.size_append,bsz,List.size_toArray,List.length_cons,List.length_nil]; omega)) only [↓STP,STQ,seval,addS,eq_self,Zad]
   refine Zsx (by omega) fun s2 h2=>?_
   simp -dsimp -implicitDefEqProofs (disch:=first | (simp -dsimp only [↓STP,STQ,seval]; done) | omega | (simp only [ByteArray.size_append,bsz,List.size_toArray,List.length_cons,List.length_nil]; omega)) only [↓STP,STQ,seval,addS,eq_self,w1]
   refine ⟨p.ins.length - (i + 1),by omega,i + 1,_,rfl,by omega,?_,rfl⟩
   simp only [ByteArray.size_append,bsz,List.size_toArray,List.length_cons,List.length_nil]; omega
  ·have ht:ilen ⟨s,f,w,z⟩=3 + s.size + (2 + dlen z) + 6 + dlen f + 2 + dlen w + 2:=by
    have:¬ z=0:=by omega
    simp [ilen,this]
   rw [ht] at hle htk
   simp -dsimp -implicitDefEqProofs (disch:=first | (simp -dsimp only [↓STP,STQ,seval]; done) | omega | (simp only [ByteArray.size_append,bsz,List.size_toArray,List.length_cons,List.length_nil]; omega)) only [↓STP,STQ,seval,addS,Zbh,List.length_map,Int.ofNat_lt,hlt,hget,InD.v,InD.cells,Zad,eq_self,eq_false cz]
   refine Zsx (by omega) fun s0 h0=>?_
   simp -dsimp -implicitDefEqProofs (disch:=first | (simp -dsimp only [↓STP,STQ,seval]; done) | omega | (simp only [ByteArray.size_append,bsz,List.size_toArray,List.length_cons,List.length_nil]; omega)) only [↓STP,STQ,seval,addS,eq_self]
   refine Zsx (by omega) fun s1 h1=>?_
   simp -dsimp -implicitDefEqProofs (disch:=first | (simp -dsimp only [↓STP,STQ,seval]; done) | omega | (simp only [ByteArray.size_append,bsz,List.size_toArray,List.length_cons,List.length_nil]; omega)) only [↓STP,STQ,seval,addS,eq_self]
   refine Zsx (by omega) fun s2 h2=>?_
   simp -dsimp -implicitDefEqProofs (disch:=first | (simp -dsimp only [↓STP,STQ,seval]; done) | omega | (simp only [ByteArray.size_append,bsz,List.size_toArray,List.length_cons,List.length_nil]; omega)) only [↓STP,STQ,seval,addS,eq_self,w1]
   refine ⟨p.ins.length - (i + 1),by omega,i + 1,_,rfl,by omega,?_,rfl⟩
   simp only [ByteArray.size_append,bsz,List.size_toArray,List.length_cons,List.length_nil]; omega
 have hie:i=p.ins.length:=by omega
 subst hie
 rw [List.take_length] at hout
 simp -dsimp -implicitDefEqProofs only [↓STP,STQ,seval,Zbh,List.length_map,Int.lt_irrefl]
 refine Zai (fun k st=>∃ (i:Nat) (s:ByteArray),k=p.arrays.length - i∧i ≤ p.arrays.length∧s.size=sumL ilen p.ins + sumL alen (p.arrays.take i)∧st=⟨upd (upd (upd ρ0 1 (.lptr 0 3 0)) 3 (.str s)) 7 (I i),upd m0 0 (some (Zbh p)),1,[],h⟩) (i:=p.arrays.length) ⟨0,out,rfl,by omega,by rw [hout,List.take_zero]; rfl,by simp -dsimp -implicitDefEqProofs only [↓STP,STQ,seval,Zbh] <;> rfl⟩ ?_ mono
 rintro k st ⟨i,out,rfl,hi'',hout,rfl⟩
 by_cases hlt:i < p.arrays.length
 ·have hget:=Za5 (f:=ArD.v) hlt
  have hx:=ha _ (List.getElem_mem hlt)
  have hle:=Zul (f:=alen) hlt
  have htk:=Zja (f:=alen) hlt
  have w1:=wiM (show i < 9223372036854775807 by omega)
  generalize p.arrays[i]=x at *
  obtain ⟨s,z⟩:=x
  obtain ⟨x1,x6,x7⟩:=hx
  have hsz:s.size ≤ 20:=x1.2.1
  simp only at x6 x7
  obtain ⟨z,rfl⟩:∃ n:Nat,z=n:=⟨z.toNat,by omega⟩
  have d3:=Zcy (show z < 18446744073709551616 by omega)
  have ht:alen ⟨s,z⟩=6 + s.size + 1 + dlen z + 3:=by simp [alen]
  rw [ht] at hle htk
  simp -dsimp -implicitDefEqProofs (disch:=first | (simp -dsimp only [↓STP,STQ,seval]; done) | omega | (simp only [ByteArray.size_append,bsz,List.size_toArray,List.length_cons,List.length_nil]; omega)) only [↓STP,STQ,seval,addS,Zbh,List.length_map,Int.ofNat_lt,hlt,hget,ArD.v,ArD.cells,Zad,eq_self]
  refine Zsx (by omega) fun s1 h1=>?_
  simp -dsimp -implicitDefEqProofs (disch:=first | (simp -dsimp only [↓STP,STQ,seval]; done) | omega | (simp only [ByteArray.size_append,bsz,List.size_toArray,List.length_cons,List.length_nil]; omega)) only [↓STP,STQ,seval,addS,eq_self,w1]
  refine ⟨p.arrays.length - (i + 1),by omega,i + 1,_,rfl,by omega,?_,rfl⟩
  simp only [ByteArray.size_append,bsz,List.size_toArray,List.length_cons,List.length_nil]; omega
 have hie:i=p.arrays.length:=by omega
 subst hie
 rw [List.take_length] at hout
 simp -dsimp -implicitDefEqProofs only [↓STP,STQ,seval,Zbh,List.length_map,Int.lt_irrefl]
 refine lines27 p.body 1 _ _ _ hv ok.body ok.lb (by decide) (by show Zbe p.body 0 ≤ _; omega) fun s1 h1=>?_
 have h1':s1.size=Zbe p.body 0:=h1
 simp -dsimp -implicitDefEqProofs (disch:=first | (simp -dsimp only [↓STP,STQ,seval]; done) | omega | (simp only [ByteArray.size_append,bsz,List.size_toArray,List.length_cons,List.length_nil]; omega)) only [↓STP,STQ,seval,addS]
 refine hK _ ?_
 rw [ByteArray.size_append]; omega
theorem valid27 {p:Prg} (ok:POk p) (hfl:(∀ x ∈ p.ins,VIn x)→(∀ x ∈ p.arrays,VAr x)→VSs p.body 1→flen p ≤ 1000000000) (hK:∀ b:Bool,(b=true ↔ VP p)→K (.ret (.bool b)) h):R 25 [p.v] h K:=by
 have hm:=Za4
 have hli:=ok.li
 have hla:=ok.la
 have no:¬ VP p→K (.ret (.bool false)) h:=fun hn=>hK false (iff_of_false (by simp) hn)
 refine run25 (Nat.le_of_ble_eq_true rfl) ?_
 simp -dsimp -implicitDefEqProofs only [↓STP,STQ,seval,Prg.v,Prg.cells,ir25]
 refine Zao (N:=p.ins.length) (fun i=>⟨upd (upd ρ0 1 (.lptr 0 3 0)) 3 (I i),upd m0 0 (some (Zbh p)),1,[],h⟩) (fun i=>∀ x ∈ p.ins.take i,VIn x) (by simp -dsimp -implicitDefEqProofs only [↓STP,STQ,seval,Zbh] <;> rfl) (by simp) (fun i hlt hp=>?_) (fun hp=>?_) mono
 ·have hget:=Za5 (f:=InD.v) hlt
  have hx:=ok.ins _ (List.getElem_mem hlt)
  have w1:=wiM (show i < 9223372036854775807 by omega)
  have no2:¬ VIn p.ins[i]→K (.ret (.bool false)) h:=fun hn=>no fun hv=>hn (hv.ins _ (List.getElem_mem hlt))
  have yes:VIn p.ins[i]→∀ x ∈ p.ins.take (i + 1),VIn x:=fun hn x hx=>by
   rw [List.take_add_one,List.getElem?_eq_getElem hlt] at hx
   rcases List.mem_append.1 hx with hx | hx
   ·exact hp x hx
   ·simp at hx; subst hx; exact hn
  generalize p.ins[i]=x at *
  obtain ⟨s,f,w,z⟩:=x
  simp -dsimp -implicitDefEqProofs only [↓STP,STQ,seval,Zbh,List.length_map,Int.ofNat_lt,hlt,hget,InD.v,InD.cells,Zad]
  refine Zcf hx.n fun b hb=>?_
  cases b with
  | false =>
   simp -dsimp -implicitDefEqProofs only [↓STP,STQ,seval]
   exact no2 fun hv=>by have:=hb.2 hv.name; cases this
  | true =>
   by_cases c1:f < 1
   ·simp -dsimp -implicitDefEqProofs only [↓STP,STQ,seval,c1]
    exact no2 fun hv=>by have:=hv.f1; simp only at this; omega
   by_cases c2:13 < f
   ·simp -dsimp -implicitDefEqProofs only [↓STP,STQ,seval,c1,c2]
    exact no2 fun hv=>by have:=hv.f2; simp only at this; omega
   by_cases c3:w < 1
   ·simp -dsimp -implicitDefEqProofs only [↓STP,STQ,seval,c1,c2,c3]
    exact no2 fun hv=>by have:=hv.w1; simp only at this; omega
   by_cases c4:16 < w
   ·simp -dsimp -implicitDefEqProofs only [↓STP,STQ,seval,c1,c2,c3,c4]
    exact no2 fun hv=>by have:=hv.w2; simp only at this; omega
   by_cases c5:z < 0
   ·simp -dsimp -implicitDefEqProofs only [↓STP,STQ,seval,c1,c2,c3,c4,c5]
    exact no2 fun hv=>by have:=hv.s1; simp only at this; omega
   by_cases c6:64 < z
   ·simp -dsimp -implicitDefEqProofs only [↓STP,STQ,seval,c1,c2,c3,c4,c5,c6]
    exact no2 fun hv=>by have:=hv.s2; simp only at this; omega
   simp -dsimp -implicitDefEqProofs only [↓STP,STQ,seval,c1,c2,c3,c4,c5,c6,Zbh,w1]
   exact yes ⟨hb.1 rfl,by simp only; omega,by simp only; omega,by simp only; omega,by simp only; omega,by simp only; omega,by simp only; omega⟩
 rw [List.take_length] at hp
 simp -dsimp -implicitDefEqProofs only [↓STP,STQ,seval,Zbh,List.length_map,Int.lt_irrefl]
 refine Zao (N:=p.arrays.length) (fun i=>⟨upd (upd ρ0 1 (.lptr 0 3 0)) 5 (I i),upd m0 0 (some (Zbh p)),1,[],h⟩) (fun i=>∀ x ∈ p.arrays.take i,VAr x) (by simp -dsimp -implicitDefEqProofs only [↓STP,STQ,seval,Zbh] <;> rfl) (by simp) (fun i hlt hp2=>?_) (fun hp2=>?_) mono
 ·have hget:=Za5 (f:=ArD.v) hlt
  have hx:=ok.arrays _ (List.getElem_mem hlt)
  have w1:=wiM (show i < 9223372036854775807 by omega)
  have no2:¬ VAr p.arrays[i]→K (.ret (.bool false)) h:=fun hn=>no fun hv=>hn (hv.arrays _ (List.getElem_mem hlt))
  have yes:VAr p.arrays[i]→∀ x ∈ p.arrays.take (i + 1),VAr x:=fun hn x hx=>by
   rw [List.take_add_one,List.getElem?_eq_getElem hlt] at hx
   rcases List.mem_append.1 hx with hx | hx
   ·exact hp2 x hx
   ·simp at hx; subst hx; exact hn
  generalize p.arrays[i]=x at *
  obtain ⟨s,z⟩:=x
  simp -dsimp -implicitDefEqProofs only [↓STP,STQ,seval,Zbh,List.length_map,Int.ofNat_lt,hlt,hget,ArD.v,ArD.cells,Zad]
  refine Zcf hx.n fun b hb=>?_
  cases b with
  | false =>
   simp -dsimp -implicitDefEqProofs only [↓STP,STQ,seval]
   exact no2 fun hv=>by have:=hb.2 hv.name; cases this
  | true =>
   by_cases c5:z < 1
   ·simp -dsimp -implicitDefEqProofs only [↓STP,STQ,seval,c5]
    exact no2 fun hv=>by have:=hv.s1; simp only at this; omega
   by_cases c6:64 < z
   ·simp -dsimp -implicitDefEqProofs only [↓STP,STQ,seval,c5,c6]
    exact no2 fun hv=>by have:=hv.s2; simp only at this; omega
   simp -dsimp -implicitDefEqProofs only [↓STP,STQ,seval,c5,c6,Zbh,w1]
   exact yes ⟨hb.1 rfl,by simp only; omega,by simp only; omega⟩
 rw [List.take_length] at hp2
 simp -dsimp -implicitDefEqProofs only [↓STP,STQ,seval,Zbh,List.length_map,Int.lt_irrefl]
 refine stmts27 (lv:=1) ok.lb ok.body (by decide) fun b hb=>?_
 cases b with
 | false =>
  simp -dsimp -implicitDefEqProofs only [↓STP,STQ,seval]
  exact no fun hv=>by have:=hb.2 hv.body; cases this
 | true =>
  have hbody:=hb.1 rfl
  simp -dsimp -implicitDefEqProofs only [↓STP,STQ,seval]
  rw [show (V.agg [.vec (p.ins.map InD.v) .any,.vec (p.arrays.map ArD.v) .any,.vec (p.body.map Stm.v) .any])=p.v from rfl]
  refine format27 ok hp hp2 hbody (hfl hp hp2 hbody) fun s hs=>?_
  by_cases c:(s.size:Int) ≤ 20000
  ·simp -dsimp -implicitDefEqProofs only [↓STP,STQ,seval,eq_true c]
   exact hK true (iff_of_true rfl ⟨hp,hp2,hbody,by omega⟩)
  ·simp -dsimp -implicitDefEqProofs only [↓STP,STQ,seval,eq_false c]
   exact no fun hv=>by have:=hv.len; omega
end
end YtihjhelbdbeokaaGreatDoor
end Go.Ab
namespace Go.Ab
theorem endD_ret {F:IFn} {tw:TypeId} {h:H} {K:Out→H→Prop} {st:S}:endD F tw h K .ret st=Zbn (finish st F.results) (fun v=>K (.ret v) st.h) ⟨⟩:=rfl
theorem Zms {F:IFn} {tw:TypeId} {h h':H} {K:Out→H→Prop} {v:V}:endD F tw h K (.pan v) (.blank h')=∃ n x0 x1,v=.iface tw (.agg [.int .i64 n])∧h'.objs h.next=some (.cells [x0])∧h'.objs (h.next + 1)=some (.cells [x1]) ∧
   K (.ret (.tuple [.int .i64 0,.int .i64 n])) ((h'.set h.next (.cells [.int .i64 0])).set (h.next + 1) (.cells [.int .i64 n])):=rfl
structure Bse (h0 h:H):Prop where
 nx:h0.next + 2 ≤ h.next
 old:∀ j,j < h0.next→h.objs j=h0.objs j
 r0:h.objs h0.next=some (.cells [I 0])
 r1:h.objs (h0.next + 1)=some (.cells [I 0])
structure Bd (h0:H) (L:Lk) (insl:List (ByteArray × InD)) (arsl:List (ByteArray × Int)) (m:Nat) (h:H):Prop where
 x:h.objs L.x=some (.cells (L.cs ⟨⟨fun _=>none,[],[]⟩,0,m,0⟩))
 i:∃ ver,h.objs L.i=some (.map (mapO InD.v insl) ver)
 s:∃ ver,h.objs L.s=some (.map (mapO intU arsl) ver)
 v:∃ ver,h.objs L.v=some (.map (mapO vkV L.es) ver)
 w:∃ ver,h.objs L.w=some (.map (mapO refV L.ws) ver)
 l:∃ ver,h.objs L.l=some (.map (mapO conV []) ver)
 es:L.es=[]
 ws:∀ r ∈ L.ws,h.objs r.2.1=some (.cells (Zar (List.replicate r.2.2 1)))
 nd:L.own.Nodup
 lt:∀ id ∈ L.own,h0.next + 2 ≤ id∧id < h.next
 bs:Bse h0 h
theorem Bse.fin {h0 h:H} {n:Int} (b:Bse h0 h):((h.set h0.next (.cells [.int .i64 0])).set (h0.next + 1) (.cells [.int .i64 n])).next=h.next∧∀ j,j < h0.next→((h.set h0.next (.cells [.int .i64 0])).set (h0.next + 1) (.cells [.int .i64 n])).objs j=h0.objs j:=
 ⟨rfl,fun j hj=>by rw [Zac,if_neg (by omega),Zac,if_neg (by omega)]; exact b.old j hj⟩
theorem Bse.mono {h0 h h':H} (b:Bse h0 h) (hn:h.next ≤ h'.next) (e:∀ j,j < h0.next + 2→h'.objs j=h.objs j):Bse h0 h':=
 ⟨Nat.le_trans b.nx hn,fun j hj=>by rw [e j (by omega)]; exact b.old j hj,by rw [e _ (by omega)]; exact b.r0,by rw [e _ (by omega)]; exact b.r1⟩
theorem Zgr {d:InD}:∀ {l:List InD},maxI (l ++ [d])=max (maxI l) d.width.toNat
 | []=>by simp [maxI]
 | x :: xs=>by simp only [List.cons_append,maxI,Zgr (l:=xs),Nat.max_assoc]
def insM (l:List InD):List (ByteArray × InD):=l.map fun d=>(d.name,d)
def arsM (l:List ArD):List (ByteArray × Int):=l.map fun d=>(d.name,d.size)
theorem Zhh {l:List InD}:(insM l).map (·.1)=l.map InD.name:=by simp [insM,List.map_map,Function.comp_def]
theorem Zkc {l:List ArD}:(arsM l).map (·.1)=l.map ArD.name:=by simp [arsM,List.map_map,Function.comp_def]
theorem isSome_false {α:Type} {s:ByteArray} {l:List (ByteArray × α)}:(Zaj s l).isSome=false ↔ s ∉ l.map (·.1):=by
 rw [← findL_none]
 cases Zaj s l <;> simp
theorem isSome_true {α:Type} {s:ByteArray} {l:List (ByteArray × α)}:(Zaj s l).isSome=true ↔ s ∈ l.map (·.1):=by
 constructor
 ·intro h
  cases hf:Zaj s l with
  | none=>rw [hf] at h; cases h
  | some v=>exact List.mem_map.2 ⟨_,Zbr hf,rfl⟩
 ·intro h
  cases hf:(Zaj s l).isSome with
  | true=>rfl
  | false=>exact absurd h (isSome_false.1 hf)
theorem Zie {p:Prg} (h:¬ (p.ins.map InD.name ++ p.arrays.map ArD.name).Nodup):Zbl p=.error 4:=by
 unfold Zbl Zgl
 rw [decide_eq_false h]; rfl
theorem Zqn {α:Type} {l:List α} {r:List ByteArray} {f:α→ByteArray} {j:Nat} (hj:j < l.length) (h:f l[j] ∈ (l.take j).map f):¬ (l.map f ++ r).Nodup:=fun hn=>by
 have h1:=(List.nodup_append.1 hn).1
 have e:l=l.take j ++ l[j] :: l.drop (j + 1):=by rw [← List.drop_eq_getElem_cons hj,List.take_append_drop]
 rw [e,List.map_append,List.map_cons] at h1
 exact (List.nodup_append.1 h1).2.2 _ h _ List.mem_cons_self rfl
theorem Bd.grow {h0 h1 h2:H} {L:Lk} {ws0 old:List (ByteArray × Nat × Nat)} {s:ByteArray} {k ver:Nat} {insl:List (ByteArray × InD)} {arsl:List (ByteArray × Int)} {m:Nat} (B:Bd h0 { L with ws:=ws0 ++ old } insl arsl m h1)
  (hw:h2.objs L.w=some (.map (mapO refV (ws0 ++ [(s,h1.next,k + 1)])) ver)) (hid:h2.objs h1.next=some (.cells (Zar (List.replicate (k + 1) 1)))) (same:∀ j,j < h1.next→j ≠ L.w→(∀ r ∈ old,r.2.1 ≠ j)→h2.objs j=h1.objs j) (nx:h2.next=h1.next + 1) :
  Bd h0 { L with ws:=ws0 ++ [(s,h1.next,k + 1)] } insl arsl m h2:=by
 have D:=Lk.dist B.nd
 obtain ⟨⟨xi,xs,xv,xw,xl,xn⟩,⟨is,iv,iw,il,in_⟩,⟨sv,sw,sl,sn⟩,⟨vw,vl,vn⟩,⟨wl,wn⟩,ln,wnd⟩:=D
 simp only [List.map_append,List.mem_append,not_or] at xn in_ sn vn wn ln
 have hold:∀ {id},id ∉ old.map (fun r=>r.2.1)→∀ r ∈ old,r.2.1 ≠ id:=fun hn r hr e=>hn (by rw [← e]; exact List.mem_map.2 ⟨r,hr,rfl⟩)
 have lt:∀ id ∈ Lk.own { L with ws:=ws0 ++ old },h0.next + 2 ≤ id∧id < h1.next:=B.lt
 have l1:=lt L.x (by simp [Lk.own])
 have l2:=lt L.i (by simp [Lk.own])
 have l3:=lt L.s (by simp [Lk.own])
 have l4:=lt L.v (by simp [Lk.own])
 have l5:=lt L.w (by simp [Lk.own])
 have l6:=lt L.l (by simp [Lk.own])
 have l7:∀ r ∈ ws0,h0.next + 2 ≤ r.2.1∧r.2.1 < h1.next:=fun r hr=>lt _ (List.mem_append_right _ (List.mem_map.2 ⟨r,List.mem_append_left _ hr,rfl⟩))
 have l8:∀ r ∈ old,h0.next + 2 ≤ r.2.1∧r.2.1 < h1.next:=fun r hr=>lt _ (List.mem_append_right _ (List.mem_map.2 ⟨r,List.mem_append_right _ hr,rfl⟩))
 have hnd:=wnd
 simp only [List.map_append] at hnd
 have nn:∀ id,id < h1.next→id ∉ ws0.map (fun r=>r.2.1)→id ∉ (ws0 ++ [(s,h1.next,k + 1)]).map (fun r=>r.2.1):=fun id hl hn hm=>by
  rw [List.map_append,List.mem_append] at hm
  rcases hm with hm | hm
  ·exact hn hm
  ·simp at hm; omega
 refine ⟨?_,?_,?_,?_,⟨ver,hw⟩,?_,B.es,fun r hr=>?_,?_,fun id hid=>?_,B.bs.mono (by omega) (fun q hq=>same q (by omega) (by omega) (fun r hr=>by have:=l8 r hr; omega))⟩
 ·show h2.objs L.x=_; rw [same L.x (by omega) xw (hold xn.2)]; exact B.x
 ·show ∃ ver,h2.objs L.i=_; rw [same L.i (by omega) iw (hold in_.2)]; exact B.i
 ·show ∃ ver,h2.objs L.s=_; rw [same L.s (by omega) sw (hold sn.2)]; exact B.s
 ·show ∃ ver,h2.objs L.v=_; rw [same L.v (by omega) vw (hold vn.2)]; exact B.v
 ·show ∃ ver,h2.objs L.l=_; rw [same L.l (by omega) wl.symm (hold ln.2)]; exact B.l
 ·have hr:r ∈ ws0 ++ [(s,h1.next,k + 1)]:=hr
  rcases List.mem_append.1 hr with hr | hr
  ·rw [same _ (l7 r hr).2 (fun e=>wn.1 (by rw [← e]; exact List.mem_map.2 ⟨r,hr,rfl⟩)) (fun r' hr' e=>(List.nodup_append.1 hnd).2.2 r.2.1 (List.mem_map.2 ⟨r,hr,rfl⟩) r'.2.1 (List.mem_map.2 ⟨r',hr',rfl⟩) e.symm)]
   exact B.ws r (List.mem_append_left _ hr)
  ·rw [List.mem_singleton] at hr; subst hr; exact hid
 ·simp only [Lk.own,List.cons_append,List.nil_append,List.nodup_cons,List.mem_cons,not_or]
  refine ⟨⟨xi,xs,xv,xw,xl,nn _ l1.2 xn.1⟩,⟨is,iv,iw,il,nn _ l2.2 in_.1⟩,⟨sv,sw,sl,nn _ l3.2 sn.1⟩,⟨vw,vl,nn _ l4.2 vn.1⟩,⟨wl,nn _ l5.2 wn.1⟩,nn _ l6.2 ln.1,?_⟩
  rw [List.map_append]
  refine List.nodup_append.2 ⟨(List.nodup_append.1 hnd).1,by simp,fun a ha b hb e=>?_⟩
  obtain ⟨r,hr,rfl⟩:=List.mem_map.1 ha
  simp only [List.map_cons,List.map_nil,List.mem_singleton] at hb
  have:=(l7 r hr).2
  omega
 ·rw [nx]
  simp only [Lk.own,List.cons_append,List.nil_append,List.mem_cons,List.map_append,List.mem_append,List.map_nil,List.not_mem_nil,or_false,List.map_cons] at hid
  rcases hid with e | e | e | e | e | e | e | e
  ·omega
  ·omega
  ·omega
  ·omega
  ·omega
  ·omega
  ·obtain ⟨r,hr,rfl⟩:=List.mem_map.1 e
   have:=l7 r hr; omega
  ·have:=B.bs.nx; omega
theorem app_new1 {st:S} {s k:Nat} {c:Cap} (hk:k=0):appV st s (.vec [] .full) (.vec [I 1] c) 1 8 false true=some (.ref st.h.next 0 (k + 1) 1,st.withH (st.h.new (.cells (Zar (List.replicate (k + 1) 1))))):=by subst hk; rfl
theorem app_more {st:S} {s id k:Nat} {c:Cap} {n:Int} {cs:List V} (hg:st.h.get id=some cs) (hl:cs.length=k) (hk:k ≤ 1000):appV st s (.ref id 0 k 1) (.vec [I n] c) 1 8 false true=some (.ref st.h.next 0 (k + 1) 1,st.withH (st.h.move id (.cells (cs ++ [I n])))):=by
 simp only [appV,lenV,flat,hg,List.flatMap_cons,List.flatMap_nil,V.cells,List.append_nil,List.length_cons,List.length_nil]
 rw [if_pos ⟨trivial,by decide,by decide⟩,if_pos ⟨by rw [Nat.mul_one]; exact hl,trivial,by unfold most; omega,by decide⟩]
theorem Zhc {h:H} {id j:Nat} {o:O}:(h.move id o).objs j=if j=h.next then some o else if j=id then none else h.objs j:=rfl
theorem Zle {α:Type} {s:ByteArray} {v:α}:∀ {l:List (ByteArray × α)},s ∉ l.map (·.1)→Zaj s (l ++ [(s,v)])=some v
 | [],_=>by simp [Zaj]
 | (a,u) :: es,h=>by
  simp only [List.map_cons,List.mem_cons,not_or] at h
  simp only [List.cons_append,Zaj]
  rw [if_neg (fun e=>h.1 e.symm),Zle h.2]
theorem Zs0 {k:Nat}:Zar (List.replicate k 1) ++ [I 1]=Zar (List.replicate (k + 1) 1):=by
 rw [List.replicate_succ']; simp [Zar]
theorem Zvq {l:List InD} (h:∀ d ∈ l,VIn d):maxI l ≤ 16:=by
 induction l with
 | nil=>decide
 | cons d ds ih =>
  have h1:=(h d (by simp)).w2
  have h2:=ih fun x hx=>h x (by simp [hx])
  simp only [maxI]; omega
namespace YtihjhelbdbeokaaGreatDoor
section
variable {K:Out→H→Prop} {p:Prg}
theorem takenB {s:ByteArray} {h:H} {x i sz l v1 v2 v3:Nat} {a b c d e:V} {insl:List (ByteArray × InD)} {arsl:List (ByteArray × Int)} {loops:List (ByteArray × Nat)} (gx:h.get x=some [.map i,.map sz,a,b,.map l,c,d,e]) (i1:h.objs i=some (.map (mapO InD.v insl) v1))
  (i2:h.objs sz=some (.map (mapO intU arsl) v2)) (i3:h.objs l=some (.map (mapO conV loops) v3)) (hK:K (.ret (.bool ((Zaj s insl).isSome || (Zaj s arsl).isSome || (Zaj s loops).isSome))) h):R 95 [.ptr x 0,.str s] h K:=by
 refine run95 (Nat.le_of_ble_eq_true rfl) ?_
 cases c1:Zaj s insl <;> cases c2:Zaj s arsl <;> cases c3:Zaj s loops <;> rw [c1,c2,c3] at hK <;>
  (simp -dsimp -implicitDefEqProofs only [↓STP,STQ,seval,ir95,gx,Zaw i1,Zaw i2,Zaw i3,c1,c2,c3,Za8,getD_some,Za7,Za2,Zap,Zat,Zak,intU,conV,Zab,Zad]; exact hK)
theorem goneG {p:Prg} (ok:POk p) (hv:VSs p.body 1) (hin:∀ d ∈ p.ins,VIn d) (har:∀ d ∈ p.arrays,VAr d) {h:H}
  (hK:Ans (Zbl p) (fun σ=>∀ h',h.next ≤ h'.next→(∀ j,j < h.next→h'.objs j=h.objs j)→K (.ret (.tuple [I σ.most,I 0])) h') (fun e=>∀ h',h.next ≤ h'.next→(∀ j,j < h.next→h'.objs j=h.objs j)→K (.ret (.tuple [I 0,I e])) h')) :
  R 58 [p.v] h K:=by
 refine Zsj ext2 (F:=ir58) (tw:=156) rfl ?_
 simp -dsimp -implicitDefEqProofs only [↓STP,STQ,seval,ir58,Prg.v,Prg.cells,Zah,List.length_map]
 generalize hL0:(Lk.mk (h.next + 1 + 1 + 1 + 1 + 1 + 1 + 1) (h.next + 1 + 1) (h.next + 1 + 1 + 1) (h.next + 1 + 1 + 1 + 1) (h.next + 1 + 1 + 1 + 1 + 1) (h.next + 1 + 1 + 1 + 1 + 1 + 1) [] [])=L
 have xe:L.x=h.next + 1 + 1 + 1 + 1 + 1 + 1 + 1:=by rw [← hL0]
 have li:=Za4
 have pli:=ok.li
 have pla:=ok.la
 refine Zai (fun k s=>∃ j h',k=p.ins.length - j∧j ≤ p.ins.length∧((p.ins.take j).map InD.name).Nodup∧Bd h L (insM (p.ins.take j)) [] (maxI (p.ins.take j)) h' ∧
  s=⟨upd (upd (upd (upd (upd (upd (upd ρ0 1 (.lptr 0 3 0)) 2 (.ptr h.next 0)) 3 (.ptr (h.next + 1) 0)) 4 (.ptr L.x 0)) 18 (.vec (p.ins.map InD.v) .any)) 19 (I p.ins.length)) 20 (I j),upd m0 0 (some [.vec (p.ins.map InD.v) .any,.vec (p.arrays.map ArD.v) .any,.vec (p.body.map Stm.v) .any]),1,[],h'⟩)
  (i:=p.ins.length) ⟨0,_,rfl,Nat.zero_le _,by simp,?_,by rw [xe]; simp -dsimp -implicitDefEqProofs only [↓STP,STQ,seval] <;> rfl⟩ ?_ mono
 ·subst hL0
  refine ⟨?_,⟨0,?_⟩,⟨0,?_⟩,⟨0,?_⟩,⟨0,?_⟩,⟨0,?_⟩,rfl,by simp,?_,?_,⟨?_,fun j hj=>?_,?_,?_⟩⟩
  ·simp [Zae,Zah,Lk.cs,maxI]
  ·simp [Zae,Zah,mapO,insM]
  ·simp [Zae,Zah,mapO]
  ·simp [Zae,Zah,mapO]
  ·simp [Zae,Zah,mapO]
  ·simp [Zae,Zah,mapO]
  ·simp [Lk.own]; omega
  ·intro id hid
   simp only [Lk.own,List.map_nil,List.append_nil,List.mem_cons,List.not_mem_nil,or_false] at hid
   simp only [Zah]
   omega
  ·simp only [Zah]; omega
  ·rw [Zae,if_neg (by simp only [Zah]; omega),Zae,if_neg (by simp only [Zah]; omega),Zae,if_neg (by simp only [Zah]; omega),Zae,if_neg (by simp only [Zah]; omega),Zae,if_neg (by simp only [Zah]; omega),Zae,if_neg (by simp only [Zah]; omega),Zae,if_neg (by simp only [Zah]; omega),Zae,if_neg (by omega)]
  ·rw [Zae,if_neg (by simp only [Zah]; omega),Zae,if_neg (by simp only [Zah]; omega),Zae,if_neg (by simp only [Zah]; omega),Zae,if_neg (by simp only [Zah]; omega),Zae,if_neg (by simp only [Zah]; omega),Zae,if_neg (by simp only [Zah]; omega),Zae,if_neg (by simp only [Zah]; omega),Zae,if_pos rfl]
  ·rw [Zae,if_neg (by simp only [Zah]; omega),Zae,if_neg (by simp only [Zah]; omega),Zae,if_neg (by simp only [Zah]; omega),Zae,if_neg (by simp only [Zah]; omega),Zae,if_neg (by simp only [Zah]; omega),Zae,if_neg (by simp only [Zah]; omega),Zae,if_pos (by rw [Zah])]
 rintro k s ⟨j,h',rfl,hj,hnd,B,rfl⟩
 have gx:=Zam B.x
 obtain ⟨vi,hi1⟩:=B.i
 obtain ⟨vs,hs1⟩:=B.s
 obtain ⟨vl,hl1⟩:=B.l
 have D:=Lk.dist B.nd
 rcases Nat.lt_or_ge j p.ins.length with hi | hi
 ·have hget:=Za5 (f:=InD.v) hi
  have hdm:p.ins[j] ∈ p.ins:=List.getElem_mem hi
  have hdi:=hin _ hdm
  have w1:=wiM (show j < 9223372036854775807 by omega)
  have htk:p.ins.take (j + 1)=p.ins.take j ++ [p.ins[j]]:=by rw [List.take_add_one,List.getElem?_eq_getElem hi]; rfl
  have hbad:=fun hh=>Zqn (r:=p.arrays.map ArD.name) (f:=InD.name) hi hh
  generalize p.ins[j]=d at *
  simp -dsimp -implicitDefEqProofs only [↓STP,STQ,seval,Int.ofNat_lt,hi,hget,Zak,Zad]
  refine takenB gx hi1 hs1 hl1 ?_
  cases ht:(Zaj d.name (insM (p.ins.take j))).isSome with
  | true =>
   have hm:=isSome_true.1 ht
   rw [Zhh] at hm
   rw [Zie (hbad hm)] at hK
   simp -dsimp -implicitDefEqProofs only [↓STP,STQ,seval,Bool.true_or]
   refine Zd9 ?_
   simp -dsimp -implicitDefEqProofs only [↓STP,STQ,seval,Zdb,Zms]
   obtain ⟨f1,f2⟩:=B.bs.fin (n:=4)
   exact ⟨4,_,_,rfl,B.bs.r0,B.bs.r1,hK _ (by rw [f1]; have:=B.bs.nx; omega) f2⟩
  | false =>
   have hm:=isSome_false.1 ht
   obtain ⟨vi',hup⟩:=Zii (f:=InD.v) (s:=d.name) (v:=d) hi1
   rw [Zfr hm] at hup
   rw [Zak] at hup
   generalize hh1:h'.set L.i (.map (mapO InD.v (insM (p.ins.take j) ++ [(d.name,d)])) vi')=h1 at *
   have gx1:h1.get L.x=some (L.cs ⟨⟨fun _=>none,[],[]⟩,0,maxI (p.ins.take j),0⟩):=Zam (by rw [← hh1,Zac,if_neg D.1.1]; exact B.x)
   have hmx:(if d.width > ((maxI (p.ins.take j):Nat):Int) then d.width else ((maxI (p.ins.take j):Nat):Int))=((max (maxI (p.ins.take j)) d.width.toNat:Nat):Int):=by
    have:=hdi.w1
    split <;> omega
   have st1:=fun ρ m n u=>Zco (ρ:=ρ) (m:=m) (n:=n) (u:=u) (j:=6) (v:=I ((max (maxI (p.ins.take j)) d.width.toNat:Nat):Int)) gx1 (by simp [Lk.cs]) rfl rfl
   generalize hh2:h1.set L.x (.cells ((L.cs ⟨⟨fun _=>none,[],[]⟩,0,maxI (p.ins.take j),0⟩).set 6 (I ((max (maxI (p.ins.take j)) d.width.toNat:Nat):Int))))=h2 at *
   simp -dsimp -implicitDefEqProofs only [↓STP,STQ,seval,Bool.false_or,Zaj,Zap,gx,Lk.cs,hup,gx1,Za1,hmx,st1,w1]
   refine ⟨p.ins.length - (j + 1),by omega,j + 1,_,rfl,hi,?_,?_,rfl⟩
   ·rw [htk,List.map_append]
    rw [Zhh] at hm
    exact List.nodup_append.2 ⟨hnd,by simp,fun a ha b hb e=>by rw [List.map_cons,List.map_nil,List.mem_singleton] at hb; subst hb; subst e; exact hm ha⟩
   ·rw [htk]
    have hins:insM (p.ins.take j ++ [d])=insM (p.ins.take j) ++ [(d.name,d)]:=by simp [insM]
    rw [hins,Zgr]
    obtain ⟨⟨xi,xs,xv,xw,xl,xn⟩,⟨is,iv,iw,il,in_⟩,⟨sv,sw,sl,sn⟩,⟨vw,vl,vn⟩,⟨wl,wn⟩,ln,wnd⟩:=D
    have hold:∀ q,q ≠ L.i→q ≠ L.x→h2.objs q=h'.objs q:=fun q h1' h2'=>by rw [← hh2,Zac,if_neg h2',← hh1,Zac,if_neg h1']
    have hnx:h2.next=h'.next:=by rw [← hh2,Zbd,← hh1,Zbd]
    have lx:=(B.lt L.x (by simp [Lk.own])).1
    have lii:=(B.lt L.i (by simp [Lk.own])).1
    refine ⟨by rw [← hh2,Zac,if_pos rfl]; rfl,⟨vi',by rw [← hh2,Zac,if_neg xi.symm,← hh1,Zac,if_pos rfl]⟩,?_,?_,?_,?_,B.es,fun r hr=>?_,B.nd,fun id hid=>by rw [hnx]; exact B.lt id hid,B.bs.mono (by rw [hnx]; exact Nat.le_refl _) (fun q hq=>hold q (by omega) (by omega))⟩
    ·rw [hold _ is.symm xs.symm]; exact B.s
    ·rw [hold _ iv.symm xv.symm]; exact B.v
    ·rw [hold _ iw.symm xw.symm]; exact B.w
    ·rw [hold _ il.symm xl.symm]; exact B.l
    ·have hm:r.2.1 ∈ L.ws.map (fun r=>r.2.1):=List.mem_map.2 ⟨r,hr,rfl⟩
     rw [hold _ (fun e=>in_ (by rw [← e]; exact hm)) (fun e=>xn (by rw [← e]; exact hm))]; exact B.ws r hr
 ·have hj':j=p.ins.length:=by omega
  subst hj'
  rw [List.take_length] at B hnd
  simp -dsimp -implicitDefEqProofs only [↓STP,STQ,seval,Int.lt_irrefl]
  generalize hm0:maxI p.ins=m0' at *
  have hL1:L={ L with ws:=[] }:=by rw [← hL0]
  have les:L.es=[]:=B.es
  refine Zai (fun k s=>∃ j ws h',k=p.arrays.length - j∧j ≤ p.arrays.length∧(p.ins.map InD.name ++ (p.arrays.take j).map ArD.name).Nodup∧Bd h { L with ws:=ws } (insM p.ins) (arsM (p.arrays.take j)) m0' h' ∧
   (ws.map fun r=>(r.1,r.2.2))=(p.arrays.take j).map (fun d=>(d.name,d.size.toNat)) ∧
   s=⟨upd (upd (upd (upd (upd (upd (upd ρ0 1 (.lptr 0 3 0)) 2 (.ptr h.next 0)) 3 (.ptr (h.next + 1) 0)) 4 (.ptr L.x 0)) 48 (.vec (p.arrays.map ArD.v) .any)) 49 (I p.arrays.length)) 50 (I j),upd m0 0 (some [.vec (p.ins.map InD.v) .any,.vec (p.arrays.map ArD.v) .any,.vec (p.body.map Stm.v) .any]),1,[],h'⟩)
   (i:=p.arrays.length) ⟨0,[],h',rfl,Nat.zero_le _,by simpa using hnd,by rw [← hL1]; exact B,rfl,by simp -dsimp -implicitDefEqProofs only [↓STP,STQ,seval,List.length_map] <;> rfl⟩ ?_ mono
  rintro k s ⟨j,ws,h2,rfl,hj2,hnd2,B2,hws,rfl⟩
  have gx2:=Zam B2.x
  obtain ⟨vi2,hi2⟩:=B2.i
  obtain ⟨vs2,hs2⟩:=B2.s
  obtain ⟨vl2,hl2⟩:=B2.l
  simp only at gx2 hi2 hs2 hl2
  have D2:=Lk.dist B2.nd
  simp only at D2
  rcases Nat.lt_or_ge j p.arrays.length with hi | hi
  ·have hget:=Za5 (f:=ArD.v) hi
   have hdm:p.arrays[j] ∈ p.arrays:=List.getElem_mem hi
   have hdi:=har _ hdm
   have w1:=wiM (show j < 9223372036854775807 by omega)
   have htk:p.arrays.take (j + 1)=p.arrays.take j ++ [p.arrays[j]]:=by rw [List.take_add_one,List.getElem?_eq_getElem hi]; rfl
   have hbad:p.arrays[j].name ∈ p.ins.map InD.name ++ (p.arrays.take j).map ArD.name→¬ (p.ins.map InD.name ++ p.arrays.map ArD.name).Nodup:=fun hh hn=>by
    rcases List.mem_append.1 hh with hh | hh
    ·exact (List.nodup_append.1 hn).2.2 _ hh _ (List.mem_map.2 ⟨_,hdm,rfl⟩) rfl
    ·have:=Zqn (r:=[]) (f:=ArD.name) hi hh
     rw [List.append_nil] at this
     exact this (List.nodup_append.1 hn).2.1
   generalize p.arrays[j]=d at *
   simp -dsimp -implicitDefEqProofs only [↓STP,STQ,seval,Int.ofNat_lt,hi,hget,ArD.v,ArD.cells,Zad]
   refine takenB gx2 hi2 hs2 hl2 ?_
   cases ht:((Zaj d.name (insM p.ins)).isSome || (Zaj d.name (arsM (p.arrays.take j))).isSome) with
   | true =>
    have hm:d.name ∈ p.ins.map InD.name ++ (p.arrays.take j).map ArD.name:=by
     rw [Bool.or_eq_true] at ht
     refine List.mem_append.2 (ht.imp (fun h=>?_) (fun h=>?_))
     ·have:=isSome_true.1 h; rwa [Zhh] at this
     ·have:=isSome_true.1 h; rwa [Zkc] at this
    rw [Zie (hbad hm)] at hK
    simp -dsimp -implicitDefEqProofs only [↓STP,STQ,seval,Bool.true_or]
    refine Zd9 ?_
    simp -dsimp -implicitDefEqProofs only [↓STP,STQ,seval,Zdb,Zms]
    obtain ⟨f1,f2⟩:=B2.bs.fin (n:=4)
    exact ⟨4,_,_,rfl,B2.bs.r0,B2.bs.r1,hK _ (by rw [f1]; have:=B2.bs.nx; omega) f2⟩
   | false =>
    have hm:d.name ∉ p.ins.map InD.name ++ (p.arrays.take j).map ArD.name:=fun hh=>by
     rw [Bool.or_eq_false_iff] at ht
     rcases List.mem_append.1 hh with hh | hh
     ·exact isSome_false.1 ht.1 (by rw [Zhh]; exact hh)
     ·exact isSome_false.1 ht.2 (by rw [Zkc]; exact hh)
    have hma:d.name ∉ (arsM (p.arrays.take j)).map (·.1):=fun hh=>hm (List.mem_append_right _ (by rw [Zkc] at hh; exact hh))
    have hkeys:ws.map (·.1)=(p.arrays.take j).map ArD.name:=by
     have:=congrArg (List.map Prod.fst) hws
     simpa [List.map_map,Function.comp_def] using this
    have hmw:d.name ∉ ws.map (·.1):=fun hh=>hm (List.mem_append_right _ (by rw [hkeys] at hh; exact hh))
    obtain ⟨vs3,hup⟩:=Zii (f:=intU) (s:=d.name) (v:=d.size) hs2
    rw [Zfr hma,show intU d.size=V.int .i64 d.size from rfl] at hup
    generalize hh3:h2.set L.s (.map (mapO intU (arsM (p.arrays.take j) ++ [(d.name,d.size)])) vs3)=h3 at *
    have ars1:arsM (p.arrays.take (j + 1))=arsM (p.arrays.take j) ++ [(d.name,d.size)]:=by rw [htk]; simp [arsM]
    have hold3:∀ q,q ≠ L.s→h3.objs q=h2.objs q:=fun q hq=>by rw [← hh3,Zac,if_neg hq]
    have B3:Bd h { L with ws:=ws } (insM p.ins) (arsM (p.arrays.take (j + 1))) m0' h3:=by
     obtain ⟨⟨xi,xs,xv,xw,xl,xn⟩,⟨is,iv,iw,il,in_⟩,⟨sv,sw,sl,sn⟩,⟨vw,vl,vn⟩,⟨wl,wn⟩,ln,wnd⟩:=D2
     have ls:=(B2.lt L.s (by simp [Lk.own])).1
     rw [ars1]
     refine ⟨?_,?_,⟨vs3,?_⟩,?_,?_,?_,B2.es,fun r hr=>?_,B2.nd,fun id hid=>?_,B2.bs.mono ?_ (fun q hq=>hold3 q (by omega))⟩
     ·show h3.objs L.x=_; rw [hold3 _ xs]; exact B2.x
     ·show ∃ ver,h3.objs L.i=_; rw [hold3 _ is]; exact B2.i
     ·show h3.objs L.s=_; rw [← hh3,Zac,if_pos rfl]
     ·show ∃ ver,h3.objs L.v=_; rw [hold3 _ sv.symm]; exact B2.v
     ·show ∃ ver,h3.objs L.w=_; rw [hold3 _ sw.symm]; exact B2.w
     ·show ∃ ver,h3.objs L.l=_; rw [hold3 _ sl.symm]; exact B2.l
     ·have hm:r.2.1 ∈ ws.map (fun r=>r.2.1):=List.mem_map.2 ⟨r,hr,rfl⟩
      rw [hold3 _ (fun e=>sn (by rw [← e]; exact hm))]; exact B2.ws r hr
     ·have:=B2.lt id hid; rw [← hh3]; exact this
     ·rw [← hh3]; exact Nat.le_refl _
    have hsz:d.size=((d.size.toNat:Nat):Int):=by have:=hdi.s1; omega
    simp -dsimp -implicitDefEqProofs only [↓STP,STQ,seval,Bool.false_or,Zaj,Zap,gx2,Lk.cs,hup]
    rw [hsz]
    generalize hNd:d.size.toNat=N at *
    have hN:N ≤ 64:=by have:=hdi.s2; omega
    have hN1:1 ≤ N:=by have:=hdi.s1; omega
    refine Zai (fun q s=>∃ k old h4,q=N - k∧k ≤ N∧((k=0∧old=[])∨(0 < k∧∃ id,old=[(d.name,id,k)]))∧Bd h { L with ws:=ws ++ old } (insM p.ins) (arsM (p.arrays.take (j + 1))) m0' h4 ∧
     s=⟨upd (upd (upd (upd (upd (upd (upd (upd (upd (upd ρ0 1 (.lptr 0 3 0)) 2 (.ptr h.next 0)) 3 (.ptr (h.next + 1) 0)) 4 (.ptr L.x 0)) 8 (.lptr 1 2 0)) 48 (.vec (p.arrays.map ArD.v) .any)) 49 (I p.arrays.length)) 50 (I j)) 68 (I N)) 69 (I k),
      upd (upd m0 0 (some [.vec (p.ins.map InD.v) .any,.vec (p.arrays.map ArD.v) .any,.vec (p.body.map Stm.v) .any])) 1 (some [.str d.name,I N]),2,[],h4⟩)
     (i:=N) ⟨0,[],h3,rfl,Nat.zero_le _,.inl ⟨rfl,rfl⟩,by rw [List.append_nil]; exact B3,by simp -dsimp -implicitDefEqProofs only [↓STP,STQ,seval] <;> rfl⟩ ?_ mono
    rintro q s ⟨k,old,h4,rfl,hk,hold,B4,rfl⟩
    rcases Nat.lt_or_ge k N with hkN | hkN
    ·have hlt:((k:Nat):Int) < ((N:Nat):Int):=by omega
     have gx4:=Zam B4.x
     simp only at gx4
     obtain ⟨vw4,hw4⟩:=B4.w
     simp only at hw4
     have wk:=wiM (show k < 9223372036854775807 by omega)
     have l1:=B4.lt L.x (by simp [Lk.own])
     have l5:=B4.lt L.w (by simp [Lk.own])
     have D4:=Lk.dist B4.nd
     simp only at D4
     rcases hold with ⟨hk0,rfl⟩ | ⟨hk0,id,rfl⟩
     ·have hf:Zaj d.name ws=none:=findL_none.2 hmw
      have g5:(h4.new (.cells (Zar (List.replicate (k + 1) 1)))).get L.x=some (Lk.cs { L with ws:=ws ++ [] } ⟨⟨fun _=>none,[],[]⟩,0,m0',0⟩):=Zam (by rw [Zae,if_neg (by omega)]; exact B4.x)
      have hw5:(h4.new (.cells (Zar (List.replicate (k + 1) 1)))).objs L.w=some (.map (mapO refV (ws ++ [])) vw4):=by rw [Zae,if_neg (by omega)]; exact hw4
      obtain ⟨ver',hup⟩:=Zii (f:=refV) (s:=d.name) (v:=(h4.next,k + 1)) hw5
      rw [List.append_nil,Zfr hmw,show refV (h4.next,k + 1)=V.ref h4.next 0 (k + 1) 1 from rfl] at hup
      simp -dsimp -implicitDefEqProofs only [↓STP,STQ,seval,eq_true hlt,gx4,Lk.cs,Zh0 hw4,hf,Za7,Za8]
      rw [app_new1 hk0]
      generalize hcs:Zar (List.replicate (k + 1) 1)=cs at *
      simp -dsimp -implicitDefEqProofs only [↓STP,STQ,seval,g5,Lk.cs,hup,wk]
      refine ⟨N - (k + 1),by omega,k + 1,[(d.name,h4.next,k + 1)],_,rfl,by omega,.inr ⟨by omega,_,rfl⟩,B4.grow (old:=[]) (h2:=(h4.new (.cells cs)).set L.w (.map (mapO refV (ws ++ [(d.name,h4.next,k + 1)])) ver')) (by rw [Zac,if_pos rfl]) ?_ (fun i hil hne _=>?_) rfl,rfl⟩
      ·rw [Zac,if_neg (by omega),Zae,if_pos rfl,hcs]
      ·rw [Zac,if_neg hne,Zae,if_neg (by omega)]
     ·have hf:Zaj d.name (ws ++ [(d.name,id,k)])=some (id,k):=Zle hmw
      have hmem:(d.name,id,k) ∈ ws ++ [(d.name,id,k)]:=by simp
      have hid:h4.objs id=some (.cells (Zar (List.replicate k 1))):=B4.ws _ hmem
      have hidm:id ∈ (ws ++ [(d.name,id,k)]).map (fun r=>r.2.1):=List.mem_map.2 ⟨_,hmem,rfl⟩
      have idl:=B4.lt id (List.mem_append_right _ hidm)
      have nx1:L.x ≠ id:=fun e=>D4.1.2.2.2.2.2 (by rw [e]; exact hidm)
      have nw1:L.w ≠ id:=fun e=>D4.2.2.2.2.1.2 (by rw [e]; exact hidm)
      have g5:(h4.move id (.cells (Zar (List.replicate (k + 1) 1)))).get L.x=some (Lk.cs { L with ws:=ws ++ [(d.name,id,k)] } ⟨⟨fun _=>none,[],[]⟩,0,m0',0⟩):=Zam (by rw [Zhc,if_neg (by omega),if_neg nx1]; exact B4.x)
      have hw5:(h4.move id (.cells (Zar (List.replicate (k + 1) 1)))).objs L.w=some (.map (mapO refV (ws ++ [(d.name,id,k)])) vw4):=by rw [Zhc,if_neg (by omega),if_neg nw1]; exact hw4
      obtain ⟨ver',hup⟩:=Zii (f:=refV) (s:=d.name) (v:=(h4.next,k + 1)) hw5
      rw [Zjf hmw,show refV (h4.next,k + 1)=V.ref h4.next 0 (k + 1) 1 from rfl] at hup
      simp -dsimp -implicitDefEqProofs only [↓STP,STQ,seval,eq_true hlt,gx4,Lk.cs,Zh0 hw4,hf,Za2,getD_some,refV]
      rw [app_more (Zam hid) (by rw [Zbq,List.length_replicate]) (by omega),Zs0]
      generalize hcs:Zar (List.replicate (k + 1) 1)=cs at *
      simp -dsimp -implicitDefEqProofs only [↓STP,STQ,seval,g5,Lk.cs,hup,wk]
      refine ⟨N - (k + 1),by omega,k + 1,[(d.name,h4.next,k + 1)],_,rfl,by omega,.inr ⟨by omega,_,rfl⟩,B4.grow (old:=[(d.name,id,k)]) (h2:=(h4.move id (.cells cs)).set L.w (.map (mapO refV (ws ++ [(d.name,h4.next,k + 1)])) ver')) (by rw [Zac,if_pos rfl]) ?_ (fun i hil hne hall=>?_) rfl,rfl⟩
      ·rw [Zac,if_neg (by omega),Zhc,if_pos rfl,hcs]
      ·rw [Zac,if_neg hne,Zhc,if_neg (by omega),if_neg (fun e=>hall (d.name,id,k) (by simp) e.symm)]
    ·have hkN':k=N:=by omega
     subst hkN'
     simp -dsimp -implicitDefEqProofs only [↓STP,STQ,seval,Int.lt_irrefl,w1]
     obtain ⟨_,id,rfl⟩:=hold.resolve_left (fun hh=>by omega)
     refine ⟨p.arrays.length - (j + 1),by omega,j + 1,ws ++ [(d.name,id,k)],h4,rfl,hi,?_,B4,?_,rfl⟩
     ·rw [htk,List.map_append,← List.append_assoc]
      exact List.nodup_append.2 ⟨hnd2,by simp,fun a ha b hb e=>by rw [List.map_cons,List.map_nil,List.mem_singleton] at hb; subst hb; subst e; exact hm ha⟩
     ·rw [htk,List.map_append,List.map_append,hws]
      simp only [List.map_cons,List.map_nil,hNd]
  ·have hj':j=p.arrays.length:=by omega
   subst hj'
   rw [List.take_length] at B2 hnd2 hws
   have hp:PV p:=⟨fun d hd=>⟨(hin d hd).w1,(hin d hd).w2,(hin d hd).s1,(hin d hd).s2⟩,fun d hd=>⟨(har d hd).s1,(har d hd).s2⟩,hnd2⟩
   have hkeys:ws.map (·.1)=p.arrays.map ArD.name:=by
    have:=congrArg (List.map Prod.fst) hws
    simpa [List.map_map,Function.comp_def] using this
   have hwlen:ws.length=p.arrays.length:=by simpa using congrArg List.length hws
   have hkn:(ws.map (·.1)).Nodup:=by rw [hkeys]; exact (List.nodup_append.1 hnd2).2.1
   have A:At p { L with ws:=ws } (Zh3 p) h2:=by
    refine ⟨?_,B2.i,B2.s,B2.v,B2.w,B2.l,fun s=>?_,?_,fun i d hd=>?_,hkn,fun r hr=>?_,B2.nd,fun id hid=>(B2.lt id hid).2⟩
    ·have:=B2.x; rw [← hm0] at this; exact this
    ·show Zaj s L.es=none; rw [les]; rfl
    ·show (L.es.map (·.1)).Nodup; rw [les]; simp
    ·have hil:i < p.arrays.length:=(List.getElem?_eq_some_iff.1 hd).1
     have hg:ws[i]?=some ws[i]:=List.getElem?_eq_getElem (by omega)
     have he:(ws.map fun r=>(r.1,r.2.2))[i]?=(p.arrays.map (fun d=>(d.name,d.size.toNat)))[i]?:=by rw [hws]
     rw [List.getElem?_map,List.getElem?_map,hg,hd] at he
     simp only [Option.map_some,Option.some.injEq,Prod.mk.injEq] at he
     have hmem:ws[i] ∈ ws:=List.mem_of_getElem? hg
     refine ⟨ws[i].2.1,List.replicate d.size.toNat 1,?_,?_,?_⟩
     ·show (p.arrays.map fun d=>List.replicate d.size.toNat 1)[i]?=_
      rw [List.getElem?_map,hd]; rfl
     ·rw [List.length_replicate]
      refine Zbu hkn ?_
      show (d.name,ws[i].2.1,d.size.toNat) ∈ ws
      rw [← he.1,← he.2]; exact hmem
     ·rw [← he.2]; exact B2.ws _ hmem
    ·have:r.1 ∈ p.arrays.map ArD.name:=by rw [← hkeys]; exact List.mem_map.2 ⟨r,hr,rfl⟩
     obtain ⟨d,hd,hn⟩:=List.mem_map.1 this
     exact ⟨d,hd,hn⟩
   have T:TOk p (Zh3 p):=by
    refine ⟨⟨(fun s k w h=>by cases h),(fun s n h=>by cases h),by simp [Zh3],fun i l d hl hd=>?_⟩,Nat.zero_le _,by have:=Zvq hin; show maxI p.ins ≤ 60; omega⟩
    have hl:(p.arrays.map fun d=>List.replicate d.size.toNat 1)[i]?=some l:=hl
    rw [List.getElem?_map,hd] at hl
    cases hl
    have:=(har d (List.mem_of_getElem? hd)).s1
    refine ⟨by rw [List.length_replicate]; omega,fun w hw=>?_⟩
    have:=(List.mem_replicate.1 hw).2
    omega
   have hck:Zbl p=Zal p p.body (Zh3 p):=by
    unfold Zbl Zgl
    rw [decide_eq_true hnd2]; rfl
   rw [hck] at hK
   simp -dsimp -implicitDefEqProofs only [↓STP,STQ,seval,Int.lt_irrefl]
   refine stmtsG hp ok.lb hv ok.body { L with ws:=ws } (Zh3 p) h2 _ A T (Nat.zero_le _) ?_
   have own2:∀ id,id < h.next + 2→id ∉ Lk.own { L with ws:=ws }:=fun id hl hi=>by have:=(B2.lt id hi).1; omega
   have bnx:=B2.bs.nx
   cases hr:Zal p p.body (Zh3 p) with
   | error e =>
    rw [hr] at hK
    intro L5 h5 F5
    have b5:Bse h h5:=B2.bs.mono F5.nx (fun q hq=>F5.same q (by omega) (own2 q hq))
    simp -dsimp -implicitDefEqProofs only [↓STP,STQ,seval,Zdb,Zms]
    obtain ⟨f1,f2⟩:=b5.fin (n:=e)
    exact ⟨e,_,_,rfl,b5.r0,b5.r1,hK _ (by rw [f1]; have:=b5.nx; omega) f2⟩
   | ok σ =>
    rw [hr] at hK
    intro L5 h5 A5 F5
    have b5:Bse h h5:=B2.bs.mono F5.nx (fun q hq=>F5.same q (by omega) (own2 q hq))
    have gx5:=Zam A5.x
    rw [show L5.x=L.x from F5.x] at gx5
    have st5:=fun ρ m n u=>Zco (ρ:=ρ) (m:=m) (n:=n) (u:=u) (j:=0) (v:=I ((σ.most:Nat):Int)) (Zam b5.r0) (by decide) rfl rfl
    generalize hh6:h5.set h.next (.cells ([I 0].set 0 (I ((σ.most:Nat):Int))))=h6 at *
    have g6:h6.get (h.next + 1)=some [I 0]:=Zam (by rw [← hh6,Zac,if_neg (by omega)]; exact b5.r1)
    have st6:=fun ρ m n u=>Zco (ρ:=ρ) (m:=m) (n:=n) (u:=u) (j:=0) (v:=I 0) g6 (by decide) rfl rfl
    generalize hh7:h6.set (h.next + 1) (.cells ([I 0].set 0 (I 0)))=h7 at *
    have g70:h7.get h.next=some [I ((σ.most:Nat):Int)]:=Zam (by rw [← hh7,Zac,if_neg (by omega),← hh6,Zac,if_pos rfl]; rfl)
    have g71:h7.get (h.next + 1)=some [I 0]:=Zam (by rw [← hh7,Zac,if_pos rfl]; rfl)
    simp -dsimp -implicitDefEqProofs only [↓STP,STQ,seval,gx5,Lk.cs,st5,st6,endD_ret,g70,g71,ir58]
    refine hK h7 (by rw [← hh7,Zbd,← hh6,Zbd]; have:=b5.nx; omega) (fun q hq=>?_)
    rw [← hh7,Zac,if_neg (by omega),← hh6,Zac,if_neg (by omega)]
    exact b5.old q hq
end
end YtihjhelbdbeokaaGreatDoor
end Go.Ab
namespace Go.Ab
open Go.RowKit Go.ChangeShapes
mutual
def V.bulk:V→Nat
 | .str s=>s.size + 1
 | .vec xs _=>V.bulks xs + 1
 | .agg xs=>V.bulks xs + 1
 | _=>1
def V.bulks:List V→Nat
 | []=>0
 | x :: xs=>x.bulk + V.bulks xs
end
theorem Zip:∀ a b:List V,V.bulks (a ++ b)=V.bulks a + V.bulks b
 | [],b=>by rw [List.nil_append,V.bulks,Nat.zero_add]
 | x :: a,b=>by rw [List.cons_append,V.bulks,V.bulks,Zip a b,Nat.add_assoc]
theorem Zhr {v:V}:V.bulks [v]=v.bulk:=by rw [V.bulks,V.bulks,Nat.add_zero]
section
variable {H':Type} {enc:TypeId × Value→H'} {P:Program} {W:World} {ts:List TypeId}
structure BulkOK (B:DataW H'→Nat):Prop where
 str:∀ l,l.length + 1 ≤ B (.lit (.string l))
 lit:∀ l,1 ≤ B (.lit l)
 nil:1 ≤ B .nil
 slice:∀ e s,(e.map B).sum + 1 ≤ B (.slice e s)
 agg:∀ e,(e.map B).sum + 1 ≤ B (.agg e)
theorem Zrn {α:Type} {g:α→Nat}:∀ {l:List V} {m:List α},l.length=m.length→(∀ (i:Nat) (a:V) (b:α),l[i]?=some a→m[i]?=some b→a.bulk ≤ g b)→V.bulks l ≤ (m.map g).sum
 | [],[],_,_=>Nat.le_refl _
 | [],_ :: _,h,_=>by simp at h
 | _ :: _,[],h,_=>by simp at h
 | x :: l,y :: m,h,hp=>by
  have h1:=hp 0 x y rfl rfl
  have h2:=Zrn (l:=l) (m:=m) (by simpa using h) (fun i a b ha hb=>hp (i + 1) a b (by simpa using ha) (by simpa using hb))
  rw [V.bulks,List.map_cons,List.sum_cons]; omega
theorem Zib {α:Type} {g:α→Nat}:∀ {l:List (List V)} {m:List α},l.length=m.length→(∀ (i:Nat) (a:List V) (b:α),l[i]?=some a→m[i]?=some b→V.bulks a ≤ g b)→V.bulks l.flatten ≤ (m.map g).sum
 | [],[],_,_=>Nat.le_refl _
 | [],_ :: _,h,_=>by simp at h
 | _ :: _,[],h,_=>by simp at h
 | x :: l,y :: m,h,hp=>by
  have h1:=hp 0 x y rfl rfl
  have h2:=Zib (l:=l) (m:=m) (by simpa using h) (fun i a b ha hb=>hp (i + 1) a b (by simpa using ha) (by simpa using hb))
  rw [List.flatten_cons,Zip,List.map_cons,List.sum_cons]; omega
theorem trod_VB {B:DataW H'→Nat} (hB:BulkOK B) (hc:Zgx P ts=true):∀ (fuel:Nat) (t:TypeId) (cs:List Value) (x:DataW H' × List MemPlace),ts.contains t=true→DataW.trod enc P W 0 (fun _=>true) true fuel t cs=some x →
  ∃ vs,CRs (k0 W) W vs cs∧Ty P t vs∧vs.length=P.cellsOf t∧V.bulks vs ≤ B x.1∧(aggT P t=some true→V.bulks vs + 1 ≤ B x.1):=by
 intro fuel
 induction fuel with
 | zero=>intro t cs x ht h; simp [DataW.trod] at h
 | succ fuel ih =>
  intro t cs x ht h
  have hk:=Zj8 hc ht
  unfold DataW.trod at h
  simp only at h
  split at h
  ·rename_i hu
   rw [hu] at hk
   cases h
   exact ⟨_,Zj7 (.bool _) rfl,.bool hu _,(beq_iff_eq.1 hk).symm,hB.lit _,fun h=>by unfold aggT at h; rw [hu] at h; cases h⟩
  ·rename_i k k' n hu
   rw [hu] at hk
   split at h
   ·rename_i hw
    obtain ⟨rfl,hw⟩:=hw
    cases h
    exact ⟨_,Zj7 (.int _ _) rfl,.int hu _ hw,(beq_iff_eq.1 hk).symm,hB.lit _,fun h=>by unfold aggT at h; rw [hu] at h; cases h⟩
   ·simp at h
  ·rename_i hu; rw [hu] at hk; simp at hk
  ·rename_i s hu
   rw [hu] at hk
   split at h
   ·rename_i hs
    cases h
    exact ⟨_,Zj7 (.str _) rfl,.str hu _ hs,(beq_iff_eq.1 hk).symm,by rw [Zhr]; exact Nat.le_trans (by rw [V.bulk,Array.length_toList]; exact Nat.le_refl _) (hB.str _),fun h=>by unfold aggT at h; rw [hu] at h; cases h⟩
   ·simp at h
  ·rename_i hu; rw [hu] at hk; simp at hk
  ·rename_i hu; rw [hu] at hk; simp at hk
  ·rename_i e hu
   rw [hu] at hk
   simp only [Bool.and_eq_true,beq_iff_eq,decide_eq_true_eq] at hk
   obtain ⟨ag,ha,_⟩:=Zia hc hk.1.1
   cases h
   exact ⟨_,Zj7 (.vecNil .any rfl) rfl,.slice hu ha [] (by simp) (by simp),hk.2.symm,hB.nil,fun h=>by unfold aggT at h; rw [hu] at h; cases h⟩
  ·rename_i e a len cap hu
   rw [hu] at hk
   simp only [Bool.and_eq_true,beq_iff_eq,decide_eq_true_eq] at hk
   obtain ⟨⟨he,hz⟩,h1⟩:=hk
   obtain ⟨ag,ha,hag⟩:=Zia hc he
   split at h
   ·rename_i hb
    obtain ⟨_,hlc,hcm⟩:=hb
    rw [Option.bind_eq_some_iff] at h
    obtain ⟨elems,hel,h⟩:=h
    rw [Option.map_eq_some_iff] at h
    obtain ⟨rest,_,rfl⟩:=h
    obtain ⟨g1,g2⟩:=Zhz hel
    have hel':∀ i,i < len→∃ vs:List V,vs.length=P.cellsOf e∧Ty P e vs∧(∀ (j:Nat) (v:V),vs[j]?=some v→∃ y,W.cell? (a.add (i * P.cellsOf e + j))=some y∧VR (k0 W) W v y∧y.oneCell'=true)∧∀ y,elems[i]?=some y→(mkEl ag vs).bulk ≤ B y.1:=by
     intro i hi
     obtain ⟨y,hy,hyi⟩:=g2 i hi
     rw [Option.bind_eq_some_iff] at hy
     obtain ⟨row,hrow,hy⟩:=hy
     obtain ⟨vs,r1,r2,r3,r4,r5⟩:=ih _ _ _ he hy
     refine ⟨vs,r3,r2,fun j v hj=>?_,fun y' hy'=>?_⟩
     rotate_left
     ·rw [hyi] at hy'; cases hy'
      cases ag with
      | true=>exact r5 ha
      | false =>
       rw [hag rfl] at r3
       match vs,r3 with
       | [v],_=>rw [Zhr] at r4; exact r4
     obtain ⟨z,q1,q2,q3⟩:=r1.2 j v hj
     unfold World.cells? at hrow
     split at hrow
     ·obtain ⟨l1,l2⟩:=Zhz hrow
      have hj':j < P.cellsOf e:=by rw [← r3]; exact (List.getElem?_eq_some_iff.1 hj).1
      obtain ⟨z',m1,m2⟩:=l2 j hj'
      rw [Zdt] at m1
      rw [q1] at m2; cases m2
      exact ⟨z,m1,q2,q3⟩
     ·simp at hrow
    obtain ⟨css,c1,c2⟩:=Zeu len hel'
    have hmk:∀ (i:Nat) (cs:List V),css[i]?=some cs→(mkEl ag cs).cells=cs:=by
     intro i cs hi
     cases ag with
     | true=>rfl
     | false =>
      obtain ⟨p1,_,p3,_⟩:=c2 i cs hi
      rw [hag rfl] at p1
      match cs,p1 with
      | [v],_ =>
       obtain ⟨y,_,q2,q3⟩:=p3 0 v rfl
       exact Zsc q2 q3
    refine ⟨_,Zj7 (x:=.slice (some a) len cap) (.vec (css.map (mkEl ag)) .any a len cap (P.cellsOf e) (fun i j=>(W.cell? (a.add (i * P.cellsOf e + j))).getD undef) rfl (by simp [c1]) hlc (by simp) (fun i el hi=>?_) (fun i el j v hi hj=>?_) (fun i el j v hi hj=>?_)) rfl,
     .slice hu ha css (fun cs hcs=>?_) (by omega),h1.symm,?_,fun h=>by unfold aggT at h; rw [hu] at h; cases h⟩
    ·rw [List.getElem?_map,Option.map_eq_some_iff] at hi
     obtain ⟨cs,hi,rfl⟩:=hi
     rw [hmk i cs hi]
     exact (c2 i cs hi).1
    ·rw [List.getElem?_map,Option.map_eq_some_iff] at hi
     obtain ⟨cs,hi,rfl⟩:=hi
     rw [hmk i cs hi] at hj
     obtain ⟨y,q1,q2,q3⟩:=(c2 i cs hi).2.2.1 j v hj
     rw [q1]
     exact ⟨rfl,by have:=Zrl q1; rwa [Zbi] at this,q3⟩
    ·rw [List.getElem?_map,Option.map_eq_some_iff] at hi
     obtain ⟨cs,hi,rfl⟩:=hi
     rw [hmk i cs hi] at hj
     obtain ⟨y,q1,q2,q3⟩:=(c2 i cs hi).2.2.1 j v hj
     rw [q1]
     exact q2
    ·obtain ⟨i,hi⟩:=List.mem_iff_getElem?.1 hcs
     exact (c2 i cs hi).2.1
    ·rw [Zhr,V.bulk]
     refine Nat.le_trans ?_ (hB.slice _ _)
     rw [List.map_map]
     refine Nat.add_le_add_right (Zrn (by simp [c1,g1]) (fun i a y h1 h2=>?_)) 1
     rw [List.getElem?_map,Option.map_eq_some_iff] at h1
     obtain ⟨cs,h1,rfl⟩:=h1
     exact (c2 i cs h1).2.2.2 y h2
   ·simp at h
  ·rename_i cs _ _ fs hu
   rw [hu] at hk
   simp only [Bool.and_eq_true,beq_iff_eq,List.all_eq_true] at hk
   obtain ⟨hk1,hk2⟩:=hk
   split at h
   ·rename_i hl
    rw [Option.map_eq_some_iff] at h
    obtain ⟨xs,hxs,rfl⟩:=h
    obtain ⟨g1,g2⟩:=Zjp hxs
    have hel:∀ i,i < fs.size→∃ vs:List V,∀ f,fs[i]?=some f→CRs (k0 W) W vs ((cs.drop f.offset).take (P.cellsOf f.type))∧Ty P f.type vs∧∀ y,xs[i]?=some y→V.bulks vs ≤ B y.1:=by
     intro i hi
     obtain ⟨f,hf⟩:∃ f,fs[i]?=some f:=⟨fs[i],Array.getElem?_eq_getElem hi⟩
     obtain ⟨y,hy,hyi⟩:=g2 i f (by simpa using hf)
     obtain ⟨vs,r1,r2,_,r4,_⟩:=ih _ _ _ (hk1 f (List.mem_of_getElem? (by simpa using hf))) hy
     exact ⟨vs,fun f' hf'=>by rw [hf] at hf'; cases hf'; exact ⟨r1,r2,fun y' hy'=>by rw [hyi] at hy'; cases hy'; exact r4⟩⟩
    obtain ⟨parts,c1,c2⟩:=Zeu fs.size hel
    have hrows:=(Znc hk2 hl).1
    rw [List.drop_zero] at hrows
    have hcr:CRs (k0 W) W parts.flatten cs:=by
     rw [hrows]
     refine Zj6 (by simp [c1]) (fun i vs xs h1 h2=>?_)
     rw [List.getElem?_map,Option.map_eq_some_iff] at h2
     obtain ⟨f,hf,rfl⟩:=h2
     exact (c2 i vs h1 f (by simpa using hf)).1
    have hbk:V.bulks parts.flatten + 1 ≤ B (.agg (xs.map (·.1))):=by
     refine Nat.le_trans ?_ (hB.agg _)
     rw [List.map_map]
     refine Nat.add_le_add_right (Zib (by rw [c1,g1]; simp) (fun i a y h1 h2=>?_)) 1
     have hi:i < fs.size:=by rw [← c1]; exact (List.getElem?_eq_some_iff.1 h1).1
     exact (c2 i a h1 fs[i] (Array.getElem?_eq_getElem hi)).2.2 y h2
    exact ⟨parts.flatten,hcr,.struct hu parts c1 (fun i f vs hf hi=>(c2 i vs hi f hf).2.1),by rw [← hcr.1,hl],by show _ ≤ B (.agg _); omega,fun _=>hbk⟩
   ·simp at h
  ·rename_i cs _ _ n e hu
   rw [hu] at hk
   simp only [Bool.and_eq_true,beq_iff_eq] at hk
   obtain ⟨hk1,hk2⟩:=hk
   split at h
   ·rename_i hl
    rw [Option.map_eq_some_iff] at h
    obtain ⟨xs,hxs,rfl⟩:=h
    obtain ⟨g1,g2⟩:=Zhz hxs
    have hel:∀ i,i < n→∃ vs:List V,CRs (k0 W) W vs ((cs.drop (i * P.cellsOf e)).take (P.cellsOf e))∧Ty P e vs∧∀ y,xs[i]?=some y→V.bulks vs ≤ B y.1:=by
     intro i hi
     obtain ⟨y,hy,hyi⟩:=g2 i hi
     obtain ⟨vs,r1,r2,_,r4,_⟩:=ih _ _ _ hk1 hy
     exact ⟨vs,r1,r2,fun y' hy'=>by rw [hyi] at hy'; cases hy'; exact r4⟩
    obtain ⟨parts,c1,c2⟩:=Zeu n hel
    have hrows:=Zoe (n:=n) (z:=P.cellsOf e) (cs:=cs) (by omega)
    have hcr:CRs (k0 W) W parts.flatten cs:=by
     rw [hrows]
     refine Zj6 (by simp [c1]) (fun i vs xs h1 h2=>?_)
     rw [List.getElem?_map,Option.map_eq_some_iff] at h2
     obtain ⟨f,hf,rfl⟩:=h2
     obtain ⟨hf1,hf2⟩:=List.getElem?_eq_some_iff.1 hf
     simp at hf2; subst hf2
     exact (c2 i vs h1).1
    have hbk:V.bulks parts.flatten + 1 ≤ B (.agg (xs.map (·.1))):=by
     refine Nat.le_trans ?_ (hB.agg _)
     rw [List.map_map]
     exact Nat.add_le_add_right (Zib (by rw [c1,g1]) (fun i a y h1 h2=>(c2 i a h1).2.2 y h2)) 1
    refine ⟨parts.flatten,hcr,.array hu parts c1 (fun vs hvs=>?_),by rw [← hcr.1,hl],by show _ ≤ B (.agg _); omega,fun _=>hbk⟩
    obtain ⟨i,hi⟩:=List.mem_iff_getElem?.1 hvs
    exact (c2 i vs hi).2.1
   ·simp at h
  all_goals first
   | (simp at h; done)
   | (rename_i hu; rw [hu] at hk; simp at hk; done)
   | (rename_i hu _; rw [hu] at hk; simp at hk; done)
   | (rename_i hu _ _; rw [hu] at hk; simp at hk; done)
   | skip
theorem arg_VB {B:DataW H'→Nat} (hB:BulkOK B) (hc:Zgx P ts=true) {t:TypeId} (ht:ts.contains t=true) {b0:Nat} {v:Value} {d:DataW H'} {ps:List MemPlace} (hd:DataW.Trod enc P W 0 (fun _=>true) true t v d ps)
  (hok:Value.okWide P W .any b0 t v):∃ u,VR (k0 W) W u v∧Zqa P t u∧u.bulk ≤ B d:=by
 obtain ⟨fuel,hd⟩:=hd
 obtain ⟨cs,h1,h2,h3,h4,h5⟩:=trod_VB hB hc fuel t _ _ ht hd
 obtain ⟨ag,ha,hag⟩:=Zia hc ht
 refine ⟨mkEl ag cs,?_,⟨ag,cs,ha,rfl,h2⟩,?_⟩
 rotate_left
 ·cases ag with
  | true=>exact h5 ha
  | false =>
   rw [hag rfl] at h3
   match cs,h3 with
   | [v],_=>rw [Zhr] at h4; exact h4
 cases ag with
 | true =>
  have hv:∃ arr,v=.agg arr:=by
   unfold aggT at ha
   unfold Value.okWide at hok
   split at ha <;> rename_i hu
   ·rw [hu] at hok; obtain ⟨arr,h,_⟩:=hok; exact ⟨arr,h⟩
   ·rw [hu] at hok; obtain ⟨arr,h,_⟩:=hok; exact ⟨arr,h⟩
   ·cases ha
   ·cases ha
  obtain ⟨arr,rfl⟩:=hv
  have h1':CRs (k0 W) W cs arr.toList:=h1
  refine .agg cs arr (fun j=>arr.toList[j]?.getD undef) (by simpa using h1'.1) (fun j u hj=>?_) (fun j u hj=>?_)
  ·obtain ⟨x,p,q,r⟩:=h1'.2 j u hj
   rw [p]; exact ⟨by simpa using p,r⟩
  ·obtain ⟨x,p,q,r⟩:=h1'.2 j u hj
   rw [p]; exact q
 | false =>
  rw [hag rfl] at h3
  match cs,h3 with
  | [u],_ =>
   obtain ⟨x,p,q,r⟩:=h1.2 0 u rfl
   have hlen:v.cells.toList.length=1:=h1.1
   have hv:v.cells=#[v]:=by
    cases v with
    | agg arr =>
     exfalso
     have hcl:=Zj8 hc ht
     have hu0:∀ fs,P.underlying t ≠ some (.struct fs):=fun fs hu=>by unfold aggT at ha; rw [hu] at ha; cases ha
     have hu1:∀ n e,P.underlying t ≠ some (.array n e):=fun n e hu=>by unfold aggT at ha; rw [hu] at ha; cases ha
     unfold Value.okWide at hok
     split at hok
     ·rename_i hu; exact hu0 _ hu
     ·rename_i hu; exact hu1 _ _ hu
     ·unfold Cell.okWide at hok
      split at hcl <;> rename_i hu
      ·rw [hu] at hok; simp [Cell.ok,hu] at hok
      ·rw [hu] at hok; simp [Cell.ok,hu] at hok
      ·rw [hu] at hok; simp [Cell.ok,hu] at hok
      ·rw [hu] at hok; simp [Cell.ok,hu] at hok
      ·exact hu0 _ hu
      ·exact hu1 _ _ hu
      ·cases hcl
    | _=>rfl
   rw [hv] at p
   simp at p
   subst p
   exact q
theorem Zxj {B:DataW H'→Nat} (hB:BulkOK B) (hc:Zgx P ts=true) {b0:Nat}:∀ {tys:List TypeId} {vs:List Value} {ds:List (DataW H')} {ps:List MemPlace},(∀ t ∈ tys,ts.contains t=true)→DataW.TrodAll enc P W 0 (fun _=>true) true tys vs ds ps →
  (∀ (j:Nat) t v,tys[j]?=some t→vs[j]?=some v→Value.okWide P W .any b0 t v)→∃ us,us.length=vs.length∧(∀ (j:Nat) (u:V),us[j]?=some u→∃ x,vs[j]?=some x∧VR (k0 W) W u x)∧Zlr P tys us∧V.bulks us ≤ (ds.map B).sum
 | [],[],[],ps,_,_,_=>⟨[],rfl,fun j u h=>by simp at h,rfl,Nat.le_refl _⟩
 | [],_ :: _,_,_,_,h,_=>h.elim
 | [],[],_ :: _,_,_,h,_=>h.elim
 | _ :: _,[],_,_,_,h,_=>h.elim
 | _ :: _,_ :: _,[],_,_,h,_=>h.elim
 | t :: tys,v :: vs,d :: ds,ps,ht,h,hok=>by
  obtain ⟨p,q,h1,h2,_⟩:=h
  obtain ⟨u,g1,g2,g6⟩:=arg_VB hB hc (ht t (by simp)) h1 (hok 0 t v rfl rfl)
  obtain ⟨us,g3,g4,g5,g7⟩:=Zxj hB hc (fun t h=>ht t (by simp [h])) h2 (fun j t v h1 h2=>hok (j + 1) t v (by simpa using h1) (by simpa using h2))
  refine ⟨u :: us,by simp [g3],fun j w hj=>?_,⟨u,us,rfl,g2,g5⟩,by rw [V.bulks,List.map_cons,List.sum_cons]; omega⟩
  cases j with
  | zero=>simp at hj; subst hj; exact ⟨v,rfl,g1⟩
  | succ j=>simpa using g4 j w (by simpa using hj)
end
end Go.Ab
namespace Go.Ab
theorem Zch {α:Type} {f:α→V} {g:α→Nat} {c:Nat}:∀ {l:List α},(∀ x ∈ l,g x ≤ c * (f x).bulk)→sumL g l ≤ c * V.bulks (l.map f)
 | [],_=>Nat.zero_le _
 | x :: l,h=>by
  have h1:=h x (by simp)
  have h2:=Zch (l:=l) (fun y hy=>h y (by simp [hy]))
  rw [sumL,List.map_cons,V.bulks,Nat.mul_add]; omega
theorem exp_bulk {k o:Int} {n:Nat} {s:ByteArray} {ks:List Exp}:(Exp.mk k o n s ks).v.bulk=6 + s.size + V.bulks (ks.map Exp.v):=by
 rw [Exp.v_mk]; simp only [V.bulk,V.bulks]; omega
theorem Zye {k:Int} {s:ByteArray} {e:List Exp} {a b:List Stm}:(Stm.mk k s e a b).v.bulk=6 + s.size + V.bulks (e.map Exp.v) + V.bulks (a.map Stm.v) + V.bulks (b.map Stm.v):=by
 rw [Stm.v_mk]; simp only [V.bulk,V.bulks]; omega
theorem prg_bulk {p:Prg}:p.v.bulk=4 + V.bulks (p.ins.map InD.v) + V.bulks (p.arrays.map ArD.v) + V.bulks (p.body.map Stm.v):=by
 simp only [Prg.v,Prg.cells,V.bulk,V.bulks]; omega
theorem nth_sum:∀ {l:List (Int × Nat)},(nth l 0).2 + (nth l 1).2 + (nth l 2).2 ≤ sumL (fun x=>x.2) l
 | []=>Nat.le_refl _
 | [a]=>by simp [nth,sumL]
 | [a,b]=>by simp [nth,sumL]
 | a :: b :: c :: r=>by simp [nth,sumL] <;> omega
theorem at0_sum:∀ {l:List Nat},at0 l 0 + at0 l 1 ≤ sumL (fun x=>x) l
 | []=>Nat.le_refl _
 | [a]=>by simp [at0,sumL]
 | a :: b :: r=>by simp [at0,sumL] <;> omega
theorem Zl0 {α β:Type} {f:α→β} {g:β→Nat}:∀ {l:List α},sumL g (l.map f)=sumL (fun x=>g (f x)) l
 | []=>rfl
 | x :: l=>by rw [List.map_cons,sumL,sumL,Zl0]
theorem Zmn {x:Int × Nat} {m:Int}:held x m ≤ x.2 + 2:=by unfold held; split <;> omega
theorem Zui (e:Exp):EOk e→tlen e ≤ 4 * e.v.bulk:=by
 induction e using Exp.ind with
 | h k o n s ks ih =>
  intro ok
  obtain ⟨_,_,hn,_,_,hks⟩:=Zlt ok
  have h1:sumL tlen ks ≤ 4 * V.bulks (ks.map Exp.v):=Zch fun x hx=>ih x hx (hks x hx)
  have h2:=nth_sum (l:=ks.map tl)
  rw [Zl0] at h2
  have h3:sumL (fun x=>(tl x).2) ks=sumL tlen ks:=rfl
  have d:=Zcy hn
  have a1:=Zmn (x:=nth (ks.map tl) 0) (m:=8)
  have a2:=Zmn (x:=nth (ks.map tl) 0) (m:=2)
  have a3:=Zmn (x:=nth (ks.map tl) 0) (m:=Zcd k o)
  have a4:=Zmn (x:=nth (ks.map tl) 1) (m:=Zcd k o + 1)
  rw [Zuh,exp_bulk]
  unfold Zdk
  repeat' split
  all_goals omega
theorem Zvv (x:Stm):∀ lv ind,VS x lv→SOk x→ind ≤ 2 * lv→llen x ind ≤ 40 * x.v.bulk:=by
 induction x using Stm.ind with
 | h k s e a b iha ihb =>
  intro lv ind hv ok hi
  obtain ⟨v1,v2,v3,v4,v5,v6,v7,v8,v9,v10,v11⟩:=VS_mk.1 hv
  obtain ⟨_,hs,_,hla,hlb,oke,oka,okb⟩:=Ziq ok
  have g:∀ (l:List Stm),Zbe l (ind + 2)=sumL (fun x=>llen x (ind + 2)) l:=fun l=>by
   induction l with
   | nil=>rfl
   | cons x l ih=>rw [Zbe,sumL,ih]
  have h1:Zbe a (ind + 2) ≤ 40 * V.bulks (a.map Stm.v):=by
   rw [g]
   exact Zch fun x hx=>iha x hx (lv + 1) (ind + 2) (VSs_all.1 v10 x hx) (oka x hx) (by omega)
  have h2:Zbe b (ind + 2) ≤ 40 * V.bulks (b.map Stm.v):=by
   rw [g]
   exact Zch fun x hx=>ihb x hx (lv + 1) (ind + 2) (VSs_all.1 v11 x hx) (okb x hx) (by omega)
  have h3:sumL tlen e ≤ 4 * V.bulks (e.map Exp.v):=Zch fun x hx=>Zui x (oke x hx)
  have h4:=at0_sum (l:=e.map tlen)
  rw [Zl0] at h4
  have h5:sumL (fun x=>tlen x) e=sumL tlen e:=rfl
  have e:llen (.mk k s e a b) ind=Zdo k s (e.map tlen) (Zbe a (ind + 2)) (Zbe b (ind + 2)) b.length ind:=by rw [llen]
  rw [e,Zye]
  unfold Zdo
  repeat' split
  all_goals omega
theorem Zwf {p:Prg} (ok:POk p) (hv:VSs p.body 1):flen p ≤ 40 * p.v.bulk:=by
 have h1:sumL ilen p.ins ≤ 40 * V.bulks (p.ins.map InD.v):=Zch fun x hx=>by
  obtain ⟨s,f,w,z⟩:=x
  have hx:=ok.ins _ hx
  have g:∀ {n:Int},I64 n→dlen n.toNat ≤ 20:=fun h=>Zcy (by have:=h.2; omega)
  have a1:=g hx.f
  have a2:=g hx.w
  have a3:=g hx.s
  simp only at a1 a2 a3
  have hb:(InD.v ⟨s,f,w,z⟩).bulk=5 + s.size:=by simp only [InD.v,InD.cells,V.bulk,V.bulks]; omega
  rw [hb]
  unfold ilen
  simp only
  split <;> omega
 have h2:sumL alen p.arrays ≤ 40 * V.bulks (p.arrays.map ArD.v):=Zch fun x hx=>by
  obtain ⟨s,z⟩:=x
  have hx:=ok.arrays _ hx
  have g:∀ {n:Int},I64 n→dlen n.toNat ≤ 20:=fun h=>Zcy (by have:=h.2; omega)
  have a3:=g hx.s
  simp only at a3
  have hb:(ArD.v ⟨s,z⟩).bulk=3 + s.size:=by simp only [ArD.v,ArD.cells,V.bulk,V.bulks]; omega
  rw [hb]
  unfold alen
  simp only
  omega
 have h3:Zbe p.body 0 ≤ 40 * V.bulks (p.body.map Stm.v):=by
  have g:∀ (l:List Stm),Zbe l 0=sumL (fun x=>llen x 0) l:=fun l=>by
   induction l with
   | nil=>rfl
   | cons x l ih=>rw [Zbe,sumL,ih]
  rw [g]
  exact Zch fun x hx=>Zvv x 1 0 (VSs_all.1 hv x hx) (ok.body x hx) (by omega)
 rw [prg_bulk]
 unfold flen
 omega
end Go.Ab
namespace Go.Ab
def errT (r:TR TS):Int:=match r with | .ok _=>0 | .error e=>e
def Zvo (r:TR TS):Nat:=match r with | .ok σ=>σ.most | .error _=>0
structure VT (p:Prg):Prop where
 ok:POk p
 body:VSs p.body 1
 ins:∀ d ∈ p.ins,VIn d
 ars:∀ d ∈ p.arrays,VAr d
theorem VP.vt {p:Prg} (h:VP p) (ok:POk p):VT p:=⟨ok,h.body,h.ins,h.arrays⟩
structure UpH (h h':H):Prop where
 nx:h.next ≤ h'.next
 old:∀ j,j < h.next→h'.objs j=h.objs j
theorem UpH.refl (h:H):UpH h h:=⟨Nat.le_refl _,fun _ _=>rfl⟩
theorem UpH.trans {h h' h'':H} (a:UpH h h') (b:UpH h' h''):UpH h h'':=⟨Nat.le_trans a.nx b.nx,fun j hj=>by rw [b.old j (Nat.lt_of_lt_of_le hj a.nx),a.old j hj]⟩
namespace YtihjhelbdbeokaaGreatDoor
section
variable {h:H} {K:Out→H→Prop} {p:Nat}
theorem gone2 {p:Prg} (v:VT p) (hK:∀ h',UpH h h'→K (.ret (.tuple [I (Zvo (Zbl p)),I (errT (Zbl p))])) h'):R 58 [p.v] h K:=by
 refine goneG v.ok v.body v.ins v.ars ?_
 cases hc:Zbl p with
 | ok σ=>rw [hc] at hK; exact fun h' a b=>hK h' ⟨a,b⟩
 | error e=>rw [hc] at hK; exact fun h' a b=>hK h' ⟨a,b⟩
theorem checkG {p:Prg} (v:VT p) (hK:∀ h',UpH h h'→K (.ret (I (errT (Zbl p)))) h'):R 69 [p.v] h K:=by
 refine run69 (Nat.le_of_ble_eq_true rfl) ?_
 have hv0:p.v=V.agg [.vec (p.ins.map InD.v) .any,.vec (p.arrays.map ArD.v) .any,.vec (p.body.map Stm.v) .any]:=rfl
 simp -dsimp -implicitDefEqProofs only [↓STP,STQ,seval,ir69,hv0]
 rw [← hv0]
 refine gone2 v fun h' u=>?_
 simp -dsimp -implicitDefEqProofs only [↓STP,STQ,seval]
 exact hK h' u
end
end YtihjhelbdbeokaaGreatDoor
end Go.Ab
namespace Go.Ab
theorem TOk_init {p:Prg} (hin:∀ d ∈ p.ins,VIn d) (har:∀ d ∈ p.arrays,VAr d):TOk p (Zh3 p):=by
 refine ⟨⟨(fun s k w h=>by cases h),(fun s n h=>by cases h),by simp [Zh3],fun i l d hl hd=>?_⟩,Nat.zero_le _,by have:=Zvq hin; show maxI p.ins ≤ 60; omega⟩
 have hl:(p.arrays.map fun d=>List.replicate d.size.toNat 1)[i]?=some l:=hl
 rw [List.getElem?_map,hd] at hl
 cases hl
 have:=(har d (List.mem_of_getElem? hd)).s1
 refine ⟨by rw [List.length_replicate]; omega,fun w hw=>?_⟩
 have:=(List.mem_replicate.1 hw).2
 omega
theorem PV_of {p:Prg} (v:VT p) (h:Zgl p=true):PV p:=
 ⟨fun d hd=>⟨(v.ins d hd).w1,(v.ins d hd).w2,(v.ins d hd).s1,(v.ins d hd).s2⟩,fun d hd=>⟨(v.ars d hd).s1,(v.ars d hd).s2⟩,of_decide_eq_true h⟩
def Nz {α:Type} (r:TR α):Prop:=∀ e,r=.error e→e ≠ 0
theorem Nz.ok {α:Type} {a:α}:Nz (.ok a:TR α):=fun e h=>by cases h
theorem Nz.err {α:Type} {e:Int} (h:e ≠ 0):Nz (.error e:TR α):=fun e' h'=>by cases h'; exact h
theorem Nz.and {α β:Type} {r:TR α} {f:α→TR β} (h:Nz r) (hf:∀ a,Nz (f a)):Nz (andT r f):=by
 cases r with
 | ok a=>exact hf a
 | error e=>exact fun e' h'=>h e' (by cases h'; rfl)
theorem Nz.ite {α:Type} {c:Prop} [Decidable c] {a b:TR α} (ha:Nz a) (hb:Nz b):Nz (if c then a else b):=by
 split
 ·exact ha
 ·exact hb
theorem Zg9 {k:Kn} {z:Int}:Nz (Zb0 k z):=.ite (.err (by decide)) (.ite (.err (by decide)) .ok)
theorem Zq5 {p:Prg} {σ:TE} {k o:Int} {n:Nat} {s:ByteArray} {l:List Kn}:Nz (Zjq p σ k o n s l):=by
 unfold Zjq
 refine .ite .ok (.ite ?_ (.ite ?_ (.ite ?_ (.ite (.ite (.err (by decide)) .ok) (.ite (.err (by decide)) .ok)))))
 ·unfold Zjo
  split
  ·exact .ok
  ·split
   ·exact .ok
   ·split
    ·exact .ite .ok (.err (by decide))
    ·exact .err (by decide)
 ·unfold Ze9
  split
  ·exact .and Zg9 fun _=>.ok
  ·split
   ·exact .ite (.err (by decide)) (.and Zg9 fun _=>.ok)
   ·exact .err (by decide)
 ·unfold opK
  exact .ite (.err (by decide)) (.ite .ok (.ite .ok (.ite .ok .ok)))
theorem Zx5 {m:Nat} {k:Kn}:Nz (Zf8 m k):=.ite (.ite (.err (by decide)) .ok) .ok
theorem Zfg {p:Prg} {σ:TE}:∀ {l:List Exp},(∀ x ∈ l,Nz (Zdy p σ x))→Nz (Za9 p σ l)
 | [],_=>by rw [Za9]; exact .ok
 | x :: xs,h=>by
  rw [Za9]
  exact .and (h x (by simp)) fun _=>.and (Zfg fun y hy=>h y (by simp [hy])) fun _=>.ok
theorem Zmr {p:Prg} {σ:TE} (e:Exp):Nz (Zdy p σ e):=by
 induction e using Exp.ind with
 | h k o n s ks ih =>
  rw [Zdy]
  exact .and (Zfg ih) fun _=>.and Zq5 fun _=>Zx5
theorem Zl1 {σ:TS}:Nz (Zhu σ):=.ite (.err (by decide)) .ok
theorem Zq8 {f:Nat→TS→TR TS} (h:∀ n σ,Nz (f n σ)):∀ c n σ,Nz (Zgu f c n σ)
 | 0,n,σ=>by rw [Zgu]; exact .ok
 | c + 1,n,σ=>by rw [Zgu]; exact .and (h n σ) fun _=>Zq8 h c (n + 1) _
theorem Zyd {p:Prg} {k:Int} {s:ByteArray} {l:List Kn} {fa fb:TS→TR TS} (ha:∀ σ,Nz (fa σ)) (hb:∀ σ,Nz (fb σ)) {σ:TS}:Nz (Zg4 p k s l fa fb σ):=by
 unfold Zg4
 refine .ite ?_ (.ite ?_ (.ite ?_ (.ite ?_ (.ite (.err (by decide)) .ok))))
 ·exact .ite (.err (by decide)) .ok
 ·unfold Zkt
  split
  ·exact .err (by decide)
  ·exact .and Zg9 fun _=>.ite (.err (by decide)) .ok
 ·exact .ite (.err (by decide)) (.and (ha _) fun _=>.and (hb _) fun _=>.ok)
 ·exact .ite (.err (by decide)) (.ite (.err (by decide)) (Zq8 (fun n τ=>.and Zl1 fun _=>.and (ha _) fun _=>.ok) _ _ _))
end Go.Ab
namespace Go.Ab
structure RS where
 vars:ByteArray→Option Nat
 inw:ByteArray→List Nat
 words:List (List Nat)
 told:List Nat
def oneIf (c:Prop) [Decidable c]:Nat:=if c then 1 else 0
def opX (o:Int) (a b:Nat):Nat:=
 if o=1 then a + b else if o=2 then a - b else if o=3 then a * b else if o=4 then oneIf (a < b) else if o=5 then oneIf (a=b)
 else if o=6 then oneIf (a=1∧b=1) else oneIf (a=1∨b=1)
def rdX (p:Prg) (s:RS) (x:ByteArray) (i:Nat):Nat:=match arOf p x with
 | some j=>(s.words.getD j []).getD i 0
 | none=>(s.inw x).getD i 0
def valOf (p:Prg) (s:RS) (k o:Int) (n:Nat) (x:ByteArray) (l:List Nat):Nat:=
 if k=1 then n else if k=2 then (s.vars x).getD 0 else if k=3 then rdX p s x (l.getD 0 0) else if k=4 then opX o (l.getD 0 0) (l.getD 1 0)
 else if k=5 then 1 - l.getD 0 0 else if l.getD 0 0=1 then l.getD 1 0 else l.getD 2 0
mutual
def valX (p:Prg) (s:RS):Exp→Nat
 | .mk k o n x ks=>valOf p s k o n x (valsX p s ks)
def valsX (p:Prg) (s:RS):List Exp→List Nat
 | []=>[]
 | e :: es=>valX p s e :: valsX p s es
end
def setM (f:ByteArray→Option Nat) (x:ByteArray) (v:Option Nat):ByteArray→Option Nat:=fun t=>if t=x then v else f t
structure VFit (k:Kn) (v:Nat):Prop where
 num:k.kind=1→v < 2 ^ k.w
 boo:k.kind=2→v ≤ 1
 is:k.is=true→v=k.val
structure AgE (p:Prg) (σ:TE) (s:RS):Prop where
 vars:∀ x k w,σ.vars x=some (k,w)→∃ v,s.vars x=some v∧(k=1→v < 2 ^ w)∧(k=2→v ≤ 1)
 loops:∀ x n,Zaj x σ.loops=some n→s.vars x=some n∧σ.vars x=none
 ins:∀ x d,inOf p x=some d→d.size=0→∃ v,s.vars x=some v∧v < 2 ^ d.width.toNat
 inw:∀ x d,inOf p x=some d→d.size ≠ 0→((s.inw x).length:Int)=d.size∧∀ n,(s.inw x).getD n 0 < 2 ^ d.width.toNat
 wl:s.words.length=σ.words.length
 words:∀ (i:Nat) (l l':List Nat),σ.words[i]?=some l→s.words[i]?=some l'→l'.length=l.length∧∀ n,l'.getD n 0 < 2 ^ l.getD n 0
structure Ag (p:Prg) (σ:TS) (s:RS):Prop where
 env:AgE p σ.env s
 told:∀ v ∈ s.told,v < 2 ^ max σ.most 1
 few:s.told.length ≤ σ.steps
theorem Ag.mono {p:Prg} {σ σ':TS} {s:RS} (a:Ag p σ s) (he:σ'.env=σ.env) (hs:σ.steps ≤ σ'.steps) (hm:σ.most ≤ σ'.most):Ag p σ' s:=
 ⟨by rw [he]; exact a.env,fun v hv=>Nat.lt_of_lt_of_le (a.told v hv) (Nat.pow_le_pow_right (by decide) (by omega)),Nat.le_trans a.few hs⟩
inductive VFits:List Nat→List Kn→Prop
 | nil:VFits [] []
 | cons {v:Nat} {k:Kn} {l:List Nat} {ks:List Kn}:VFit k v→VFits l ks→VFits (v :: l) (k :: ks)
theorem VFits.nth:∀ {l:List Nat} {ks:List Kn},VFits l ks→∀ i,VFit (nthK ks i) (l.getD i 0)
 | _,_,.nil,i=>⟨fun h=>absurd (show (2:Int)=1 from h) (by decide),fun _=>Nat.zero_le _,fun h=>absurd (show false=true from h) (by decide)⟩
 | _,_,.cons a b,0=>a
 | _,_,.cons a b,i + 1=>b.nth i
theorem VFits.of {p:Prg} {σ:TE} {s:RS}:∀ {l:List Exp},(∀ x ∈ l,∀ r m,Zdy p σ x=.ok (r,m)→VFit r (valX p s x))→∀ ks m,Za9 p σ l=.ok (ks,m)→VFits (l.map (valX p s)) ks
 | [],_,ks,m,h=>by rw [Za9] at h; cases h; exact .nil
 | e :: es,ih,ks,m,h=>by
  rw [Za9] at h
  obtain ⟨⟨a,ma⟩,h1,h⟩:=Zb5 h
  obtain ⟨⟨b,mb⟩,h2,h⟩:=Zb5 h
  cases h
  exact .cons (ih e (by simp) a ma h1) (VFits.of (fun x hx=>ih x (by simp [hx])) b mb h2)
theorem fit_con {n:Nat}:VFit (kcon n) n:=⟨fun _=>lt_wid n,fun h=>absurd (show (1:Int)=2 from h) (by decide),fun _=>rfl⟩
theorem Zpm {n w:Nat} (h:n < 2 ^ w):VFit (knum w) n:=⟨fun _=>h,fun h=>absurd (show (1:Int)=2 from h) (by decide),fun h=>absurd (show false=true from h) (by decide)⟩
theorem Zk0 {k:Kn} {z:Int} {n:Nat} (h:Zb0 k z=.ok n):k.kind=1∧k.is=true∧n=k.val∧(n:Int) < z:=by
 unfold Zb0 at h
 split at h
 ·cases h
 ·rename_i hc
  split at h
  ·cases h
  ·rename_i hz
   cases h
   have h1:k.kind=1:=Decidable.byContradiction fun q=>hc (.inl q)
   have h2:k.is=true:=by
    cases q:k.is with
    | true=>rfl
    | false=>exact absurd (.inr q) hc
   exact ⟨h1,h2,rfl,by omega⟩
theorem AgE.name {p:Prg} {σ:TE} {s:RS} (a:AgE p σ s) {x:ByteArray} {r:Kn} (h:Zjo p σ x=.ok r):∃ v,s.vars x=some v∧VFit r v:=by
 unfold Zjo at h
 split at h
 ·rename_i n hn
  cases h
  exact ⟨n,(a.loops x n hn).1,fit_con⟩
 ·split at h
  ·rename_i k w hv
   cases h
   obtain ⟨v,h1,h2,h3⟩:=a.vars x k w hv
   exact ⟨v,h1,⟨h2,h3,fun h=>absurd (show false=true from h) (by decide)⟩⟩
  ·split at h
   ·rename_i d hd
    split at h
    ·rename_i hz
     cases h
     obtain ⟨v,h1,h2⟩:=a.ins x d hd hz
     exact ⟨v,h1,Zpm h2⟩
    ·cases h
   ·cases h
theorem AgE.index {p:Prg} {σ:TE} {s:RS} (a:AgE p σ s) (ok:EOkT p σ) {x:ByteArray} {k r:Kn} {v:Nat} (hv:VFit k v) (h:Ze9 p σ x k=.ok r) :
  VFit r (rdX p s x v)∧((∃ j d,arOf p x=some j∧p.arrays[j]?=some d∧d.name=x∧((s.words.getD j []).length:Int)=d.size∧j < s.words.length∧v < (s.words.getD j []).length)∨(∃ d,arOf p x=none∧inOf p x=some d∧d.size ≠ 0∧((s.inw x).length:Int)=d.size∧v < (s.inw x).length)):=by
 unfold Ze9 at h
 unfold rdX
 cases c:arOf p x with
 | some j =>
  rw [c] at h
  simp only at h ⊢
  obtain ⟨n,h1,h2⟩:=Zb5 h
  cases h2
  obtain ⟨d,hd,hn,hg⟩:=Zc0 c
  rw [hg] at h1
  obtain ⟨p1,p2,p3,p4⟩:=Zk0 h1
  have e:v=n:=by rw [hv.is p2,p3]
  subst e
  have jl:j < p.arrays.length:=(List.getElem?_eq_some_iff.1 hd).1
  have jl1:j < σ.words.length:=by rw [ok.wlen]; exact jl
  have jl2:j < s.words.length:=by rw [a.wl]; exact jl1
  obtain ⟨w1,w2⟩:=a.words j _ _ (List.getElem?_eq_getElem jl1) (List.getElem?_eq_getElem jl2)
  have w3:=(ok.words j _ d (List.getElem?_eq_getElem jl1) hd).1
  have g1:s.words.getD j []=s.words[j]:=by rw [List.getD_eq_getElem?_getD,List.getElem?_eq_getElem jl2]; rfl
  have g2:σ.words.getD j []=σ.words[j]:=by rw [List.getD_eq_getElem?_getD,List.getElem?_eq_getElem jl1]; rfl
  rw [g1,g2]
  exact ⟨Zpm (w2 _),.inl ⟨j,d,rfl,hd,hn,by rw [g1]; omega,jl2,by rw [g1]; omega⟩⟩
 | none =>
  rw [c] at h
  simp only at h ⊢
  split at h
  ·rename_i d hd
   split at h
   ·cases h
   ·rename_i hz
    obtain ⟨n,h1,h2⟩:=Zb5 h
    cases h2
    obtain ⟨p1,p2,p3,p4⟩:=Zk0 h1
    have e:v=n:=by rw [hv.is p2,p3]
    subst e
    obtain ⟨i1,i2⟩:=a.inw x d hd hz
    exact ⟨Zpm (i2 _),.inr ⟨d,trivial,hd,hz,i1,by omega⟩⟩
  ·cases h
theorem VFit.cond {k r:Kn} {v:Nat} (h:VFit k v) (hk:r.kind=k.kind) (hw:k.w ≤ r.w) (hi:r.is=false):VFit r v:=
 ⟨fun h1=>Nat.lt_of_lt_of_le (h.num (hk ▸ h1)) (Nat.pow_le_pow_right (by decide) hw),fun h1=>h.boo (hk ▸ h1),fun h1=>by rw [hi] at h1; cases h1⟩
end Go.Ab
namespace Go.Ab
theorem Zl3 {f:ByteArray→Option Nat} {x t:ByteArray} {v:Option Nat}:setM f x v t=if t=x then v else f t:=rfl
theorem Zuj {p:Prg} {σ:TE} {x:ByteArray} (h:¬ Zdl p σ x=true):inOf p x=none∧arOf p x=none∧Zaj x σ.loops=none:=by
 unfold Zdl at h
 refine ⟨?_,?_,?_⟩
 ·cases c:inOf p x with
  | none=>rfl
  | some d=>exact absurd (by rw [c]; rfl) h
 ·cases c:arOf p x with
  | none=>rfl
  | some d=>exact absurd (by rw [c]; cases inOf p x <;> rfl) h
 ·cases c:Zaj x σ.loops with
  | none=>rfl
  | some d=>exact absurd (by rw [c]; cases inOf p x <;> cases arOf p x <;> rfl) h
theorem AgE.set {p:Prg} {σ:TE} {s:RS} (a:AgE p σ s) {x:ByteArray} (ht:¬ Zdl p σ x=true) {u:Option (Int × Nat)} {v:Option Nat} (h:∀ k w,u=some (k,w)→∃ n,v=some n∧(k=1→n < 2 ^ w)∧(k=2→n ≤ 1)) :
  AgE p { σ with vars:=setV σ.vars x u } { s with vars:=setM s.vars x v }:=by
 obtain ⟨t1,t2,t3⟩:=Zuj ht
 refine ⟨fun t k w hv=>?_,fun t n hn=>?_,fun t d hd hz=>?_,a.inw,a.wl,a.words⟩
 ·have hv:setV σ.vars x u t=some (k,w):=hv
  show ∃ v',setM s.vars x v t=some v'∧_
  unfold setV at hv
  rw [Zl3]
  by_cases c:t=x
  ·rw [if_pos c] at hv ⊢; exact h k w hv
  ·rw [if_neg c] at hv ⊢; exact a.vars t k w hv
 ·have hn:Zaj t σ.loops=some n:=hn
  have c:t ≠ x:=fun e=>by rw [e,t3] at hn; cases hn
  obtain ⟨l1,l2⟩:=a.loops t n hn
  exact ⟨by show setM s.vars x v t=_; rw [Zl3,if_neg c]; exact l1,by show setV σ.vars x u t=_; unfold setV; rw [if_neg c]; exact l2⟩
 ·have c:t ≠ x:=fun e=>by rw [e,t1] at hd; cases hd
  obtain ⟨w,l1,l2⟩:=a.ins t d hd hz
  exact ⟨w,by show setM s.vars x v t=_; rw [Zl3,if_neg c]; exact l1,l2⟩
end Go.Ab
namespace Go.Ab
theorem wid_one:wid 1=1:=by
 unfold wid
 rw [Zds (by decide),show (1:Nat) / 2=0 from rfl,Zfl]; rfl
def nmV (r:ByteArray × Kn):V:=.agg [.str r.1,I r.2.kind,I r.2.w,.bool r.2.is,W r.2.val]
def ixI (s:ByteArray) (l:List ByteArray):Int:=match l.findIdx? (fun a=>decide (a=s)) with
 | some i=>(i:Int)
 | none=>-1
theorem Zv4 {s:ByteArray} {l:List ByteArray} {j:Nat} (h:∀ a ∈ l.take j,a ≠ s) (hj:l[j]?=some s):ixI s l=j:=by
 have hlt:j < l.length:=by
  rcases Nat.lt_or_ge j l.length with h' | h'
  ·exact h'
  ·rw [List.getElem?_eq_none h'] at hj; cases hj
 have:l.findIdx? (fun a=>decide (a=s))=some j:=by
  rw [List.findIdx?_eq_some_iff_getElem]
  rw [List.getElem?_eq_getElem hlt] at hj
  refine ⟨hlt,by simpa using hj,fun i hi=>?_⟩
  have hm:l[i] ∈ l.take j:=by
   rw [List.mem_take_iff_getElem]
   exact ⟨i,by omega,rfl⟩
  simpa using h _ hm
 unfold ixI; rw [this]
theorem Zpj {s:ByteArray} {l:List ByteArray} (h:∀ a ∈ l,a ≠ s):ixI s l=-1:=by
 have:l.findIdx? (fun a=>decide (a=s))=none:=by
  rw [List.findIdx?_eq_none_iff]
  intro a ha
  simpa using h a ha
 unfold ixI; rw [this]
theorem Zg2 {s:ByteArray} {l:List ByteArray} {j:Nat} {a:ByteArray} (h:∀ a ∈ l.take j,a ≠ s) (hj:l[j]?=some a) (ha:a ≠ s):∀ a ∈ l.take (j + 1),a ≠ s:=by
 intro b hb
 rw [List.take_add_one,hj] at hb
 rcases List.mem_append.1 hb with hb | hb
 ·exact h b hb
 ·simp at hb; subst hb; exact ha
namespace YtihjhelbdbeokaaGreatDoor
section
variable {h:H} {K:Out→H→Prop} {p:Prg}
theorem width29 {n:Nat} (hn:n < 18446744073709551616) (hK:K (.ret (I (wid n))) h):R 77 [W n] h K:=by
 refine run77 (Nat.le_of_ble_eq_true rfl) ?_
 simp -dsimp -implicitDefEqProofs only [↓STP,STQ,seval,ir77]
 refine Zai (fun k st=>∃ m w:Nat,k=m∧m ≤ n∧wid n + 1=w + wid m∧st=⟨upd (upd ρ0 0 (W m)) 3 (I w),m0,0,[],h⟩) (i:=n) ⟨n,1,rfl,Nat.le_refl _,by omega,by simp -dsimp -implicitDefEqProofs only [↓STP,STQ,seval] <;> rfl⟩ ?_ mono
 rintro m st ⟨_,w,rfl,hm,hw,rfl⟩
 have hle:wid n ≤ 64:=wid_le (k:=64) (by omega) (by decide)
 have hp:=wid_pos m
 by_cases c:(1:Int) < (m:Int)
 ·have q1:IntKind.u64.wrap (Int.tdiv (m:Int) 2)=((m / 2:Nat):Int):=by
   rw [show Int.tdiv (m:Int) 2=((m / 2:Nat):Int) from rfl,Zay] <;> omega
  have q2:IntKind.i64.wrap ((w:Int) + 1)=((w + 1:Nat):Int):=wi (by omega)
  have hb:wid m=wid (m / 2) + 1:=by
   unfold wid
   rw [Zds (show m ≠ 0 by omega)]
   have:1 ≤ blen (m / 2):=by rw [Zds (show m / 2 ≠ 0 by omega)]; omega
   omega
  simp -dsimp -implicitDefEqProofs only [↓STP,STQ,seval,eq_true c,q1,q2]
  exact ⟨m / 2,by omega,m / 2,w + 1,rfl,by omega,by omega,rfl⟩
 ·have h1:wid m=1:=by
   rcases (show m=0∨m=1 by omega) with rfl | rfl
   ·unfold wid; rw [Zfl]; rfl
   ·exact wid_one
  simp -dsimp -implicitDefEqProofs only [↓STP,STQ,seval,eq_false c]
  rw [show wid n=w by omega] at hK
  exact hK
theorem Zwh {l:List (ByteArray × Kn)} {s:ByteArray} (hl:l.length ≤ 9223372036854775807) (hK:K (.ret (I (ixI s (l.map (·.1))))) h):R 161 [.vec (l.map nmV) .any,.str s] h K:=by
 refine run161 (Nat.le_of_ble_eq_true rfl) ?_
 simp -dsimp -implicitDefEqProofs only [↓STP,STQ,seval,ir161]
 refine Zao (N:=l.length) (fun j=>⟨upd (upd (upd ρ0 0 (.vec (l.map nmV) .any)) 1 (.str s)) 5 (I j),m0,0,[],h⟩) (fun j=>∀ a ∈ (l.map (·.1)).take j,a ≠ s) (by simp -dsimp -implicitDefEqProofs only [↓STP,STQ,seval] <;> rfl) (by simp) (fun j hj pj=>?_) (fun pj=>?_) mono
 ·have g:(l.map nmV)[j]?=some (nmV l[j]):=by rw [List.getElem?_map,List.getElem?_eq_getElem hj]; rfl
  have g':(l.map (·.1))[j]?=some l[j].1:=by rw [List.getElem?_map,List.getElem?_eq_getElem hj]; rfl
  have lj:(j:Int) < (l.length:Int):=by omega
  by_cases c:l[j].1=s
  ·simp -dsimp -implicitDefEqProofs only [↓STP,STQ,seval,List.length_map,eq_true lj,g,nmV,c,binS,beqS,eq_self]
   rw [Zv4 pj (g'.trans (by rw [c]))] at hK
   exact hK
  ·simp -dsimp -implicitDefEqProofs only [↓STP,STQ,seval,List.length_map,eq_true lj,g,nmV,eq_false c,binS,beqS,wiM (show j < 9223372036854775807 by omega)]
   exact Zg2 pj g' c
 ·have lj:¬ (l.length:Int) < (l.length:Int):=by omega
  simp -dsimp -implicitDefEqProofs only [↓STP,STQ,seval,List.length_map,eq_false lj]
  rw [Zpj (by rw [List.take_of_length_le (by simp)] at pj; exact pj)] at hK
  exact hK
theorem Zv7 {s:ByteArray} (hl:p.ins.length ≤ 9223372036854775807) (hK:K (.ret (I (ixI s (p.ins.map InD.name)))) h):R 160 [p.v,.str s] h K:=by
 refine run160 (Nat.le_of_ble_eq_true rfl) ?_
 have hv0:p.v=V.agg [.vec (p.ins.map InD.v) .any,.vec (p.arrays.map ArD.v) .any,.vec (p.body.map Stm.v) .any]:=rfl
 simp -dsimp -implicitDefEqProofs only [↓STP,STQ,seval,ir160,hv0]
 refine Zao (N:=p.ins.length) (fun j=>⟨upd (upd (upd ρ0 1 (.str s)) 2 (.lptr 0 3 0)) 5 (I j),upd m0 0 (some [.vec (p.ins.map InD.v) .any,.vec (p.arrays.map ArD.v) .any,.vec (p.body.map Stm.v) .any]),1,[],h⟩) (fun j=>∀ a ∈ (p.ins.map InD.name).take j,a ≠ s) (by simp -dsimp -implicitDefEqProofs only [↓STP,STQ,seval] <;> rfl) (by simp) (fun j hj pj=>?_) (fun pj=>?_) mono
 ·have g:(p.ins.map InD.v)[j]?=some (InD.v p.ins[j]):=by rw [List.getElem?_map,List.getElem?_eq_getElem hj]; rfl
  have g':(p.ins.map InD.name)[j]?=some p.ins[j].name:=by rw [List.getElem?_map,List.getElem?_eq_getElem hj]; rfl
  have lj:(j:Int) < (p.ins.length:Int):=by omega
  by_cases c:p.ins[j].name=s
  ·simp -dsimp -implicitDefEqProofs only [↓STP,STQ,seval,List.length_map,eq_true lj,g,Zak,c,binS,beqS,eq_self]
   rw [Zv4 pj (g'.trans (by rw [c]))] at hK
   exact hK
  ·simp -dsimp -implicitDefEqProofs only [↓STP,STQ,seval,List.length_map,eq_true lj,g,Zak,eq_false c,binS,beqS,wiM (show j < 9223372036854775807 by omega)]
   exact Zg2 pj g' c
 ·have lj:¬ (p.ins.length:Int) < (p.ins.length:Int):=by omega
  simp -dsimp -implicitDefEqProofs only [↓STP,STQ,seval,List.length_map,eq_false lj]
  rw [Zpj (by rw [List.take_of_length_le (by simp)] at pj; exact pj)] at hK
  exact hK
theorem Zxi {s:ByteArray} (hl:p.arrays.length ≤ 9223372036854775807) (hK:K (.ret (I (ixI s (p.arrays.map ArD.name)))) h):R 134 [p.v,.str s] h K:=by
 refine run134 (Nat.le_of_ble_eq_true rfl) ?_
 have hv0:p.v=V.agg [.vec (p.ins.map InD.v) .any,.vec (p.arrays.map ArD.v) .any,.vec (p.body.map Stm.v) .any]:=rfl
 have av:∀ d:ArD,d.v=.agg [.str d.name,I d.size]:=fun d=>rfl
 simp -dsimp -implicitDefEqProofs only [↓STP,STQ,seval,ir134,hv0]
 refine Zao (N:=p.arrays.length) (fun j=>⟨upd (upd (upd ρ0 1 (.str s)) 2 (.lptr 0 3 0)) 5 (I j),upd m0 0 (some [.vec (p.ins.map InD.v) .any,.vec (p.arrays.map ArD.v) .any,.vec (p.body.map Stm.v) .any]),1,[],h⟩) (fun j=>∀ a ∈ (p.arrays.map ArD.name).take j,a ≠ s) (by simp -dsimp -implicitDefEqProofs only [↓STP,STQ,seval] <;> rfl) (by simp) (fun j hj pj=>?_) (fun pj=>?_) mono
 ·have g:(p.arrays.map ArD.v)[j]?=some (ArD.v p.arrays[j]):=by rw [List.getElem?_map,List.getElem?_eq_getElem hj]; rfl
  have g':(p.arrays.map ArD.name)[j]?=some p.arrays[j].name:=by rw [List.getElem?_map,List.getElem?_eq_getElem hj]; rfl
  have lj:(j:Int) < (p.arrays.length:Int):=by omega
  by_cases c:p.arrays[j].name=s
  ·simp -dsimp -implicitDefEqProofs only [↓STP,STQ,seval,List.length_map,eq_true lj,g,av,c,binS,beqS,eq_self]
   rw [Zv4 pj (g'.trans (by rw [c]))] at hK
   exact hK
  ·simp -dsimp -implicitDefEqProofs only [↓STP,STQ,seval,List.length_map,eq_true lj,g,av,eq_false c,binS,beqS,wiM (show j < 9223372036854775807 by omega)]
   exact Zg2 pj g' c
 ·have lj:¬ (p.arrays.length:Int) < (p.arrays.length:Int):=by omega
  simp -dsimp -implicitDefEqProofs only [↓STP,STQ,seval,List.length_map,eq_false lj]
  rw [Zpj (by rw [List.take_of_length_le (by simp)] at pj; exact pj)] at hK
  exact hK
theorem Zme {w:Nat} (hK:K (.ret (knum w).v) h):R 218 [I w] h K:=by
 refine run218 (Nat.le_of_ble_eq_true rfl) ?_
 simp -dsimp -implicitDefEqProofs only [↓STP,STQ,seval,ir218,Zad]
 exact hK
theorem Zwl {n:Nat} (hn:n < 18446744073709551616) (hK:K (.ret (kcon n).v) h):R 164 [W n] h K:=by
 refine run164 (Nat.le_of_ble_eq_true rfl) ?_
 simp -dsimp -implicitDefEqProofs only [↓STP,STQ,seval,ir164]
 refine width29 hn ?_
 simp -dsimp -implicitDefEqProofs only [↓STP,STQ,seval,Zad]
 exact hK
theorem Zxy {k:Kn} (hK:K (.ret (Kn.mk k.kind k.w false 0).v) h):R 133 [k.v] h K:=by
 refine run133 (Nat.le_of_ble_eq_true rfl) ?_
 simp -dsimp -implicitDefEqProofs only [↓STP,STQ,seval,ir133,Zab,Zad]
 exact hK
theorem Zva {k:Kn} {size:Int} (hs:0 ≤ size) (hs2:size ≤ 9223372036854775807) (hv:k.val < 1152921504606846976) (hK:Ans (Zb0 k size) (fun n=>K (.ret (.tuple [I n,I 0])) h) (fun e=>K (.ret (.tuple [I 0,I e])) h)):R 135 [k.v,I size] h K:=by
 refine run135 (Nat.le_of_ble_eq_true rfl) ?_
 have w1:IntKind.u64.wrap size=size:=Zay hs (by omega)
 have w2:IntKind.i64.wrap (k.val:Int)=(k.val:Int):=wrap_i64 (by omega) (by omega)
 unfold Zb0 at hK
 by_cases c:k.kind=1
 ·cases ci:k.is with
  | false =>
   rw [if_pos (.inr ci)] at hK
   simp -dsimp -implicitDefEqProofs only [↓STP,STQ,seval,ir135,Zab,eq_true c,ci]
   exact hK
  | true =>
   rw [if_neg (by simp [c,ci])] at hK
   by_cases cs:size ≤ (k.val:Int)
   ·rw [if_pos cs] at hK
    simp -dsimp -implicitDefEqProofs only [↓STP,STQ,seval,ir135,Zab,eq_true c,ci,w1,eq_true cs]
    exact hK
   ·rw [if_neg cs] at hK
    simp -dsimp -implicitDefEqProofs only [↓STP,STQ,seval,ir135,Zab,eq_true c,ci,w1,eq_false cs,w2]
    exact hK
 ·rw [if_pos (.inl c)] at hK
  simp -dsimp -implicitDefEqProofs only [↓STP,STQ,seval,ir135,Zab,eq_false c]
  exact hK
theorem Zi0 {l:List (ByteArray × Kn)}:∀ e ∈ l.map nmV,e.cells.length=5:=by
 intro e he
 obtain ⟨r,_,rfl⟩:=List.mem_map.1 he
 rfl
theorem Zmf {l:List (ByteArray × Kn)}:∀ e ∈ l.map nmV,e.cells.length=5∧mkEl true e.cells=e:=by
 intro e he
 obtain ⟨r,_,rfl⟩:=List.mem_map.1 he
 exact ⟨rfl,rfl⟩
theorem Zqh {l:List (ByteArray × Kn)} {s:ByteArray} (hl:l.length ≤ 1000000) (hK:K (.ret (.vec ((l.filter fun r=>decide (r.1 ≠ s)).map nmV) (.own 0))) h):R 132 [.vec (l.map nmV) .any,.str s] h K:=by
 refine run132 (Nat.le_of_ble_eq_true rfl) ?_
 simp -dsimp -implicitDefEqProofs only [↓STP,STQ,seval,ir132]
 refine Zao (N:=l.length) (fun j=>⟨upd (upd (upd (upd ρ0 0 (.vec (l.map nmV) .any)) 1 (.str s)) 5 (.vec (((l.take j).filter fun r=>decide (r.1 ≠ s)).map nmV) (.own 0))) 6 (I j),m0,1,[],h⟩) (fun j=>True) (by simp -dsimp -implicitDefEqProofs only [↓STP,STQ,seval] <;> rfl) trivial (fun j hj pj=>?_) (fun pj=>?_) mono
 ·have g:(l.map nmV)[j]?=some (nmV l[j]):=by rw [List.getElem?_map,List.getElem?_eq_getElem hj]; rfl
  have lj:(j:Int) < (l.length:Int):=by omega
  have hf:((l.take j).filter fun r=>decide (r.1 ≠ s)).length ≤ j:=Nat.le_trans (List.length_filter_le _ _) (by rw [List.length_take]; omega)
  have e:(l.take (j + 1)).filter (fun r=>decide (r.1 ≠ s))=(l.take j).filter (fun r=>decide (r.1 ≠ s)) ++ (if l[j].1=s then [] else [l[j]]):=by
   rw [List.take_add_one,List.getElem?_eq_getElem hj,List.filter_append]
   by_cases c:l[j].1=s
   ·simp [c]
   ·simp [c]
  rw [e]
  by_cases c:l[j].1=s
  ·simp -dsimp -implicitDefEqProofs only [↓STP,STQ,seval,List.length_map,eq_true lj,g,nmV,c,binS,bneS,beqS,eq_self,wi (show j < 9000000000000000000 by omega)]
  ·simp -dsimp -implicitDefEqProofs only [↓STP,STQ,seval,List.length_map,eq_true lj,g,nmV,eq_false c,binS,bneS,beqS,wi (show j < 9000000000000000000 by omega)]
   rw [Zcu (sz:=5) (by simp) Zi0 rfl (by decide) (by decide) (by rw [List.length_map]; omega)]
   simp -dsimp -implicitDefEqProofs only [↓STP,STQ,seval,wi (show j < 9000000000000000000 by omega)]
   rw [if_neg c,List.map_append]
   rfl
 ·have lj:¬ (l.length:Int) < (l.length:Int):=by omega
  simp -dsimp -implicitDefEqProofs only [↓STP,STQ,seval,List.length_map,eq_false lj]
  rw [List.take_length]
  exact hK
end
end YtihjhelbdbeokaaGreatDoor
end Go.Ab
namespace Go.Ab
structure Lr where
 x:Nat
 es:List (ByteArray × Kn)
 vc:Cap
 lc:Cap
 o:Option Nat
 wc:Cap
 rs:List (Nat × Nat)
def Lr.own (L:Lr):List Nat:=L.x :: (L.o.toList ++ L.rs.map (·.1))
def Lr.ov (L:Lr):V:=match L.o with
 | some id=>.ref id 0 L.rs.length 1
 | none=>.vec [] L.wc
def lps (σ:TE):List (ByteArray × Kn):=σ.loops.map fun r=>(r.1,kcon r.2)
def Lr.cs (p:Prg) (L:Lr) (σ:TS):List V:=[.vec (p.ins.map InD.v) .any,.vec (p.arrays.map ArD.v) .any,.vec (p.body.map Stm.v) .any,.vec (L.es.map nmV) L.vc,.vec ((lps σ.env).map nmV) L.lc,L.ov,I σ.steps,I σ.most,I σ.ifs]
structure Rt (p:Prg) (L:Lr) (σ:TS) (h:H):Prop where
 x:h.objs L.x=some (.cells (L.cs p σ))
 o:match L.o with
  | some id=>h.objs id=some (.cells (L.rs.map refV))
  | none=>L.rs=[]
 es:∀ s,Zaj s L.es=(σ.env.vars s).map fun r=>Kn.mk r.1 r.2 false 0
 len:L.rs.length=σ.env.words.length
 ws:∀ (i:Nat) (ws:List Nat),σ.env.words[i]?=some ws→∃ id,L.rs[i]?=some (id,ws.length)∧h.objs id=some (.cells (Zar ws))
 nd:L.own.Nodup
 lt:∀ id ∈ L.own,id < h.next
 vl:L.es.length ≤ σ.steps
 ll:σ.env.loops.length ≤ σ.steps
 cv:L.vc=.any∨L.vc=.full
 cl:L.lc=.any∨L.lc=.full
 cw:L.wc=.any∨L.wc=.full
structure Fw (L L':Lr) (h h':H):Prop where
 nx:h.next ≤ h'.next
 x:L'.x=L.x
 same:∀ id,id < h.next→id ∉ L.own→h'.objs id=h.objs id
 own:∀ id ∈ L'.own,id ∈ L.own∨h.next ≤ id
theorem Fw.refl (L:Lr) (h:H):Fw L L h h:=⟨Nat.le_refl _,rfl,fun _ _ _=>rfl,fun _ hi=>.inl hi⟩
theorem Fw.trans {L L' L'':Lr} {h h' h'':H} (a:Fw L L' h h') (b:Fw L' L'' h' h''):Fw L L'' h h'':=
 ⟨Nat.le_trans a.nx b.nx,b.x.trans a.x,fun id hl hn=>by
  rw [b.same id (Nat.lt_of_lt_of_le hl a.nx) (fun hi=>(a.own id hi).elim hn (fun hh=>absurd hl (Nat.not_lt.2 hh)))]
  exact a.same id hl hn,fun id hi=>(b.own id hi).elim (fun hh=>a.own id hh) (fun hh=>.inr (Nat.le_trans a.nx hh))⟩
theorem Lr.x_mem (L:Lr):L.x ∈ L.own:=by simp [Lr.own]
theorem Lr.o_mem {L:Lr} {id:Nat} (h:L.o=some id):id ∈ L.own:=by simp [Lr.own,h]
theorem Lr.r_mem {L:Lr} {r:Nat × Nat} (h:r ∈ L.rs):r.1 ∈ L.own:=by
 simp only [Lr.own,List.mem_cons,List.mem_append,List.mem_map]
 exact .inr (.inr ⟨r,h,rfl⟩)
theorem Rt.xo {p:Prg} {L:Lr} {σ:TS} {h:H} (A:Rt p L σ h) {id:Nat} (ho:L.o=some id):id ≠ L.x:=by
 have:=A.nd
 simp only [Lr.own,List.nodup_cons,List.mem_append,not_or,ho,Option.toList_some,List.mem_singleton] at this
 exact fun e=>this.1.1 e.symm
theorem Rt.xr {p:Prg} {L:Lr} {σ:TS} {h:H} (A:Rt p L σ h) {r:Nat × Nat} (hr:r ∈ L.rs):r.1 ≠ L.x:=by
 have:=A.nd
 simp only [Lr.own,List.nodup_cons,List.mem_append,not_or,List.mem_map] at this
 exact fun e=>this.1.2 ⟨r,hr,e⟩
theorem Rt.or {p:Prg} {L:Lr} {σ:TS} {h:H} (A:Rt p L σ h) {id:Nat} (ho:L.o=some id) {r:Nat × Nat} (hr:r ∈ L.rs):r.1 ≠ id:=by
 have:=A.nd
 simp only [Lr.own,List.nodup_cons,ho,Option.toList_some,List.cons_append,List.nil_append,List.mem_map] at this
 exact fun e=>this.2.1 ⟨r,hr,e⟩
theorem Rt.write {p:Prg} {L L':Lr} {σ σ':TS} {h:H} (A:Rt p L σ h) (hx:L'.x=L.x) (ho:L'.o=L.o) (hr:L'.rs=L.rs) (hw:σ'.env.words=σ.env.words)
  (es:∀ s,Zaj s L'.es=(σ'.env.vars s).map fun r=>Kn.mk r.1 r.2 false 0) (vl:L'.es.length ≤ σ'.steps) (ll:σ'.env.loops.length ≤ σ'.steps) (cv:L'.vc=.any∨L'.vc=.full) (cl:L'.lc=.any∨L'.lc=.full) (cw:L'.wc=.any∨L'.wc=.full) :
  Rt p L' σ' (h.set L.x (.cells (L'.cs p σ')))∧Fw L L' h (h.set L.x (.cells (L'.cs p σ'))):=by
 have hown:L'.own=L.own:=by unfold Lr.own; rw [hx,ho,hr]
 refine ⟨⟨by simp [Zac,hx],?_,es,by rw [hr,hw]; exact A.len,fun i ws hi=>?_,by rw [hown]; exact A.nd,by rw [hown]; exact A.lt,vl,ll,cv,cl,cw⟩,⟨Nat.le_refl _,hx,fun id _ hn=>?_,fun id hi=>.inl (by rw [← hown]; exact hi)⟩⟩
 ·have h0:=A.o
  have hh:=fun id (e:L.o=some id)=>A.xo e
  rw [ho,hr]
  revert h0 hh
  cases L.o with
  | none=>intro h0 _; exact h0
  | some id=>intro h0 hh; show (h.set _ _).objs id=_; rw [Zac,if_neg (hh id rfl)]; exact h0
 ·rw [hw] at hi
  obtain ⟨id,a,b⟩:=A.ws i ws hi
  refine ⟨id,by rw [hr]; exact a,?_⟩
  rw [Zac,if_neg (A.xr (List.mem_of_getElem? a))]; exact b
 ·rw [Zac,if_neg (fun e=>hn (by rw [e]; exact L.x_mem))]
theorem Rt.count {p:Prg} {L:Lr} {σ:TS} {h:H} (A:Rt p L σ h) (σ':TS) (he:σ'.env=σ.env) (hs:σ.steps ≤ σ'.steps):Rt p L σ' (h.set L.x (.cells (L.cs p σ')))∧Fw L L h (h.set L.x (.cells (L.cs p σ'))):=
 A.write rfl rfl rfl (by rw [he]) (by rw [he]; exact A.es) (Nat.le_trans A.vl hs) (by rw [he]; exact Nat.le_trans A.ll hs) A.cv A.cl A.cw
theorem Zjs {s:ByteArray} {l:List ByteArray}:(0 ≤ ixI s l) ↔ s ∈ l:=by
 unfold ixI
 cases h:l.findIdx? (fun a=>decide (a=s)) with
 | none =>
  rw [List.findIdx?_eq_none_iff] at h
  exact ⟨fun h'=>absurd h' (by decide),fun hm=>by have:=h s hm; simp at this⟩
 | some i =>
  obtain ⟨hi,h1,_⟩:=List.findIdx?_eq_some_iff_getElem.1 h
  exact ⟨fun _=>by have:l[i]=s:=of_decide_eq_true h1; rw [← this]; exact List.getElem_mem hi,fun _=>Int.natCast_nonneg i⟩
theorem ix_ins {p:Prg} {s:ByteArray}:(0 ≤ ixI s (p.ins.map InD.name)) ↔ (inOf p s).isSome=true:=by
 rw [Zjs,List.mem_map]
 unfold inOf
 rw [List.find?_isSome]
 exact ⟨fun ⟨d,h1,h2⟩=>⟨d,h1,by simpa using h2⟩,fun ⟨d,h1,h2⟩=>⟨d,h1,by simpa using h2⟩⟩
theorem Zv5 {p:Prg} {s:ByteArray}:ixI s (p.arrays.map ArD.name)=match arOf p s with | some i=>(i:Int) | none=>-1:=by
 unfold ixI arOf
 rw [List.findIdx?_map]
 rfl
theorem ix_find {s:ByteArray} {l:List (ByteArray × Kn)}:(0 ≤ ixI s (l.map (·.1))) ↔ (Zaj s l).isSome=true:=by
 rw [Zjs]
 induction l with
 | nil=>simp [Zaj]
 | cons a l ih =>
  obtain ⟨a,v⟩:=a
  simp only [List.map_cons,List.mem_cons,Zaj]
  by_cases h:a=s
  ·simp [h]
  ·rw [if_neg h]; rw [← ih]; exact ⟨fun h'=>h'.resolve_left (fun e=>h e.symm),fun h'=>.inr h'⟩
theorem ix_at {s:ByteArray} {l:List (ByteArray × Kn)} {k:Kn} (h:Zaj s l=some k):∃ i:Nat,ixI s (l.map (·.1))=i∧(l.map nmV)[i]?=some (nmV (s,k)):=by
 induction l with
 | nil=>simp [Zaj] at h
 | cons a l ih =>
  obtain ⟨a,v⟩:=a
  simp only [Zaj] at h
  by_cases c:a=s
  ·rw [if_pos c] at h; cases h
   exact ⟨0,by unfold ixI; simp [List.findIdx?_cons,c],by subst c; rfl⟩
  ·rw [if_neg c] at h
   obtain ⟨i,h1,h2⟩:=ih h
   refine ⟨i + 1,?_,h2⟩
   unfold ixI at h1 ⊢
   rw [List.map_cons,List.findIdx?_cons]
   simp only [c,decide_false,Bool.false_eq_true,if_false]
   revert h1
   cases List.findIdx? (fun a=>decide (a=s)) (l.map (·.1)) with
   | none=>intro h1; exact absurd h1 (by show ¬ (-1:Int)=_; omega)
   | some j=>intro h1; simp only [Option.map_some]; have:(j:Int)=i:=h1; show ((j + 1:Nat):Int)=_; omega
theorem Znv {s:ByteArray} {σ:TE}:Zaj s (lps σ)=(Zaj s σ.loops).map kcon:=by
 unfold lps
 induction σ.loops with
 | nil=>rfl
 | cons a l ih =>
  obtain ⟨a,v⟩:=a
  simp only [List.map_cons,Zaj]
  split
  ·rfl
  ·exact ih
theorem ix_in {p:Prg} {s:ByteArray} {d:InD} (h:inOf p s=some d):∃ i:Nat,ixI s (p.ins.map InD.name)=i∧(p.ins.map InD.v)[i]?=some d.v:=by
 unfold inOf at h
 unfold ixI
 rw [List.findIdx?_map]
 revert h
 induction p.ins with
 | nil=>intro h; cases h
 | cons a l ih =>
  intro h
  rw [List.find?_cons] at h
  by_cases c:a.name=s
  ·rw [decide_eq_true c] at h; cases h
   exact ⟨0,by simp [List.findIdx?_cons,c],rfl⟩
  ·rw [decide_eq_false c] at h
   obtain ⟨i,h1,h2⟩:=ih h
   refine ⟨i + 1,?_,h2⟩
   rw [List.findIdx?_cons]
   simp only [Function.comp,c,decide_false,Bool.false_eq_true,if_false]
   revert h1
   simp only [Function.comp_def]
   cases List.findIdx? (fun x:InD=>decide (x.name=s)) l with
   | none=>intro h1; exact absurd h1 (by show ¬ (-1:Int)=_; omega)
   | some j=>intro h1; simp only [Option.map_some]; have:(j:Int)=i:=h1; show ((j + 1:Nat):Int)=_; omega
namespace YtihjhelbdbeokaaGreatDoor
section
variable {h:H} {K:Out→H→Prop} {p:Prg} {L:Lr} {σ:TS}
theorem takenR {s:ByteArray} (okp:POk p) (A:Rt p L σ h) (hs:σ.steps ≤ 10000) (hK:K (.ret (.bool (Zdl p σ.env s))) h):R 131 [.ptr L.x 0,.str s] h K:=by
 refine run131 (Nat.le_of_ble_eq_true rfl) ?_
 have gx:=Zam A.x
 have hv0:V.agg [.vec (p.ins.map InD.v) .any,.vec (p.arrays.map ArD.v) .any,.vec (p.body.map Stm.v) .any]=p.v:=rfl
 have m1:p.ins.length ≤ 9223372036854775807:=by have:=okp.li; unfold maxLen at this; omega
 have m2:p.arrays.length ≤ 9223372036854775807:=by have:=okp.la; unfold maxLen at this; omega
 have m3:(lps σ.env).length ≤ 9223372036854775807:=by have:=A.ll; unfold lps; rw [List.length_map]; omega
 have i1:=@ix_ins p s
 have i2:=@Zjs s (p.arrays.map ArD.name)
 have i2':(arOf p s).isSome=true ↔ s ∈ p.arrays.map ArD.name:=by
  rw [← i2,Zv5]
  cases arOf p s with
  | none=>exact ⟨fun h=>Bool.noConfusion h,fun h=>absurd h (show ¬ (0:Int) ≤ -1 by decide)⟩
  | some i=>exact ⟨fun _=>Int.natCast_nonneg i,fun _=>rfl⟩
 have i3:=@ix_find s (lps σ.env)
 rw [Znv,Option.isSome_map] at i3
 rw [← i2'] at i2
 unfold Zdl at hK
 simp -dsimp -implicitDefEqProofs only [↓STP,STQ,seval,ir131,gx,Lr.cs]
 rw [hv0]
 refine Zv7 m1 ?_
 cases c1:(inOf p s).isSome with
 | true =>
  simp -dsimp -implicitDefEqProofs only [↓STP,STQ,seval,eq_true (i1.2 c1)]
  rw [c1] at hK
  exact hK
 | false =>
  rw [c1] at hK i1
  simp -dsimp -implicitDefEqProofs only [↓STP,STQ,seval,eq_false (show ¬ 0 ≤ ixI s (p.ins.map InD.name) from fun h=>by have:=i1.1 h; cases this),gx,Lr.cs]
  rw [hv0]
  refine Zxi m2 ?_
  cases c2:(arOf p s).isSome with
  | true =>
   simp -dsimp -implicitDefEqProofs only [↓STP,STQ,seval,eq_true (i2.2 c2)]
   rw [c2] at hK
   exact hK
  | false =>
   rw [c2] at hK i2
   simp -dsimp -implicitDefEqProofs only [↓STP,STQ,seval,eq_false (show ¬ 0 ≤ ixI s (p.arrays.map ArD.name) from fun h=>by have:=i2.1 h; cases this),gx,Lr.cs]
   refine Zwh m3 ?_
   cases c3:(Zaj s σ.env.loops).isSome with
   | true =>
    simp -dsimp -implicitDefEqProofs only [↓STP,STQ,seval,eq_true (i3.2 c3)]
    rw [c3] at hK
    exact hK
   | false =>
    rw [c3] at hK i3
    simp -dsimp -implicitDefEqProofs only [↓STP,STQ,seval,eq_false (show ¬ 0 ≤ ixI s ((lps σ.env).map (·.1)) from fun h=>by have:=i3.1 h; cases this)]
    exact hK
theorem stepR (A:Rt p L σ h) (hs:σ.steps ≤ 10000) (hK:Ans (Zhu σ) (fun σ'=>∀ h',Rt p L σ' h'→Fw L L h h'→K (.ret (I 0)) h') (fun e=>K (.ret (I e)) h)):R 129 [.ptr L.x 0] h K:=by
 refine run129 (Nat.le_of_ble_eq_true rfl) ?_
 have gx:=Zam A.x
 unfold Zhu at hK
 by_cases c:10000 ≤ σ.steps
 ·have c':(10000:Int) ≤ (σ.steps:Int):=by omega
  rw [if_pos c] at hK
  simp -dsimp -implicitDefEqProofs only [↓STP,STQ,seval,ir129,gx,Lr.cs,eq_true c']
  exact hK
 ·have c':¬ (10000:Int) ≤ (σ.steps:Int):=by omega
  rw [if_neg c] at hK
  have w1:IntKind.i64.wrap ((σ.steps:Int) + 1)=((σ.steps + 1:Nat):Int):=by rw [wrap_i64] <;> omega
  simp -dsimp -implicitDefEqProofs only [↓STP,STQ,seval,ir129,gx,Lr.cs,eq_false c',w1,Zad]
  obtain ⟨A',F⟩:=A.count { σ with steps:=σ.steps + 1 } rfl (Nat.le_succ _)
  exact hK _ A' F
end
end YtihjhelbdbeokaaGreatDoor
end Go.Ab
namespace Go.Ab
theorem Zjt {p:Prg} {s:ByteArray} (h:inOf p s=none):¬ 0 ≤ ixI s (p.ins.map InD.name):=fun h'=>by
 have:=ix_ins.1 h'
 rw [h] at this; cases this
theorem Zdp {s:ByteArray} {l:List (ByteArray × Kn)} (h:Zaj s l=none):¬ 0 ≤ ixI s (l.map (·.1)):=fun h'=>by
 have:=ix_find.1 h'
 rw [h] at this; cases this
theorem Zdg {d:ArD}:d.v=.agg [.str d.name,I d.size]:=rfl
theorem Zge (i:Nat):(0:Int) ≤ (i:Int):=Int.natCast_nonneg i
def zkn:Kn:=⟨0,0,false,0⟩
theorem Rt.outer {p:Prg} {L:Lr} {σ:TS} {h:H} (A:Rt p L σ h) {i:Nat} {ws:List Nat} (hi:σ.env.words[i]?=some ws) :
  ∃ o id,L.ov=.ref o 0 L.rs.length 1∧h.get o=some (L.rs.map refV)∧(L.rs.map refV)[i]?=some (.ref id 0 ws.length 1)∧i < L.rs.length∧h.get id=some (Zar ws):=by
 obtain ⟨id,a,b⟩:=A.ws i ws hi
 have hlt:i < L.rs.length:=by
  rcases Nat.lt_or_ge i L.rs.length with h' | h'
  ·exact h'
  ·rw [List.getElem?_eq_none h'] at a; cases a
 have h0:=A.o
 cases ho:L.o with
 | none =>
  rw [ho] at h0
  simp only at h0
  rw [h0] at hlt; exact absurd hlt (Nat.not_lt_zero _)
 | some o =>
  rw [ho] at h0
  refine ⟨o,id,by unfold Lr.ov; rw [ho],Zam h0,?_,hlt,Zam b⟩
  rw [List.getElem?_map,a]; rfl
namespace YtihjhelbdbeokaaGreatDoor
section
variable {h:H} {K:Out→H→Prop} {p:Prg} {L:Lr} {σ:TS}
theorem Zuc {s:ByteArray} (okp:POk p) (hp:PV p) (A:Rt p L σ h) (hs:σ.steps ≤ 10000) (hK:Ans (Zjo p σ.env s) (fun k=>K (.ret (.tuple [k.v,I 0])) h) (fun e=>∀ k:Kn,K (.ret (.tuple [k.v,I e])) h)):R 208 [.ptr L.x 0,.str s] h K:=by
 refine run208 (Nat.le_of_ble_eq_true rfl) ?_
 have gx:=Zam A.x
 have hv0:V.agg [.vec (p.ins.map InD.v) .any,.vec (p.arrays.map ArD.v) .any,.vec (p.body.map Stm.v) .any]=p.v:=rfl
 have m1:p.ins.length ≤ 9223372036854775807:=by have:=okp.li; unfold maxLen at this; omega
 have m3:(lps σ.env).length ≤ 9223372036854775807:=by have:=A.ll; unfold lps; rw [List.length_map]; omega
 have m4:L.es.length ≤ 9223372036854775807:=by have:=A.vl; omega
 unfold Zjo at hK
 simp -dsimp -implicitDefEqProofs only [↓STP,STQ,seval,ir208,gx,Lr.cs]
 refine Zwh m3 ?_
 have e3:=@Znv s σ.env
 cases c1:Zaj s σ.env.loops with
 | some n =>
  rw [c1] at hK e3
  obtain ⟨i,h1,h2⟩:=ix_at e3
  rw [h1]
  simp -dsimp -implicitDefEqProofs only [↓STP,STQ,seval,eq_true (Zge i),gx,Lr.cs,h2,nmV,Zad]
  exact hK
 | none =>
  rw [c1] at hK e3
  simp -dsimp -implicitDefEqProofs only [↓STP,STQ,seval,eq_false (Zdp e3),gx,Lr.cs]
  refine Zwh m4 ?_
  have e4:=A.es s
  cases c2:σ.env.vars s with
  | some r =>
   obtain ⟨k,w⟩:=r
   rw [c2] at hK e4
   obtain ⟨i,h1,h2⟩:=ix_at e4
   rw [h1]
   simp -dsimp -implicitDefEqProofs only [↓STP,STQ,seval,eq_true (Zge i),gx,Lr.cs,h2,nmV,Zad]
   exact hK
  | none =>
   rw [c2] at hK e4
   simp -dsimp -implicitDefEqProofs only [↓STP,STQ,seval,eq_false (Zdp e4),gx,Lr.cs]
   rw [hv0]
   refine Zv7 m1 ?_
   cases c3:inOf p s with
   | none =>
    rw [c3] at hK
    simp -dsimp -implicitDefEqProofs only [↓STP,STQ,seval,eq_false (Zjt c3),Zad]
    exact hK zkn
   | some d =>
    rw [c3] at hK
    obtain ⟨i,h1,h2⟩:=ix_in c3
    rw [h1]
    have hd:=hp.ins d (Zeq c3).1
    simp only at hK
    by_cases cs:d.size=0
    ·rw [if_pos cs] at hK
     have hw:d.width=((d.width.toNat:Nat):Int):=by omega
     simp -dsimp -implicitDefEqProofs only [↓STP,STQ,seval,eq_true (Zge i),gx,Lr.cs,h2,Zak,eq_true cs]
     rw [hw]
     refine Zme ?_
     simp -dsimp -implicitDefEqProofs only [↓STP,STQ,seval,Zad,Zab]
     exact hK
    ·rw [if_neg cs] at hK
     simp -dsimp -implicitDefEqProofs only [↓STP,STQ,seval,eq_true (Zge i),gx,Lr.cs,h2,Zak,eq_false cs,Zad]
     exact hK zkn
theorem indexR {s:ByteArray} {k:Kn} (okp:POk p) (hp:PV p) (A:Rt p L σ h) (ok:EOkT p σ.env) (hv:KOk k) (hK:Ans (Ze9 p σ.env s k) (fun k=>K (.ret (.tuple [k.v,I 0])) h) (fun e=>∀ k:Kn,K (.ret (.tuple [k.v,I e])) h)):R 209 [.ptr L.x 0,.str s,k.v] h K:=by
 refine run209 (Nat.le_of_ble_eq_true rfl) ?_
 have gx:=Zam A.x
 have hv0:V.agg [.vec (p.ins.map InD.v) .any,.vec (p.arrays.map ArD.v) .any,.vec (p.body.map Stm.v) .any]=p.v:=rfl
 have m1:p.ins.length ≤ 9223372036854775807:=by have:=okp.li; unfold maxLen at this; omega
 have m2:p.arrays.length ≤ 9223372036854775807:=by have:=okp.la; unfold maxLen at this; omega
 unfold Ze9 at hK
 simp -dsimp -implicitDefEqProofs only [↓STP,STQ,seval,ir209,Zab,gx,Lr.cs]
 rw [hv0]
 refine Zv7 m1 ?_
 simp -dsimp -implicitDefEqProofs only [↓STP,STQ,seval,gx,Lr.cs,hv0.symm,eq_self]
 rw [hv0]
 refine Zxi m2 ?_
 have e2:=@Zv5 p s
 cases c2:arOf p s with
 | some i =>
  rw [c2] at e2 hK
  simp only at e2 hK
  rw [e2]
  obtain ⟨d,hd,hn,hg⟩:=Zc0 c2
  rw [hg] at hK
  have hds:=hp.ars d (List.mem_of_getElem? hd)
  have hdv:(p.arrays.map ArD.v)[i]?=some d.v:=by rw [List.getElem?_map,hd]; rfl
  have hwl:i < σ.env.words.length:=by
   rw [ok.wlen]
   rcases Nat.lt_or_ge i p.arrays.length with h' | h'
   ·exact h'
   ·rw [List.getElem?_eq_none h'] at hd; cases hd
  have hws:=List.getElem?_eq_getElem hwl
  generalize σ.env.words[i]=ws at hws
  have hlen:=(ok.words i ws d hws hd).1
  simp -dsimp -implicitDefEqProofs only [↓STP,STQ,seval,eq_true (Zge i),gx,Lr.cs,hdv,Zdg]
  rw [show (V.agg [I k.kind,I k.w,.bool k.is,W k.val])=k.v from rfl]
  refine Zva (by omega) (by omega) hv.lt ?_
  cases hpl:Zb0 k d.size with
  | error e =>
   rw [hpl] at hK
   simp only [Zbk,Zf4] at hK ⊢
   have he:e ≠ 0:=by
    unfold Zb0 at hpl
    split at hpl
    ·cases hpl; decide
    ·split at hpl
     ·cases hpl; decide
     ·cases hpl
   simp -dsimp -implicitDefEqProofs only [↓STP,STQ,seval,eq_false he,Zad]
   exact hK zkn
  | ok n =>
   rw [hpl] at hK
   simp only [Zc1,Zau] at hK ⊢
   have hn:n < ws.length:=by
    unfold Zb0 at hpl
    split at hpl
    ·cases hpl
    ·split at hpl
     ·cases hpl
     ·cases hpl; omega
   obtain ⟨o,id,o1,o2,o3,o4,o5⟩:=A.outer hws
   have hnI:((n:Nat):Int) < ((ws.length:Nat):Int):=by omega
   have hiI:((i:Nat):Int) < ((L.rs.length:Nat):Int):=by omega
   simp -dsimp -implicitDefEqProofs only [↓STP,STQ,seval,gx,Lr.cs,o1,o2,o3,o5,eq_true hiI,Zcr hn,eq_true hnI,Nat.mul_one]
   refine Zme ?_
   simp -dsimp -implicitDefEqProofs only [↓STP,STQ,seval,Zad,Zab]
   have hgw:σ.env.words.getD i []=ws:=by rw [List.getD_eq_getElem?_getD,hws]; rfl
   rw [hgw] at hK
   exact hK
 | none =>
  rw [c2] at e2 hK
  simp only at e2 hK
  rw [e2]
  cases c1:inOf p s with
  | none =>
   rw [c1] at hK
   have hneg:ixI s (p.ins.map InD.name) < 0:=by have:=Zjt c1; omega
   simp -dsimp -implicitDefEqProofs only [↓STP,STQ,seval,eq_true hneg,Zad]
   exact hK zkn
  | some d =>
   rw [c1] at hK
   obtain ⟨i,h1,h2⟩:=ix_in c1
   rw [h1]
   have hd:=hp.ins d (Zeq c1).1
   have hneg:¬ (i:Int) < 0:=by omega
   simp only at hK
   by_cases cs:d.size=0
   ·rw [if_pos cs] at hK
    simp -dsimp -implicitDefEqProofs only [↓STP,STQ,seval,eq_false hneg,gx,Lr.cs,h2,Zak,eq_true cs,Zad]
    exact hK zkn
   ·rw [if_neg cs] at hK
    have hw:d.width=((d.width.toNat:Nat):Int):=by omega
    simp -dsimp -implicitDefEqProofs only [↓STP,STQ,seval,eq_false hneg,gx,Lr.cs,h2,Zak,eq_false cs,Zad]
    rw [show (V.agg [I k.kind,I k.w,.bool k.is,W k.val])=k.v from rfl]
    refine Zva (by omega) (by omega) hv.lt ?_
    cases hpl:Zb0 k d.size with
    | error e =>
     rw [hpl] at hK
     simp only [Zbk,Zf4] at hK ⊢
     simp -dsimp -implicitDefEqProofs only [↓STP,STQ,seval,gx,Lr.cs,h2,Zak]
     rw [hw]
     refine Zme ?_
     simp -dsimp -implicitDefEqProofs only [↓STP,STQ,seval,Zad,Zab]
     exact hK (knum d.width.toNat)
    | ok n =>
     rw [hpl] at hK
     simp only [Zc1,Zau] at hK ⊢
     simp -dsimp -implicitDefEqProofs only [↓STP,STQ,seval,gx,Lr.cs,h2,Zak]
     rw [hw]
     refine Zme ?_
     simp -dsimp -implicitDefEqProofs only [↓STP,STQ,seval,Zad,Zab]
     exact hK
theorem opR {o:Int} {a b:Kn} (o1:1 ≤ o) (o2:o ≤ 7) (ha:KOk a) (hb:KOk b)
  (hK:Ans (opK o a b) (fun r=>∀ v:Nat,(r.w ≤ 60→v=r.val)→K (.ret (.tuple [({ r with val:=v }:Kn).v,I 0])) h) (fun e=>∀ k:Kn,K (.ret (.tuple [k.v,I e])) h)):R 210 [I o,a.v,b.v] h K:=by
 refine run210 (Nat.le_of_ble_eq_true rfl) ?_
 have oo:o=1∨o=2∨o=3∨o=4∨o=5∨o=6∨o=7:=by omega
 have hal:=ha.lt
 have hbl:=hb.lt
 have haw:=ha.w
 have hbw:=hb.w
 have hm:(if (b.w:Int) > (a.w:Int) then (b.w:Int) else (a.w:Int))=((max a.w b.w:Nat):Int):=by split <;> omega
 have w1:IntKind.i64.wrap (((max a.w b.w:Nat):Int) + 1)=((max a.w b.w + 1:Nat):Int):=by rw [wrap_i64] <;> omega
 have w2:IntKind.i64.wrap ((a.w:Int) + (b.w:Int))=((a.w + b.w:Nat):Int):=by rw [wrap_i64] <;> omega
 have w3:=wuadd (show a.val + b.val < 18446744073709551616 by omega)
 have w4:IntKind.u64.wrap ((a.val:Int) * (b.val:Int))=((a.val * b.val % 18446744073709551616:Nat):Int):=by rw [Zlu,← Int.natCast_mul]; exact (Int.natCast_emod _ _).symm
 have pm:a.w + b.w ≤ 60→a.val * b.val % 18446744073709551616=a.val * b.val:=fun hw=>by
  have h1:a.val * b.val < 2 ^ (a.w + b.w):=by rw [Nat.pow_add]; exact Nat.mul_lt_mul'' ha.val hb.val
  have h2:2 ^ (a.w + b.w) ≤ 2 ^ 60:=Nat.pow_le_pow_right (by decide) hw
  exact Nat.mod_eq_of_lt (by omega)
 have ka:=ha.kind
 have kb:=hb.kind
 have t12:¬ (1:Int)=2:=by decide
 unfold opK at hK
 rcases oo with rfl | rfl | rfl | rfl | rfl | rfl | rfl
 ·rw [show Zc2 1=1 from by decide] at hK
  rcases ka with ka | ka
  rotate_left
  ·rw [if_pos (.inl (by rw [ka]; decide))] at hK
   simp -dsimp -implicitDefEqProofs only [↓STP,STQ,seval,ir210,Zab,ka,Zad]
   exact hK zkn
  rcases kb with kb | kb
  rotate_left
  ·rw [if_pos (.inr (by rw [kb]; decide))] at hK
   simp -dsimp -implicitDefEqProofs only [↓STP,STQ,seval,ir210,Zab,ka,kb,Zad]
   exact hK zkn
  rw [if_neg (by simp [ka,kb]),if_pos rfl] at hK
  cases ca:a.is <;> cases cb:b.is <;> rw [ca,cb] at hK
  ·simp -dsimp -implicitDefEqProofs only [↓STP,STQ,seval,ir210,Zab,ka,kb,Zad,ca,cb,Za1,hm,w1]
   exact hK 0 (fun _=>rfl)
  ·simp -dsimp -implicitDefEqProofs only [↓STP,STQ,seval,ir210,Zab,ka,kb,Zad,ca,cb,Za1,hm,w1]
   exact hK 0 (fun _=>rfl)
  ·simp -dsimp -implicitDefEqProofs only [↓STP,STQ,seval,ir210,Zab,ka,kb,Zad,ca,cb,Za1,hm,w1]
   exact hK 0 (fun _=>rfl)
  ·by_cases c60:((max a.w b.w + 1:Nat):Int) ≤ 60
   ·simp -dsimp -implicitDefEqProofs only [↓STP,STQ,seval,ir210,Zab,ka,kb,Zad,ca,cb,Za1,hm,w1,eq_true c60,w3]
    exact hK _ (fun hw=>rfl)
   ·simp -dsimp -implicitDefEqProofs only [↓STP,STQ,seval,ir210,Zab,ka,kb,Zad,ca,cb,Za1,hm,w1,eq_false c60]
    exact hK 0 (fun hw=>absurd (show max a.w b.w + 1 ≤ 60 from hw) (by omega))
 ·rw [show Zc2 2=1 from by decide] at hK
  rcases ka with ka | ka
  rotate_left
  ·rw [if_pos (.inl (by rw [ka]; decide))] at hK
   simp -dsimp -implicitDefEqProofs only [↓STP,STQ,seval,ir210,Zab,ka,Zad]
   exact hK zkn
  rcases kb with kb | kb
  rotate_left
  ·rw [if_pos (.inr (by rw [kb]; decide))] at hK
   simp -dsimp -implicitDefEqProofs only [↓STP,STQ,seval,ir210,Zab,ka,kb,Zad]
   exact hK zkn
  rw [if_neg (by simp [ka,kb]),if_neg (by decide),if_pos rfl] at hK
  cases ca:a.is <;> cases cb:b.is <;> rw [ca,cb] at hK
  ·simp -dsimp -implicitDefEqProofs only [↓STP,STQ,seval,ir210,Zab,ka,kb,Zad,ca,cb,Za1]
   exact hK 0 (fun _=>rfl)
  ·simp -dsimp -implicitDefEqProofs only [↓STP,STQ,seval,ir210,Zab,ka,kb,Zad,ca,cb,Za1]
   exact hK 0 (fun _=>rfl)
  ·simp -dsimp -implicitDefEqProofs only [↓STP,STQ,seval,ir210,Zab,ka,kb,Zad,ca,cb,Za1]
   exact hK 0 (fun _=>rfl)
  ·have c60:(a.w:Int) ≤ 60:=by omega
   by_cases c:(b.val:Int) ≤ (a.val:Int)
   ·have w5:IntKind.u64.wrap ((a.val:Int) - (b.val:Int))=((a.val - b.val:Nat):Int):=by rw [Zay] <;> omega
    simp -dsimp -implicitDefEqProofs only [↓STP,STQ,seval,ir210,Zab,ka,kb,Zad,ca,cb,eq_true c60,eq_true c,w5]
    exact hK _ (fun _=>rfl)
   ·simp -dsimp -implicitDefEqProofs only [↓STP,STQ,seval,ir210,Zab,ka,kb,Zad,ca,cb,eq_true c60,eq_false c]
    exact hK 0 (fun _=>by show 0=a.val - b.val; omega)
 ·rw [show Zc2 3=1 from by decide] at hK
  rcases ka with ka | ka
  rotate_left
  ·rw [if_pos (.inl (by rw [ka]; decide))] at hK
   simp -dsimp -implicitDefEqProofs only [↓STP,STQ,seval,ir210,Zab,ka,Zad]
   exact hK zkn
  rcases kb with kb | kb
  rotate_left
  ·rw [if_pos (.inr (by rw [kb]; decide))] at hK
   simp -dsimp -implicitDefEqProofs only [↓STP,STQ,seval,ir210,Zab,ka,kb,Zad]
   exact hK zkn
  rw [if_neg (by simp [ka,kb]),if_neg (by decide),if_neg (by decide),if_pos rfl] at hK
  cases ca:a.is <;> cases cb:b.is <;> rw [ca,cb] at hK
  ·simp -dsimp -implicitDefEqProofs only [↓STP,STQ,seval,ir210,Zab,ka,kb,Zad,ca,cb,w2]
   exact hK 0 (fun _=>rfl)
  ·simp -dsimp -implicitDefEqProofs only [↓STP,STQ,seval,ir210,Zab,ka,kb,Zad,ca,cb,w2]
   exact hK 0 (fun _=>rfl)
  ·simp -dsimp -implicitDefEqProofs only [↓STP,STQ,seval,ir210,Zab,ka,kb,Zad,ca,cb,w2]
   exact hK 0 (fun _=>rfl)
  ·by_cases c60:((a.w + b.w:Nat):Int) ≤ 60
   ·simp -dsimp -implicitDefEqProofs only [↓STP,STQ,seval,ir210,Zab,ka,kb,Zad,ca,cb,w2,eq_true c60,w4]
    exact hK _ (fun hw=>pm hw)
   ·simp -dsimp -implicitDefEqProofs only [↓STP,STQ,seval,ir210,Zab,ka,kb,Zad,ca,cb,w2,eq_false c60]
    exact hK 0 (fun hw=>absurd (show a.w + b.w ≤ 60 from hw) (by omega))
 ·rw [show Zc2 4=1 from by decide] at hK
  rcases ka with ka | ka
  rotate_left
  ·rw [if_pos (.inl (by rw [ka]; decide))] at hK
   simp -dsimp -implicitDefEqProofs only [↓STP,STQ,seval,ir210,Zab,ka,Zad]
   exact hK zkn
  rcases kb with kb | kb
  rotate_left
  ·rw [if_pos (.inr (by rw [kb]; decide))] at hK
   simp -dsimp -implicitDefEqProofs only [↓STP,STQ,seval,ir210,Zab,ka,kb,Zad]
   exact hK zkn
  rw [if_neg (by simp [ka,kb]),if_neg (by decide),if_neg (by decide),if_neg (by decide)] at hK
  cases ca:a.is <;> cases cb:b.is
  all_goals
   simp -dsimp -implicitDefEqProofs only [↓STP,STQ,seval,ir210,Zab,ka,kb,Zad,ca,cb]
   exact hK 0 (fun _=>rfl)
 ·rw [show Zc2 5=1 from by decide] at hK
  rcases ka with ka | ka
  rotate_left
  ·rw [if_pos (.inl (by rw [ka]; decide))] at hK
   simp -dsimp -implicitDefEqProofs only [↓STP,STQ,seval,ir210,Zab,ka,Zad]
   exact hK zkn
  rcases kb with kb | kb
  rotate_left
  ·rw [if_pos (.inr (by rw [kb]; decide))] at hK
   simp -dsimp -implicitDefEqProofs only [↓STP,STQ,seval,ir210,Zab,ka,kb,Zad]
   exact hK zkn
  rw [if_neg (by simp [ka,kb]),if_neg (by decide),if_neg (by decide),if_neg (by decide)] at hK
  cases ca:a.is <;> cases cb:b.is
  all_goals
   simp -dsimp -implicitDefEqProofs only [↓STP,STQ,seval,ir210,Zab,ka,kb,Zad,ca,cb]
   exact hK 0 (fun _=>rfl)
 ·rw [show Zc2 6=2 from by decide] at hK
  rcases ka with ka | ka
  ·rw [if_pos (.inl (by rw [ka]; decide))] at hK
   simp -dsimp -implicitDefEqProofs only [↓STP,STQ,seval,ir210,Zab,ka,Zad]
   exact hK zkn
  rcases kb with kb | kb
  ·rw [if_pos (.inr (by rw [kb]; decide))] at hK
   simp -dsimp -implicitDefEqProofs only [↓STP,STQ,seval,ir210,Zab,ka,kb,Zad]
   exact hK zkn
  rw [if_neg (by simp [ka,kb]),if_neg (by decide),if_neg (by decide),if_neg (by decide)] at hK
  cases ca:a.is <;> cases cb:b.is
  all_goals
   simp -dsimp -implicitDefEqProofs only [↓STP,STQ,seval,ir210,Zab,ka,kb,Zad,ca,cb]
   exact hK 0 (fun _=>rfl)
 ·rw [show Zc2 7=2 from by decide] at hK
  rcases ka with ka | ka
  ·rw [if_pos (.inl (by rw [ka]; decide))] at hK
   simp -dsimp -implicitDefEqProofs only [↓STP,STQ,seval,ir210,Zab,ka,Zad]
   exact hK zkn
  rcases kb with kb | kb
  ·rw [if_pos (.inr (by rw [kb]; decide))] at hK
   simp -dsimp -implicitDefEqProofs only [↓STP,STQ,seval,ir210,Zab,ka,kb,Zad]
   exact hK zkn
  rw [if_neg (by simp [ka,kb]),if_neg (by decide),if_neg (by decide),if_neg (by decide)] at hK
  cases ca:a.is <;> cases cb:b.is
  all_goals
   simp -dsimp -implicitDefEqProofs only [↓STP,STQ,seval,ir210,Zab,ka,kb,Zad,ca,cb]
   exact hK 0 (fun _=>rfl)
end
end YtihjhelbdbeokaaGreatDoor
end Go.Ab
namespace Go.Ab
namespace YtihjhelbdbeokaaGreatDoor
section
variable {K:Out→H→Prop} {p:Prg} {L:Lr}
theorem madeR {σ:TS} {h:H} {k o:Int} {n:Nat} {s:ByteArray} {ks:List Exp} {l:List Kn} {lv:Nat} (okp:POk p) (hp:PV p) (A:Rt p L σ h) (okt:TOk p σ) (hv:VE (.mk k o n s ks) lv) (hll:l.length=ks.length) (hkl:∀ k ∈ l,KOk k)
  (hK:Ans (Zjq p σ.env k o n s l) (fun r=>∀ v:Nat,(r.w ≤ 60→v=r.val)→K (.ret (.tuple [({ r with val:=v }:Kn).v,I 0])) h) (fun e=>∀ k:Kn,K (.ret (.tuple [k.v,I e])) h)) :
  R 193 [.ptr L.x 0,(Exp.mk k o n s ks).v,.vec (l.map Kn.v) .any] h K:=by
 obtain ⟨v1,v2,v3,v4,v5,v6,v7,v8,v9⟩:=VE_mk.1 hv
 have hn':n < 1152921504606846976:=by omega
 have okn:=fun i=>Zb6 hkl i
 have hkk:k=1∨k=2∨k=3∨k=4∨k=5∨k=6:=by
  unfold Zb3 at v2
  repeat' split at v2
  all_goals omega
 refine run193 (Nat.le_of_ble_eq_true rfl) ?_
 have t12:¬ (1:Int)=2:=by decide
 unfold Zjq at hK
 rcases hkk with rfl | rfl | rfl | rfl | rfl | rfl
 ·rw [if_pos rfl] at hK
  simp -dsimp -implicitDefEqProofs only [↓STP,STQ,seval,Exp.v_mk,ir193]
  refine Zwl (by omega) ?_
  simp -dsimp -implicitDefEqProofs only [↓STP,STQ,seval,Zad,Zab]
  exact hK _ (fun _=>rfl)
 ·rw [if_neg (by decide),if_pos rfl] at hK
  simp -dsimp -implicitDefEqProofs only [↓STP,STQ,seval,Exp.v_mk,ir193]
  refine Zuc okp hp A okt.steps ?_
  refine Zcv hK (fun k hk=>?_) (fun e he k=>?_)
  ·simp -dsimp -implicitDefEqProofs only [↓STP,STQ,seval,Zad,Zab]
   exact hk _ (fun _=>rfl)
  ·simp -dsimp -implicitDefEqProofs only [↓STP,STQ,seval,Zad,Zab]
   exact he k
 ·rw [if_neg (by decide),if_neg (by decide),if_pos rfl] at hK
  have hl1:l.length=1:=by rw [hll]; have:Zb3 3=1:=rfl; omega
  have g0:=Zbg (l:=l) (i:=0) (by omega)
  simp -dsimp -implicitDefEqProofs only [↓STP,STQ,seval,Exp.v_mk,ir193,g0,Kn.v_clen,Kn.v_mkEl]
  refine indexR okp hp A okt.env (okn 0) ?_
  refine Zcv hK (fun k hk=>?_) (fun e he k=>?_)
  ·simp -dsimp -implicitDefEqProofs only [↓STP,STQ,seval,Zad,Zab]
   exact hk _ (fun _=>rfl)
  ·simp -dsimp -implicitDefEqProofs only [↓STP,STQ,seval,Zad,Zab]
   exact he k
 ·rw [if_neg (by decide),if_neg (by decide),if_neg (by decide),if_pos rfl] at hK
  have hl1:l.length=2:=by rw [hll]; have:Zb3 4=2:=rfl; omega
  have g0:=Zbg (l:=l) (i:=0) (by omega)
  have g1:=Zbg (l:=l) (i:=1) (by omega)
  obtain ⟨o1,o2⟩:=v5 rfl
  simp -dsimp -implicitDefEqProofs only [↓STP,STQ,seval,Exp.v_mk,ir193,g0,g1,Kn.v_clen,Kn.v_mkEl]
  refine opR o1 o2 (okn 0) (okn 1) ?_
  refine Zcv hK (fun k hk v hv=>?_) (fun e he k=>?_)
  ·simp -dsimp -implicitDefEqProofs only [↓STP,STQ,seval,Zad,Zab]
   exact hk v hv
  ·simp -dsimp -implicitDefEqProofs only [↓STP,STQ,seval,Zad,Zab]
   exact he k
 ·rw [if_neg (by decide),if_neg (by decide),if_neg (by decide),if_neg (by decide),if_pos rfl] at hK
  have hl1:l.length=1:=by rw [hll]; have:Zb3 5=1:=rfl; omega
  have g0:=Zbg (l:=l) (i:=0) (by omega)
  by_cases c:(nthK l 0).kind=2
  ·rw [if_neg (by simp [c])] at hK
   simp -dsimp -implicitDefEqProofs only [↓STP,STQ,seval,Exp.v_mk,ir193,g0,Kn.v_clen,Kn.v_mkEl,Zab,eq_true c,Zad]
   exact hK 0 (fun _=>rfl)
  ·rw [if_pos c] at hK
   simp -dsimp -implicitDefEqProofs only [↓STP,STQ,seval,Exp.v_mk,ir193,g0,Kn.v_clen,Kn.v_mkEl,Zab,eq_false c,Zad]
   exact hK zkn
 ·rw [if_neg (by decide),if_neg (by decide),if_neg (by decide),if_neg (by decide),if_neg (by decide)] at hK
  have hl1:l.length=3:=by rw [hll]; have:Zb3 6=3:=rfl; omega
  have g0:=Zbg (l:=l) (i:=0) (by omega)
  have g1:=Zbg (l:=l) (i:=1) (by omega)
  have g2:=Zbg (l:=l) (i:=2) (by omega)
  have hmx:(if ((nthK l 2).w:Int) > ((nthK l 1).w:Int) then ((nthK l 2).w:Int) else ((nthK l 1).w:Int))=((max (nthK l 1).w (nthK l 2).w:Nat):Int):=by split <;> omega
  by_cases c:(nthK l 0).kind=2
  ·by_cases c2:(nthK l 1).kind=(nthK l 2).kind
   ·rw [if_neg (by simp [c,c2])] at hK
    simp -dsimp -implicitDefEqProofs only [↓STP,STQ,seval,Exp.v_mk,ir193,g0,g1,g2,Kn.v_clen,Kn.v_mkEl,Zab,eq_true c,eq_true c2,Za1,hmx,Zad]
    exact hK 0 (fun _=>rfl)
   ·rw [if_pos (.inr (fun e=>c2 e.symm))] at hK
    simp -dsimp -implicitDefEqProofs only [↓STP,STQ,seval,Exp.v_mk,ir193,g0,g1,g2,Kn.v_clen,Kn.v_mkEl,Zab,eq_true c,eq_false c2,Zad]
    exact hK zkn
  ·rw [if_pos (.inl c)] at hK
   simp -dsimp -implicitDefEqProofs only [↓STP,STQ,seval,Exp.v_mk,ir193,g0,g1,g2,Kn.v_clen,Kn.v_mkEl,Zab,eq_false c,Zad]
   exact hK zkn
def SpR (p:Prg) (L:Lr) (e:Exp):Prop:=∀ (σ:TS) (h:H) (K:Out→H→Prop),Rt p L σ h→TOk p σ →
 Ans (Zdy p σ.env e) (fun r=>∀ h',Rt p L { σ with most:=max σ.most r.2 } h'→Fw L L h h'→K (.ret (.tuple [r.1.v,I 0])) h') (fun er=>er ≠ 0→∀ h' (k:Kn),Fw L L h h'→K (.ret (.tuple [k.v,I er])) h') →
 R 159 [.ptr L.x 0,e.v] h K
theorem Zxo {l:List Exp} {lv:Nat} (hp:PV p) (hl:l.length ≤ 4) (ih:∀ x ∈ l,SpR p L x) (hv:∀ x ∈ l,VE x lv) (nz:∀ x ∈ l,∀ σ,Nz (Zdy p σ x)) {σ:TS} {h:H} (A:Rt p L σ h) (ok:TOk p σ)
  (hK:Ans (Za9 p σ.env l) (fun r=>∀ h',Rt p L { σ with most:=max σ.most r.2 } h'→Fw L L h h'→K (.ret (.tuple [.vec (r.1.map Kn.v) .any,I 0])) h') (fun er=>er ≠ 0→∀ h',Fw L L h h'→K (.ret (.tuple [.vec [] .any,I er])) h')) :
  R 130 [.ptr L.x 0,.vec (l.map Exp.v) .any] h K:=by
 refine run130 (Nat.le_of_ble_eq_true rfl) ?_
 simp -dsimp -implicitDefEqProofs only [↓STP,STQ,seval,ir130,List.length_map]
 refine Zai (fun k s=>∃ j acc m h',j ≤ l.length∧k=l.length - j∧Za9 p σ.env (l.take j)=.ok (acc,m)∧acc.length=j∧m ≤ 60∧Rt p L { σ with most:=max σ.most m } h'∧Fw L L h h' ∧
  s=⟨upd (upd (upd (upd ρ0 0 (.ptr L.x 0)) 1 (.vec (l.map Exp.v) .any)) 6 (.vec (acc.map Kn.v) (.own 0))) 7 (I j),m0,1,[],h'⟩) (i:=l.length) ⟨0,[],0,h,Nat.zero_le _,rfl,rfl,rfl,by decide,by rw [Nat.max_eq_left (Nat.zero_le _)]; exact A,Fw.refl _ _,by simp -dsimp -implicitDefEqProofs only [↓STP,STQ,seval] <;> rfl⟩ ?_ mono
 rintro k s ⟨j,acc,m,h',hj,rfl,hr,hac,hm,A',F',rfl⟩
 rcases Nat.lt_or_ge j l.length with hi | hi
 ·have hget:=Za5 (f:=Exp.v) hi
  have hx:=ih _ (List.getElem_mem hi)
  have hvx:=hv _ (List.getElem_mem hi)
  have hnz:=nz _ (List.getElem_mem hi) σ.env
  have w1:=wiM (show j < 9223372036854775807 by omega)
  have htk:=Zj1 hi hr
  have hok:=Zmq hp ok.env l[j] lv hvx
  generalize l[j]=x at *
  simp -dsimp -implicitDefEqProofs only [↓STP,STQ,seval,List.length_map,Int.ofNat_lt,hi,hget,storeE,Exp.v_outs,Exp.v_clen,Exp.v_tk,Exp.v_ag,Exp.v_out,eq_self]
  refine hx _ _ _ A' (ok.most' hm) ?_
  rw [Zhd]
  cases hex:Zdy p σ.env x with
  | error er =>
   rw [hex] at htk
   rw [Zj2 htk,Zbk] at hK
   rw [Zbk]
   intro hne h'' k F''
   simp -dsimp -implicitDefEqProofs only [↓STP,STQ,seval,Zab,Zad,eq_false hne]
   exact hK hne _ (F'.trans F'')
  | ok r =>
   obtain ⟨a,ma⟩:=r
   rw [hex] at htk
   rw [Zc1]
   intro h'' A'' F''
   obtain ⟨ka,hma⟩:=hok a ma hex
   simp -dsimp -implicitDefEqProofs only [↓STP,STQ,seval,Zab,Zad]
   rw [Zcu (sz:=4) (by simp) Zk8 rfl (by decide) (by decide) (by rw [List.length_map]; omega)]
   simp -dsimp -implicitDefEqProofs only [↓STP,STQ,seval,w1,mkEl,V.cells]
   refine ⟨l.length - (j + 1),by omega,j + 1,acc ++ [a],max m ma,h'',hi,rfl,htk,by simp [hac],by omega,?_,F'.trans F'',?_⟩
   ·have e:({ σ with most:=max σ.most (max m ma) }:TS)={ ({ σ with most:=max σ.most m }:TS) with most:=max (max σ.most m) ma }:=by rw [Nat.max_assoc]
    rw [e]; exact A''
   ·rw [List.map_append]; rfl
 ·have hj':j=l.length:=by omega
  subst hj'
  rw [List.take_length] at hr
  rw [hr,Zc1] at hK
  simp -dsimp -implicitDefEqProofs only [↓STP,STQ,seval,List.length_map,Int.lt_irrefl]
  exact hK _ A' F'
theorem exprR (okp:POk p) (hp:PV p) (e:Exp):∀ lv,VE e lv→EOk e→SpR p L e:=by
 induction e using Exp.ind with
 | h k o n s ks ih =>
  intro lv hv ok σ h K A okt hK
  obtain ⟨v1,v2,v3,v4,v5,v6,v7,v8,v9⟩:=VE_mk.1 hv
  obtain ⟨hk,ho,hn,hs,hl,hks⟩:=Zlt ok
  have hl3:=kids4 v2
  refine run159 (Nat.le_of_ble_eq_true rfl) ?_
  simp -dsimp -implicitDefEqProofs only [↓STP,STQ,seval,Exp.v_mk,ir159]
  rw [Zdy] at hK
  refine Zxo hp (by omega) (fun x hx=>ih x hx _ (v9 x hx) (hks x hx)) v9 (fun x _ _=>Zmr x) A okt ?_
  cases h1:Za9 p σ.env ks with
  | error er =>
   rw [h1] at hK
   intro hne h' F'
   simp -dsimp -implicitDefEqProofs only [↓STP,STQ,seval,Zad,eq_false hne]
   exact hK hne _ zkn F'
  | ok lm =>
   obtain ⟨l,m⟩:=lm
   rw [h1,Zau] at hK
   simp only at hK
   intro h' A' F'
   obtain ⟨hkl,hm,hll⟩:=Zff hp okt.env v9 l m h1
   have hmm:max σ.most m ≤ 60:=(okt.most' hm).most
   simp -dsimp -implicitDefEqProofs only [↓STP,STQ,seval]
   rw [show V.agg [I k,I o,W n,.str s,.vec (ks.map Exp.v) .any]=(Exp.mk k o n s ks).v from Exp.v_mk.symm]
   refine madeR okp hp A' (okt.most' hm) hv hll hkl ?_
   rw [Zhd]
   have gx:=Zam A'.x
   have nzm:=@Zq5 p σ.env k o n s l
   have hmd:=fun r (e:Zjq p σ.env k o n s l=.ok r)=>Zq4 hp okt.env v7 hkl e
   cases h2:Zjq p σ.env k o n s l with
   | error er =>
    rw [h2] at hK nzm
    have hne:=nzm er rfl
    intro q
    simp -dsimp -implicitDefEqProofs only [↓STP,STQ,seval,Zab,Zad,eq_false hne]
    exact hK hne _ zkn F'
   | ok r =>
    rw [h2,Zau] at hK
    intro v hv
    have hr:=hmd r h2
    unfold Zf8 at hK
    by_cases c:r.kind=1
    ·rw [if_pos c] at hK
     by_cases d:60 < r.w
     ·have d':(60:Int) < (r.w:Int):=by omega
      rw [if_pos d] at hK
      simp -dsimp -implicitDefEqProofs only [↓STP,STQ,seval,Zab,Zad,eq_true c,eq_true d']
      exact hK (by decide) _ zkn F'
     ·have d':¬ (60:Int) < (r.w:Int):=by omega
      rw [if_neg d] at hK
      have hvv:v=r.val:=hv (by omega)
      subst hvv
      have hm2:(if (r.w:Int) > ((max σ.most m:Nat):Int) then (r.w:Int) else ((max σ.most m:Nat):Int))=((max (max σ.most m) r.w:Nat):Int):=by split <;> omega
      simp -dsimp -implicitDefEqProofs only [↓STP,STQ,seval,Zab,Zad,eq_true c,eq_false d',gx,Lr.cs,Za1,hm2]
      obtain ⟨A2,F2⟩:=A'.count { σ with most:=max (max σ.most m) r.w } rfl (Nat.le_refl _)
      have A3:Rt p L { σ with most:=max σ.most (max m r.w) } (h'.set L.x (.cells (L.cs p { σ with most:=max (max σ.most m) r.w }))):=by
       rw [← Nat.max_assoc]; exact A2
      exact hK _ A3 (F'.trans F2)
    ·rw [if_neg c] at hK
     have hvv:v=r.val:=hv (by have:=(hr.other c).w; omega)
     subst hvv
     simp -dsimp -implicitDefEqProofs only [↓STP,STQ,seval,Zab,Zad,eq_false c]
     exact hK _ A' F'
end
end YtihjhelbdbeokaaGreatDoor
end Go.Ab
namespace Go.Ab
theorem Zfc {s t:ByteArray}:∀ {l:List (ByteArray × Kn)},Zaj t (l.filter fun r=>decide (r.1 ≠ s))=if t=s then none else Zaj t l
 | []=>by simp [Zaj]
 | (a,v) :: l=>by
  have ih:=@Zfc s t l
  by_cases c:a=s
  ·rw [List.filter_cons_of_neg (by simp [c]),ih]
   simp only [Zaj]
   by_cases d:t=s
   ·rw [if_pos d,if_pos d]
   ·rw [if_neg d,if_neg d,if_neg (fun e=>d (by rw [← c,e]))]
  ·rw [List.filter_cons_of_pos (by simp [c])]
   simp only [Zaj]
   rw [ih]
   by_cases d:a=t
   ·rw [if_pos d,if_pos d,if_neg (fun e=>c (d.trans e))]
   ·rw [if_neg d,if_neg d]
theorem Zxx {xs:List V} {c:Cap} (h:c=.any∨c=.full):(V.vec xs c).outS=some (V.vec xs c):=by
 rcases h with rfl | rfl <;> rfl
namespace YtihjhelbdbeokaaGreatDoor
section
variable {K:Out→H→Prop} {p:Prg}
def EndR (p:Prg) (L:Lr) (h:H) (K:Out→H→Prop) (r:TR TS):Prop:=
 Ans r (fun σ'=>∀ L' h',Rt p L' σ' h'→Fw L L' h h'→K (.ret (I 0)) h') (fun e=>e ≠ 0→∀ L' h',Fw L L' h h'→K (.ret (I e)) h')
def SqSs (p:Prg) (a:List Stm) (lv:Nat):Prop:=∀ (L:Lr) (σ:TS) (h:H) (K:Out→H→Prop),Rt p L σ h→TOk p σ→σ.ifs ≤ lv→EndR p L h K (Zal p a σ) →
 R 86 [.ptr L.x 0,.vec (a.map Stm.v) .any] h K
theorem loopR {k:Int} {s:ByteArray} {e:List Exp} {a b:List Stm} {l:List Kn} {lv:Nat} (okp:POk p) (hp:PV p) (ha:SqSs p a lv) (good:Zcj p (Zal p a)) {L:Lr} {σ:TS} {h:H} (A:Rt p L σ h) (ok:TOk p σ) (hifs:σ.ifs ≤ lv)
  (hl:∀ k ∈ l,KOk k) (hK:EndR p L h K (forT p s l (Zal p a) σ)):R 137 [.ptr L.x 0,(Stm.mk k s e a b).v,(nthK l 0).v,(nthK l 1).v] h K:=by
 have ok0:=Zb6 hl 0
 have ok1:=Zb6 hl 1
 unfold forT at hK
 generalize nthK l 0=k0 at *
 generalize nthK l 1=k1 at *
 refine run137 (Nat.le_of_ble_eq_true rfl) ?_
 by_cases c0:k0.kind=1
 rotate_left
 ·rw [if_pos (.inl c0)] at hK
  simp -dsimp -implicitDefEqProofs only [↓STP,STQ,seval,ir137,Zab,Stm.v_mk,eq_false c0]
  exact hK (by decide) _ _ (Fw.refl _ _)
 by_cases c1:k1.kind=1
 rotate_left
 ·rw [if_pos (.inr (.inl c1))] at hK
  simp -dsimp -implicitDefEqProofs only [↓STP,STQ,seval,ir137,Zab,Stm.v_mk,eq_true c0,eq_false c1]
  exact hK (by decide) _ _ (Fw.refl _ _)
 cases i0:k0.is with
 | false =>
  rw [if_pos (.inr (.inr (.inl i0)))] at hK
  simp -dsimp -implicitDefEqProofs only [↓STP,STQ,seval,ir137,Zab,Stm.v_mk,eq_true c0,eq_true c1,i0]
  exact hK (by decide) _ _ (Fw.refl _ _)
 | true =>
 cases i1:k1.is with
 | false =>
  rw [if_pos (.inr (.inr (.inr i1)))] at hK
  simp -dsimp -implicitDefEqProofs only [↓STP,STQ,seval,ir137,Zab,Stm.v_mk,eq_true c0,eq_true c1,i0,i1]
  exact hK (by decide) _ _ (Fw.refl _ _)
 | true =>
 rw [if_neg (by simp [c0,c1,i0,i1])] at hK
 simp -dsimp -implicitDefEqProofs only [↓STP,STQ,seval,ir137,Zab,Stm.v_mk,eq_true c0,eq_true c1,i0,i1]
 refine takenR okp A ok.steps ?_
 cases ht:Zdl p σ.env s with
 | true =>
  rw [ht,if_pos rfl] at hK
  simp -dsimp -implicitDefEqProofs only [↓STP,STQ,seval]
  exact hK (by decide) _ _ (Fw.refl _ _)
 | false =>
 rw [ht,if_neg (by decide)] at hK
 have gx:=Zam A.x
 have m4:L.es.length ≤ 1000000:=by have:=A.vl; have:=ok.steps; omega
 simp -dsimp -implicitDefEqProofs only [↓STP,STQ,seval,gx,Lr.cs]
 refine Zqh m4 ?_
 simp -dsimp -implicitDefEqProofs only [↓STP,STQ,seval,gx,Lr.cs,Zad]
 obtain ⟨A1,F1⟩:=A.write (L':={ L with es:=L.es.filter fun r=>decide (r.1 ≠ s),vc:=.any }) (σ':={ σ with env:={ σ.env with vars:=setV σ.env.vars s none } }) rfl rfl rfl rfl
  (fun t=>by
   show Zaj t (L.es.filter _)=(setV σ.env.vars s none t).map _
   rw [Zfc,A.es]; unfold setV
   by_cases c:t=s
   ·rw [if_pos c,if_pos c]; rfl
   ·rw [if_neg c,if_neg c]) (Nat.le_trans (List.length_filter_le _ _) A.vl) A.ll (.inl rfl) A.cl A.cw
 have ok1':TOk p { σ with env:={ σ.env with vars:=setV σ.env.vars s none } }:=⟨ok.env.setV (fun k w h=>by cases h),ok.steps,ok.most⟩
 have hv1:=ok1.lt
 have hv0:=ok0.lt
 refine Zai (fun c s'=>∃ n τ L' h',c=k1.val + 1 - n∧n ≤ 1152921504606846976∧Rt p L' τ h'∧TOk p τ∧τ.ifs=σ.ifs∧Fw L L' h h' ∧
  EndR p L h K (Zgu (Zoy s (Zal p a)) (k1.val + 1 - n) n τ) ∧
  s'=⟨upd (upd (upd (upd ρ0 0 (.ptr L.x 0)) 5 (.lptr 0 5 0)) 7 (.lptr 1 4 0)) 9 (W n),upd (upd m0 0 (some [I k,.str s,.vec (e.map Exp.v) .any,.vec (a.map Stm.v) .any,.vec (b.map Stm.v) .any])) 1 (some [I k1.kind,I k1.w,.bool true,W k1.val]),2,[],h'⟩)
  (i:=k1.val + 1 - k0.val) ⟨k0.val,_,_,_,rfl,by omega,A1,ok1',rfl,F1,hK,by simp -dsimp -implicitDefEqProofs only [↓STP,STQ,seval] <;> rfl⟩ ?_ mono
 rintro c s' ⟨n,τ,L',h',rfl,hn,A',okτ,hτi,F',hK',rfl⟩
 by_cases hle:n ≤ k1.val
 rotate_left
 ·have hle':¬ ((n:Nat):Int) ≤ ((k1.val:Nat):Int):=by omega
  rw [show k1.val + 1 - n=0 by omega,Zgu] at hK'
  simp -dsimp -implicitDefEqProofs only [↓STP,STQ,seval,eq_false hle']
  exact hK' _ _ A' F'
 ·have hle':((n:Nat):Int) ≤ ((k1.val:Nat):Int):=by omega
  simp -dsimp -implicitDefEqProofs only [↓STP,STQ,seval,eq_true hle']
  rw [show k1.val + 1 - n=(k1.val + 1 - (n + 1)) + 1 by omega,Zgu] at hK'
  unfold Zoy at hK'
  rw [← F'.x]
  refine stepR A' okτ.steps ?_
  unfold Zhu at hK' ⊢
  by_cases hst:10000 ≤ τ.steps
  ·rw [if_pos hst]
   rw [if_pos hst] at hK'
   simp -dsimp -implicitDefEqProofs only [↓STP,STQ,seval]
   exact hK' (by decide) _ _ F'
  ·rw [if_neg hst]
   rw [if_neg hst] at hK'
   simp only [Zau] at hK'
   rw [Zc1]
   intro h2 A2 F2
   have gx2:=Zam A2.x
   have clo:=Zxx (xs:=(lps τ.env).map nmV) A2.cl
   have ll2:(lps τ.env).length ≤ 10000:=by have:=A'.ll; have:=okτ.steps; unfold lps; rw [List.length_map]; omega
   simp -dsimp -implicitDefEqProofs only [↓STP,STQ,seval,gx2,Lr.cs,clo]
   rw [Zrs (sz:=5) (by simp) Zmf (by decide) (by decide) (by rw [List.length_map]; show 0 + _ ≤ _; omega)]
   obtain ⟨A3,F3⟩:=A2.write (L':={ L' with lc:=.any }) (σ':={ τ with steps:=τ.steps + 1,env:={ τ.env with loops:=τ.env.loops ++ [(s,n)] } }) rfl rfl rfl rfl A2.es A2.vl
    (by show (τ.env.loops ++ [(s,n)]).length ≤ τ.steps + 1; have:=A'.ll; simp; omega) A2.cv (.inl rfl) A2.cw
   have hl3:(lps { τ.env with loops:=τ.env.loops ++ [(s,n)] }).map nmV=(lps τ.env).map nmV ++ [nmV (s,kcon n)]:=by unfold lps; rw [List.map_append,List.map_append]; rfl
   have hcs:Lr.cs p { L' with lc:=.any } { τ with steps:=τ.steps + 1,env:={ τ.env with loops:=τ.env.loops ++ [(s,n)] } }=[.vec (p.ins.map InD.v) .any,.vec (p.arrays.map ArD.v) .any,.vec (p.body.map Stm.v) .any,.vec (L'.es.map nmV) L'.vc,.vec ((lps τ.env).map nmV ++ [nmV (s,kcon n)]) .any,L'.ov,I (τ.steps + 1:Nat),I τ.most,I τ.ifs]:=by
    rw [← hl3]; rfl
   rw [hcs] at A3 F3
   have ok3:TOk p { τ with steps:=τ.steps + 1,env:={ τ.env with loops:=τ.env.loops ++ [(s,n)] } }:=⟨⟨okτ.env.vars,fun t m hm=>by
    have hm:(t,m) ∈ τ.env.loops ++ [(s,n)]:=hm
    rcases List.mem_append.1 hm with hm | hm
    ·exact okτ.env.loops t m hm
    ·rw [List.mem_singleton] at hm; cases hm; omega,okτ.env.wlen,okτ.env.words⟩,by show τ.steps + 1 ≤ 10000; omega,okτ.most⟩
   by_cases hz:((lps τ.env).map nmV).length=0
   case' pos =>
    have hz':(lps τ.env).map nmV=[]:=List.eq_nil_of_length_eq_zero hz
    rw [if_pos hz]
    simp -dsimp -implicitDefEqProofs only [↓STP,STQ,seval]
    refine Zwl (by omega) ?_
    simp -dsimp -implicitDefEqProofs only [↓STP,STQ,seval,Zab]
    rw [Zxn (sz:=5) (by simp) rfl (by decide) (by decide) (by decide)]
    simp -dsimp -implicitDefEqProofs only [↓STP,STQ,seval,gx2,Lr.cs,Zad,mkEl,V.cells]
    rw [show V.vec [V.agg [.str s,I (kcon n).kind,I (kcon n).w,.bool (kcon n).is,W (kcon n).val]] .any=V.vec ((lps τ.env).map nmV ++ [V.agg [.str s,I (kcon n).kind,I (kcon n).w,.bool (kcon n).is,W (kcon n).val]]) .any from by rw [hz']; rfl]
   case' neg =>
    rw [if_neg hz]
    simp -dsimp -implicitDefEqProofs only [↓STP,STQ,seval]
    refine Zwl (by omega) ?_
    simp -dsimp -implicitDefEqProofs only [↓STP,STQ,seval,Zab]
    rw [Zcu (sz:=5) (by simp) (by simpa using Zi0) rfl (by decide) (by decide) (by simp; omega)]
    simp -dsimp -implicitDefEqProofs only [↓STP,STQ,seval,gx2,Lr.cs,Zad,mkEl,V.cells]
   all_goals
    refine ha { L' with lc:=.any } _ _ _ A3 ok3 (by show τ.ifs ≤ lv; omega) ?_
    cases hr:Zal p a { τ with steps:=τ.steps + 1,env:={ τ.env with loops:=τ.env.loops ++ [(s,n)] } } with
    | error er =>
     rw [hr] at hK'
     intro hne L4 h4 F4
     simp -dsimp -implicitDefEqProofs only [↓STP,STQ,seval,eq_false hne]
     exact hK' hne _ _ (((F'.trans F2).trans F3).trans F4)
    | ok σ4 =>
     rw [hr] at hK'
     simp only [Zau] at hK'
     have kp:=good _ _ ok3 hr
     intro L4 h4 A4 F4
     have gx4:=Zam A4.x
     rw [F4.x] at gx4
     simp only at gx4
     have st4:τ.steps + 1 ≤ σ4.steps:=kp.steps
     have hx4:L4.x=L'.x:=F4.x
     obtain ⟨A5,F5⟩:=A4.write (L':={ L4 with lc:=L'.lc,x:=L'.x }) (σ':={ σ4 with env:={ σ4.env with loops:=τ.env.loops } }) hx4.symm rfl rfl rfl A4.es A4.vl
      (by show τ.env.loops.length ≤ σ4.steps; have:=A'.ll; omega) A4.cv A2.cl A4.cw
     simp -dsimp -implicitDefEqProofs only [↓STP,STQ,seval,gx4,Lr.cs,clo,Zad,wuaddM (show n < 18446744073709551615 by omega)]
     rw [hx4] at A5 F5
     refine ⟨k1.val + 1 - (n + 1),by omega,n + 1,{ σ4 with env:={ σ4.env with loops:=τ.env.loops } },{ L4 with lc:=L'.lc,x:=L'.x },_,rfl,by omega,A5,⟨⟨kp.ok.env.vars,okτ.env.loops,kp.ok.env.wlen,kp.ok.env.words⟩,kp.ok.steps,kp.ok.most⟩,kp.ifs.trans hτi,(((F'.trans F2).trans F3).trans F4).trans F5,hK',?_⟩
     rw [F'.x]; rfl
end
end YtihjhelbdbeokaaGreatDoor
end Go.Ab
namespace Go.Ab
def ovO (o:Option Nat) (k:Nat):V:=match o with
 | some id=>.ref id 0 k 1
 | none=>.vec [] .any
def ovL (o:Option Nat) (k:Nat):V:=match o with
 | some id=>.ref id 0 k 1
 | none=>.vec [] (.own 0)
def ovN (o:Option Nat):Nat:=match o with
 | some _=>0
 | none=>1
structure Cp (wss:List (List Nat)) (h h':H) (o:Option Nat) (rs:List (Nat × Nat)):Prop where
 len:rs.length=wss.length
 ho:match o with
  | some id=>h'.objs id=some (.cells (rs.map refV))
  | none=>rs=[]
 ws:∀ (i:Nat) (ws:List Nat),wss[i]?=some ws→∃ id,rs[i]?=some (id,ws.length)∧h'.objs id=some (.cells (Zar ws))
 nd:(o.toList ++ rs.map (·.1)).Nodup
 ge:∀ id ∈ o.toList ++ rs.map (·.1),h.next ≤ id∧id < h'.next
 old:∀ id,id < h.next→h'.objs id=h.objs id
 nx:h.next ≤ h'.next
theorem Cp.nil {h:H}:Cp [] h h none []:=⟨rfl,rfl,by simp,by simp,by simp,fun _ _=>rfl,Nat.le_refl _⟩
theorem Zci {h:H} {id j:Nat} {o:O}:(h.move id o).objs j=if j=h.next then some o else if j=id then none else h.objs j:=by
 simp only [H.move,upd]
theorem Zs1 {h:H} {id:Nat} {o:O}:(h.move id o).next=h.next + 1:=rfl
def Zpk (h:H) (o:Option Nat) (rs:List (Nat × Nat)) (ws:List Nat):H:=match o with
 | some id=>(h.new (.cells (Zar ws))).move id (.cells ((rs ++ [(h.next,ws.length)]).map refV))
 | none=>(h.new (.cells (Zar ws))).new (.cells ((rs ++ [(h.next,ws.length)]).map refV))
theorem Cp.grow {wss:List (List Nat)} {h h':H} {o:Option Nat} {rs:List (Nat × Nat)} (c:Cp wss h h' o rs) (ws:List Nat):Cp (wss ++ [ws]) h (Zpk h' o rs ws) (some (h'.next + 1)) (rs ++ [(h'.next,ws.length)]):=by
 have hr:∀ r ∈ rs,h.next ≤ r.1∧r.1 < h'.next:=fun r hr=>c.ge r.1 (List.mem_append_right _ (List.mem_map.2 ⟨r,hr,rfl⟩))
 have hnx:(Zpk h' o rs ws).next=h'.next + 2:=by unfold Zpk; cases o <;> rfl
 have hobj:∀ j,(Zpk h' o rs ws).objs j=if j=h'.next + 1 then some (.cells ((rs ++ [(h'.next,ws.length)]).map refV)) else if o=some j∧j ≠ h'.next then none else if j=h'.next then some (.cells (Zar ws)) else h'.objs j:=by
  intro j
  have:=c.nx
  unfold Zpk
  cases ho:o with
  | none=>simp only [Zae,Zah]; simp
  | some id =>
   have hid:=c.ge id (by rw [ho]; simp)
   rw [Zci,Zae]
   show (if j=h'.next + 1 then some (O.cells ((rs ++ [(h'.next,ws.length)]).map refV)) else if j=id then none else if j=h'.next then some (O.cells (Zar ws)) else h'.objs j)=_
   by_cases c1:j=h'.next + 1
   ·rw [if_pos c1,if_pos c1]
   ·rw [if_neg c1,if_neg c1]
    by_cases c2:j=id
    ·rw [if_pos c2,if_pos ⟨by rw [c2],by omega⟩]
    ·rw [if_neg c2,if_neg (show ¬ (some id=some j∧j ≠ h'.next) from fun e=>c2 (Option.some.inj e.1).symm)]
 have hne:∀ r ∈ rs,o ≠ some r.1:=fun r hr e=>by
  have hd:=c.nd
  rw [e] at hd
  simp only [Option.toList_some,List.cons_append,List.nil_append,List.nodup_cons,List.mem_map] at hd
  exact hd.1 ⟨r,hr,rfl⟩
 refine ⟨by simp [c.len],?_,fun i w hi=>?_,?_,fun id hid=>?_,fun id hid=>?_,by rw [hnx]; have:=c.nx; omega⟩
 ·show (Zpk h' o rs ws).objs (h'.next + 1)=_
  rw [hobj,if_pos rfl]
 ·rcases Nat.lt_or_ge i wss.length with hl | hl
  ·rw [List.getElem?_append_left hl] at hi
   obtain ⟨id,a,b⟩:=c.ws i w hi
   have hm:=List.mem_of_getElem? a
   have hh:=hr _ hm
   simp only at hh
   refine ⟨id,by rw [List.getElem?_append_left (by rw [c.len]; exact hl)]; exact a,?_⟩
   rw [hobj,if_neg (by omega),if_neg (fun e=>hne _ hm e.1),if_neg (by omega)]
   exact b
  ·rw [List.getElem?_append_right hl] at hi
   have h0:i - wss.length=0:=by
    rcases Nat.eq_zero_or_pos (i - wss.length) with h0 | h0
    ·exact h0
    ·rw [List.getElem?_eq_none (by simp; omega)] at hi; cases hi
   rw [h0] at hi
   cases hi
   refine ⟨h'.next,by rw [List.getElem?_append_right (by rw [c.len]; exact hl),c.len,h0]; rfl,?_⟩
   rw [hobj,if_neg (by omega),if_neg (fun e=>e.2 rfl),if_pos rfl]
 ·have hd:=c.nd
  rw [List.nodup_append] at hd
  simp only [Option.toList_some,List.cons_append,List.nil_append,List.map_append,List.map_cons,List.map_nil,List.nodup_cons,List.mem_append,List.mem_map,List.mem_singleton,not_or,List.nodup_append]
  refine ⟨⟨fun ⟨r,h1,h2⟩=>?_,by omega⟩,hd.2.1,by simp,fun a ⟨r,h1,h2⟩ b hb=>?_⟩
  ·have:=hr r h1; omega
  ·have:=hr r h1; omega
 ·rw [hnx]
  have:=c.nx
  simp only [Option.toList_some,List.cons_append,List.nil_append,List.map_append,List.map_cons,List.map_nil,List.mem_cons,List.mem_append,List.mem_map,List.not_mem_nil,or_false] at hid
  rcases hid with rfl | ⟨r,h1,rfl⟩ | rfl
  ·omega
  ·have:=hr r h1; omega
  ·omega
 ·have h1:=c.nx
  rw [hobj,if_neg (by omega),if_neg (fun e=>by
   have:=c.ge id (by rw [e.1]; simp)
   omega),if_neg (by omega)]
  exact c.old id hid
theorem app_o1 {st:S} {s s' a b:Nat} {c:Cap} (hs:s' ∉ st.u):appV st s (.vec [] (.own s')) (.vec [.ref a 0 b 1] c) 1 24 false true=some (.ref st.h.next 0 1 1,st.withH (st.h.new (.cells [.ref a 0 b 1]))):=by
 simp [appV,lenV,flat,V.cells,hs,most]
theorem app_o2 {st:S} {s id k a b:Nat} {c:Cap} {cs:List V} (hg:st.h.get id=some cs) (hl:cs.length=k) (hk:k ≤ 4294967295):appV st s (.ref id 0 k 1) (.vec [.ref a 0 b 1] c) 1 24 false true=some (.ref st.h.next 0 (k + 1) 1,st.withH (st.h.move id (.cells (cs ++ [.ref a 0 b 1])))):=by
 have h1:k + 1 ≤ most:=by unfold most; omega
 simp [appV,lenV,flat,V.cells,hg,hl,h1]
namespace YtihjhelbdbeokaaGreatDoor
section
variable {K:Out→H→Prop}
theorem copiedR {wss:List (List Nat)} {h:H} {o:Option Nat} {rs:List (Nat × Nat)} (len:rs.length=wss.length) (hlen:wss.length ≤ 4294967295)
  (ho:match o with
   | some id=>h.objs id=some (.cells (rs.map refV))∧id < h.next
   | none=>rs=[])
  (ws:∀ (i:Nat) (ws:List Nat),wss[i]?=some ws→∃ id,rs[i]?=some (id,ws.length)∧h.objs id=some (.cells (Zar ws))∧id < h.next)
  (pos:∀ ws ∈ wss,0 < ws.length∧ws.length ≤ 1000000)
  (hK:∀ h' o' rs',Cp wss h h' o' rs'→K (.ret (ovO o' rs'.length)) h') :
  R 162 [ovO o rs.length] h K:=by
 refine run162 (Nat.le_of_ble_eq_true rfl) ?_
 cases o with
 | none =>
  simp only at ho
  subst ho
  have hw:wss=[]:=List.eq_nil_of_length_eq_zero len.symm
  subst hw
  have e0:ovO none ([]:List (Nat × Nat)).length=.vec [] .any:=rfl
  rw [e0]
  simp -dsimp -implicitDefEqProofs only [↓STP,STQ,seval,ir162]
  refine Zai (fun k s=>s=⟨upd (upd (upd ρ0 0 (.vec [] .any)) 3 (.vec [] (.own 0))) 4 (I 0),m0,1,[],h⟩) (i:=0) (by simp -dsimp -implicitDefEqProofs only [↓STP,STQ,seval] <;> rfl) ?_ mono
  rintro k s rfl
  simp -dsimp -implicitDefEqProofs only [↓STP,STQ,seval,Int.lt_irrefl]
  exact hK h none [] Cp.nil
 | some id =>
 obtain ⟨ho1,ho2⟩:=ho
 have e0:ovO (some id) rs.length=.ref id 0 rs.length 1:=rfl
 rw [e0]
 simp -dsimp -implicitDefEqProofs only [↓STP,STQ,seval,ir162]
 refine Zai (fun k s=>∃ j o' rs' h',j ≤ wss.length∧k=wss.length - j∧Cp (wss.take j) h h' o' rs'∧(o'=none ↔ j=0) ∧
  s=⟨upd (upd (upd ρ0 0 (.ref id 0 rs.length 1)) 3 (ovL o' j)) 4 (I j),m0,ovN o',[],h'⟩) (i:=wss.length) ⟨0,none,[],h,Nat.zero_le _,rfl,Cp.nil,by simp,by simp -dsimp -implicitDefEqProofs only [↓STP,STQ,seval,ovL,ovN] <;> rfl⟩ ?_ mono
 rintro k s ⟨j,o',rs',h',hj,rfl,c,hoj,rfl⟩
 rcases Nat.lt_or_ge j wss.length with hi | hi
 ·have hw:=List.getElem?_eq_getElem hi
  have hm:=List.getElem_mem hi
  have htk:wss.take (j + 1)=wss.take j ++ [wss[j]]:=by rw [List.take_add_one,hw]; rfl
  obtain ⟨p1,p2⟩:=pos _ hm
  generalize wss[j]=w at *
  obtain ⟨id0,a1,a2,a3⟩:=ws j w hw
  have g0:h'.get id=some (rs.map refV):=Zam ((c.old id ho2).trans ho1)
  have g1:h'.get id0=some (Zar w):=Zam ((c.old id0 a3).trans a2)
  have g2:(rs.map refV)[j]?=some (.ref id0 0 w.length 1):=by rw [List.getElem?_map,a1]; rfl
  have lj:((j:Nat):Int) < ((rs.length:Nat):Int):=by omega
  have hrl:rs'.length=j:=by rw [c.len,List.length_take]; omega
  have an:=fun (st:S) (q:st.h=h') (s:Nat)=>Zm4 (st:=st) (s:=s) (by rw [q]; exact g1) Zbq p1 (by omega)
  have c':=c.grow w
  rw [← htk] at c'
  have w1:=wi (show j < 9000000000000000000 by omega)
  cases o' with
  | none =>
   have hj0:j=0:=hoj.1 rfl
   have hr0:rs'=[]:=c.ho
   simp -dsimp -implicitDefEqProofs only [↓STP,STQ,seval,ovL,ovN,eq_true lj,g0,g2,Nat.mul_one]
   rw [Zm4 g1 Zbq p1 (by omega)]
   simp -dsimp -implicitDefEqProofs only [↓STP,STQ,seval]
   rw [app_o1 (by simp)]
   simp -dsimp -implicitDefEqProofs only [↓STP,STQ,seval,w1]
   refine ⟨wss.length - (j + 1),by omega,j + 1,some (h'.next + 1),_,_,hi,rfl,c',by simp,?_⟩
   subst hr0
   subst hj0
   rfl
  | some oid =>
   have hob:h'.objs oid=some (.cells (rs'.map refV)):=c.ho
   have hlt:=(c.ge oid (by simp)).2
   simp -dsimp -implicitDefEqProofs only [↓STP,STQ,seval,ovL,ovN,eq_true lj,g0,g2,Nat.mul_one]
   rw [Zm4 g1 Zbq p1 (by omega)]
   simp -dsimp -implicitDefEqProofs only [↓STP,STQ,seval]
   rw [app_o2 (cs:=rs'.map refV) (Zam (by show (h'.new _).objs oid=_; rw [Zae,if_neg (by omega)]; exact hob)) (by rw [List.length_map]; exact hrl) (by omega)]
   simp -dsimp -implicitDefEqProofs only [↓STP,STQ,seval,w1]
   refine ⟨wss.length - (j + 1),by omega,j + 1,some (h'.next + 1),_,_,hi,rfl,c',by simp,?_⟩
   unfold Zpk
   rw [List.map_append]
   rfl
 ·have hj':j=wss.length:=by omega
  subst hj'
  rw [List.take_length] at c
  have lj:¬ ((wss.length:Nat):Int) < ((rs.length:Nat):Int):=by omega
  have hh:=hK h' o' rs' c
  rw [c.len] at hh
  cases o' with
  | none =>
   simp -dsimp -implicitDefEqProofs only [↓STP,STQ,seval,ovL,ovN,eq_false lj]
   exact hh
  | some oid =>
   simp -dsimp -implicitDefEqProofs only [↓STP,STQ,seval,ovL,ovN,eq_false lj]
   exact hh
end
end YtihjhelbdbeokaaGreatDoor
end Go.Ab
namespace Go.Ab
def Ziu (a b:Option Kn):Option Kn:=match a,b with
 | some x,some y=>if x.kind=y.kind then some ⟨x.kind,max x.w y.w,false,0⟩ else none
 | _,_=>none
def Zdj (l a b:List (ByteArray × Kn)):List (ByteArray × Kn):=l.filterMap fun r=>(Ziu (Zaj r.1 a) (Zaj r.1 b)).map fun k=>(r.1,k)
theorem Zlg {a b:List (ByteArray × Kn)} {s:ByteArray}:∀ {l:List (ByteArray × Kn)},Zaj s (Zdj l a b)=match Zaj s l with | some _=>Ziu (Zaj s a) (Zaj s b) | none=>none
 | []=>rfl
 | (t,v) :: l=>by
  have ih:=@Zlg a b s l
  have e:Zdj ((t,v) :: l) a b=(match Ziu (Zaj t a) (Zaj t b) with | some k=>[(t,k)] | none=>[]) ++ Zdj l a b:=by
   unfold Zdj
   rw [List.filterMap_cons]
   cases Ziu (Zaj t a) (Zaj t b) <;> rfl
  have e1:Zaj s ((t,v) :: l)=if t=s then some v else Zaj s l:=rfl
  rw [e,e1]
  by_cases c:t=s
  ·subst c
   rw [if_pos rfl]
   cases hb:Ziu (Zaj t a) (Zaj t b) with
   | some k=>simp [Zaj]
   | none =>
    simp only [List.nil_append]
    rw [ih,hb]; cases Zaj t l <;> rfl
  ·rw [if_neg c]
   cases hb:Ziu (Zaj t a) (Zaj t b) with
   | some k=>simp only [List.cons_append,List.nil_append,Zaj]; rw [if_neg c]; exact ih
   | none=>simp only [List.nil_append]; exact ih
theorem Zoj {l a b:List (ByteArray × Kn)}:(Zdj l a b).length ≤ l.length:=List.length_filterMap_le _ _
theorem Ztx {l a b:List (ByteArray × Kn)} {j:Nat} (h:j < l.length):Zdj (l.take (j + 1)) a b=Zdj (l.take j) a b ++ ((Ziu (Zaj l[j].1 a) (Zaj l[j].1 b)).map fun k=>(l[j].1,k)).toList:=by
 unfold Zdj
 rw [List.take_add_one,List.getElem?_eq_getElem h,List.filterMap_append]
 congr 1
namespace YtihjhelbdbeokaaGreatDoor
section
variable {K:Out→H→Prop} {h:H}
theorem bothR {l a b:List (ByteArray × Kn)} (hl:l.length ≤ 1000000) (ha:a.length ≤ 1000000) (hb:b.length ≤ 1000000) (hK:K (.ret (.vec ((Zdj l a b).map nmV) .any)) h) :
  R 163 [.vec (l.map nmV) .any,.vec (a.map nmV) .any,.vec (b.map nmV) .any] h K:=by
 refine run163 (Nat.le_of_ble_eq_true rfl) ?_
 simp -dsimp -implicitDefEqProofs only [↓STP,STQ,seval,ir163]
 refine Zao (N:=l.length) (fun j=>⟨upd (upd (upd (upd (upd ρ0 0 (.vec (l.map nmV) .any)) 1 (.vec (a.map nmV) .any)) 2 (.vec (b.map nmV) .any)) 7 (.vec ((Zdj (l.take j) a b).map nmV) (.own 0))) 8 (I j),m0,1,[],h⟩) (fun j=>True) (by simp -dsimp -implicitDefEqProofs only [↓STP,STQ,seval] <;> rfl) trivial (fun j hj pj=>?_) (fun pj=>?_) mono
 ·have g:(l.map nmV)[j]?=some (nmV l[j]):=by rw [List.getElem?_map,List.getElem?_eq_getElem hj]; rfl
  have lj:(j:Int) < (l.length:Int):=by omega
  have e:=Ztx (a:=a) (b:=b) hj
  have hlen:=@Zoj (l.take j) a b
  rw [List.length_take] at hlen
  rw [e]
  generalize l[j]=r at *
  obtain ⟨s,kv⟩:=r
  simp only at *
  have w1:=wi (show j < 9000000000000000000 by omega)
  have m1:a.length ≤ 9223372036854775807:=by omega
  have m2:b.length ≤ 9223372036854775807:=by omega
  simp -dsimp -implicitDefEqProofs only [↓STP,STQ,seval,List.length_map,eq_true lj,g,nmV]
  refine Zwh m1 ?_
  simp -dsimp -implicitDefEqProofs only [↓STP,STQ,seval,g,nmV,eq_self]
  refine Zwh m2 ?_
  cases ca:Zaj s a with
  | none =>
   have hr:Ziu none (Zaj s b)=none:=rfl
   rw [hr]
   simp -dsimp -implicitDefEqProofs only [↓STP,STQ,seval,eq_false (Zdp ca),w1]
   simp only [Option.map_none,Option.toList_none,List.append_nil]
  | some x =>
   obtain ⟨ix,x1,x2⟩:=ix_at ca
   rw [x1]
   cases cb:Zaj s b with
   | none =>
    have hr:Ziu (some x) none=none:=rfl
    rw [hr]
    simp -dsimp -implicitDefEqProofs only [↓STP,STQ,seval,eq_true (Zge ix),eq_false (Zdp cb),w1]
    simp only [Option.map_none,Option.toList_none,List.append_nil]
   | some y =>
    obtain ⟨iy,y1,y2⟩:=ix_at cb
    rw [y1]
    by_cases ck:x.kind=y.kind
    ·have hr:Ziu (some x) (some y)=some ⟨x.kind,max x.w y.w,false,0⟩:=if_pos ck
     have hmx:(if (y.w:Int) > (x.w:Int) then (y.w:Int) else (x.w:Int))=((max x.w y.w:Nat):Int):=by split <;> omega
     rw [hr]
     simp -dsimp -implicitDefEqProofs only [↓STP,STQ,seval,eq_true (Zge ix),eq_true (Zge iy),x2,y2,g,nmV,eq_true ck,Za1,hmx]
     rw [Zcu (sz:=5) (by simp) (by simpa [nmV] using Zi0) rfl (by decide) (by decide) (by rw [List.length_map]; omega)]
     simp -dsimp -implicitDefEqProofs only [↓STP,STQ,seval,w1,mkEl,V.cells]
     simp only [Option.map_some,Option.toList_some,List.map_append]
     rfl
    ·have hr:Ziu (some x) (some y)=none:=if_neg ck
     rw [hr]
     simp -dsimp -implicitDefEqProofs only [↓STP,STQ,seval,eq_true (Zge ix),eq_true (Zge iy),x2,y2,g,nmV,eq_false ck,w1]
     simp only [Option.map_none,Option.toList_none,List.append_nil]
 ·have lj:¬ (l.length:Int) < (l.length:Int):=by omega
  simp -dsimp -implicitDefEqProofs only [↓STP,STQ,seval,List.length_map,eq_false lj]
  rw [List.take_length]
  exact hK
end
end YtihjhelbdbeokaaGreatDoor
end Go.Ab
namespace Go.Ab
def cpC (n s:Nat):Cap:=if n=0 then .full else .own s
def cpA (n:Nat):Cap:=if n=0 then .full else .any
theorem cp_outs {xs:List V} {n s:Nat}:(V.vec xs (cpC n s)).outS=some (V.vec xs (cpA n)):=by
 unfold cpC cpA; split <;> rfl
theorem cpA_or (n:Nat):cpA n=.any∨cpA n=.full:=by unfold cpA; split; exact .inr rfl; exact .inl rfl
theorem Zrt {st:S} {s:Nat} {xs:List V} {c2:Cap} (hy:∀ e ∈ xs,e.cells.length=5∧mkEl true e.cells=e) (hl:xs.length ≤ 4294967296) :
  appV st s (.vec [] .full) (.vec xs c2) 5 48 true false=some (.vec xs (cpC xs.length s),st):=by
 rw [Zrs (sz:=5) (by simp) hy (by decide) (by decide) (by simpa using hl)]
 unfold cpC
 split
 ·rename_i h; rw [List.eq_nil_of_length_eq_zero h]
 ·rw [List.nil_append]
theorem Lr.ov_out {L:Lr}:L.ov.out=some (ovO L.o L.rs.length):=by
 unfold Lr.ov ovO; cases L.o <;> rfl
theorem Rt.frame {p:Prg} {L:Lr} {σ:TS} {h h':H} (A:Rt p L σ h) (hn:h.next ≤ h'.next) (e:∀ id ∈ L.own,h'.objs id=h.objs id):Rt p L σ h':=by
 refine ⟨(e _ L.x_mem).trans A.x,?_,A.es,A.len,fun i ws hi=>?_,A.nd,fun id hid=>Nat.lt_of_lt_of_le (A.lt id hid) hn,A.vl,A.ll,A.cv,A.cl,A.cw⟩
 ·have h0:=A.o
  have hm:=fun id (q:L.o=some id)=>e id (L.o_mem q)
  revert h0 hm
  cases L.o with
  | none=>intro h0 _; exact h0
  | some id=>intro h0 hm; exact (hm id rfl).trans h0
 ·obtain ⟨id,a,b⟩:=A.ws i ws hi
  exact ⟨id,a,(e id (L.r_mem (List.mem_of_getElem? a))).trans b⟩
theorem Rt.setWord {p:Prg} {L:Lr} {σ:TS} {h:H} (A:Rt p L σ h) {i id n:Nat} {ws ws':List Nat} (hi:σ.env.words[i]?=some ws) (hid:L.rs[i]?=some (id,n)) (hl:ws'.length=ws.length) :
  Rt p L { σ with env:={ σ.env with words:=σ.env.words.set i ws' } } (h.set id (.cells (Zar ws')))∧Fw L L h (h.set id (.cells (Zar ws'))):=by
 have hm:=List.mem_of_getElem? hid
 have nx:=A.xr hm
 simp only at nx
 have hlt:i < σ.env.words.length:=by
  rcases Nat.lt_or_ge i σ.env.words.length with h' | h'
  ·exact h'
  ·rw [List.getElem?_eq_none h'] at hi; cases hi
 refine ⟨⟨?_,?_,A.es,by rw [A.len]; simp,fun j w hj=>?_,A.nd,A.lt,A.vl,A.ll,A.cv,A.cl,A.cw⟩,⟨Nat.le_refl _,rfl,fun j _ hn=>?_,fun j hj=>.inl hj⟩⟩
 ·rw [Zac,if_neg nx.symm]; exact A.x
 ·have h0:=A.o
  have hne:=fun o (q:L.o=some o)=>A.or q hm
  revert h0 hne
  cases L.o with
  | none=>intro h0 _; exact h0
  | some o=>intro h0 hne; show (h.set _ _).objs o=_; rw [Zac,if_neg (fun q=>hne o rfl q.symm)]; exact h0
 ·have hj:(σ.env.words.set i ws')[j]?=some w:=hj
  rw [List.getElem?_set] at hj
  by_cases c:i=j
  ·subst c
   rw [if_pos rfl,if_pos hlt] at hj
   cases hj
   obtain ⟨id',a,b⟩:=A.ws i ws hi
   rw [hid] at a
   cases a
   exact ⟨id,by rw [hid,hl],by rw [Zac,if_pos rfl]⟩
  ·rw [if_neg c] at hj
   obtain ⟨id',a,b⟩:=A.ws j w hj
   have hne:id' ≠ id:=fun q=>by
    have hd:=A.nd
    simp only [Lr.own,List.nodup_cons,List.nodup_append] at hd
    have hd:=hd.2.2.1
    exact c (Zgs (f:=fun r:Nat × Nat=>r.1) hd hid a q.symm)
   exact ⟨id',a,by rw [Zac,if_neg hne]; exact b⟩
 ·rw [Zac,if_neg (fun e=>hn (by rw [e]; exact L.r_mem hm))]
theorem Rt.swap {p:Prg} {L L1:Lr} {σ σ1:TS} {h h1 h3:H} {o:Option Nat} {rs:List (Nat × Nat)} (A:Rt p L σ h) (A1:Rt p L1 σ1 h3) (hx:L1.x=L.x) (c:Cp σ.env.words h h1 o rs) (keep:∀ id,h.next ≤ id→id < h1.next→h3.objs id=h1.objs id) (hn:h1.next ≤ h3.next)
  (hlp:σ1.env.loops=σ.env.loops) (hst:σ.steps ≤ σ1.steps) {vc:Cap} (hvc:vc=.any∨vc=.full) :
  Rt p { L1 with x:=L.x,es:=L.es,vc:=vc,o:=o,wc:=.any,rs:=rs } { σ1 with env:=σ.env } (h3.set L.x (.cells (Lr.cs p { L1 with x:=L.x,es:=L.es,vc:=vc,o:=o,wc:=.any,rs:=rs } { σ1 with env:=σ.env }))):=by
 have hxl:=A.lt _ L.x_mem
 have far:∀ id ∈ o.toList ++ rs.map (·.1),id ≠ L.x:=fun id hid e=>by have:=c.ge id hid; omega
 refine ⟨by rw [Zac,if_pos rfl],?_,A.es,c.len,fun i ws hi=>?_,?_,fun id hid=>?_,Nat.le_trans A.vl hst,Nat.le_trans A.ll hst,hvc,A1.cl,.inl rfl⟩
 ·have h0:=c.ho
  have hg:=c.ge
  revert h0 hg far
  cases o with
  | none=>intro far h0 _; exact h0
  | some id =>
   intro far h0 hg
   have hq:=hg id (by simp)
   show (h3.set _ _).objs id=_
   rw [Zac,if_neg (far id (by simp)),keep id hq.1 hq.2]
   exact h0
 ·obtain ⟨id,a,b⟩:=c.ws i ws hi
  have hm:id ∈ o.toList ++ rs.map (·.1):=List.mem_append_right _ (List.mem_map.2 ⟨_,List.mem_of_getElem? a,rfl⟩)
  have hq:=c.ge id hm
  refine ⟨id,a,?_⟩
  rw [Zac,if_neg (far id hm),keep id hq.1 hq.2]
  exact b
 ·show (L.x :: (o.toList ++ rs.map (·.1))).Nodup
  rw [List.nodup_cons]
  exact ⟨fun hm=>far _ hm rfl,c.nd⟩
 ·have hid:id ∈ L.x :: (o.toList ++ rs.map (·.1)):=hid
  rw [Zbd]
  rcases List.mem_cons.1 hid with rfl | hid
  ·have:=c.nx; omega
  ·have:=c.ge id hid; omega
def mixW (a b:List (List Nat)) (i:Nat):List (List Nat):=(maxW a b).take i ++ a.drop i
theorem mix_zero {a b:List (List Nat)}:mixW a b 0=a:=by simp [mixW]
theorem mix_all {a b:List (List Nat)} (h:a.length=b.length):mixW a b a.length=maxW a b:=by
 unfold mixW
 rw [List.drop_length,List.append_nil,List.take_of_length_le (by unfold maxW; rw [List.length_zipWith]; omega)]
theorem mix_get {a b:List (List Nat)} (h:a.length=b.length) {i:Nat} (hi:i < a.length):(mixW a b i)[i]?=some a[i]:=by
 unfold mixW
 rw [List.getElem?_append_right (by rw [List.length_take]; omega),List.length_take,show i - min i (maxW a b).length=0 by unfold maxW; rw [List.length_zipWith]; omega,List.getElem?_drop,Nat.add_zero,List.getElem?_eq_getElem hi]
theorem mix_set {a b:List (List Nat)} (h:a.length=b.length) {i:Nat} (hi:i < a.length) (hb:i < b.length):(mixW a b i).set i (List.zipWith max a[i] b[i])=mixW a b (i + 1):=by
 have hl:(maxW a b).length=a.length:=by unfold maxW; rw [List.length_zipWith]; omega
 unfold mixW
 rw [List.set_append_right _ _ (by rw [List.length_take]; omega),List.length_take,show i - min i (maxW a b).length=0 by omega,List.take_add_one,List.drop_eq_getElem_cons hi,List.set_cons_zero,
  List.getElem?_eq_getElem (by omega)]
 have:(maxW a b)[i]'(by omega)=List.zipWith max a[i] b[i]:=by unfold maxW; rw [List.getElem_zipWith]
 simp [this]
end Go.Ab
namespace Go.Ab
def slV (o:Option Nat) (n:Nat):V:=match o with
 | some id=>.ref id 0 n 1
 | none=>.vec [] .full
def SlAt (h:H) (o:Option Nat) (cs:List V):Prop:=match o with
 | some id=>cs ≠ []∧h.objs id=some (.cells cs)
 | none=>cs=[]
theorem SlAt.obj {h:H} {o:Option Nat} {cs:List V} (a:SlAt h o cs) (hne:cs ≠ []):∃ id,o=some id∧h.objs id=some (.cells cs):=by
 cases o with
 | some id=>exact ⟨id,rfl,a.2⟩
 | none=>exact absurd a hne
theorem SlAt.keep {h h':H} {o:Option Nat} {cs:List V} (a:SlAt h o cs) (e:∀ id,o=some id→h'.objs id=h.objs id):SlAt h' o cs:=by
 cases o with
 | some id=>exact ⟨a.1,by rw [e id rfl]; exact a.2⟩
 | none=>exact a
end Go.Ab
namespace Go.Ab
def WordsAt (h:H) (v:V) (ws:List Nat):Prop:=
 v=.vec (Ws ws) .any∨(∃ id:Nat,id < h.next∧v=.ref id 0 ws.length 1∧h.get id=some (Ws ws))
def ListsAt (h:H) (v:V) (ls:List (List Nat)):Prop:=
 ∃ vs:List V,vs.length=ls.length∧(∀ (i:Nat) (x:V) (ws:List Nat),vs[i]?=some x→ls[i]?=some ws→WordsAt h x ws) ∧
  (v=.vec vs .any∨(∃ id:Nat,id < h.next∧v=.ref id 0 vs.length 1∧h.get id=some vs))
theorem WordsAt.frame {h h':H} {v:V} {ws:List Nat} (a:WordsAt h v ws) (hn:h.next ≤ h'.next) (e:∀ j,j < h.next→h'.objs j=h.objs j):WordsAt h' v ws:=by
 rcases a with a | ⟨id,h1,h2,h3⟩
 ·exact .inl a
 ·exact .inr ⟨id,Nat.lt_of_lt_of_le h1 hn,h2,by unfold H.get at h3 ⊢; rw [e id h1]; exact h3⟩
theorem ListsAt.frame {h h':H} {v:V} {ls:List (List Nat)} (a:ListsAt h v ls) (hn:h.next ≤ h'.next) (e:∀ j,j < h.next→h'.objs j=h.objs j):ListsAt h' v ls:=by
 obtain ⟨vs,h1,h2,h3⟩:=a
 refine ⟨vs,h1,fun i x ws hx hw=>(h2 i x ws hx hw).frame hn e,?_⟩
 rcases h3 with h3 | ⟨id,h4,h5,h6⟩
 ·exact .inl h3
 ·exact .inr ⟨id,Nat.lt_of_lt_of_le h4 hn,h5,by unfold H.get at h6 ⊢; rw [e id h4]; exact h6⟩
theorem WordsAt.out {h:H} {v:V} {ws:List Nat} (a:WordsAt h v ws):v.out=some v∧v.cells=[v]∧v.stays=true∧∀ h1:H,Zey h1 .i v=some (I ws.length):=by
 rcases a with rfl | ⟨id,_,rfl,_⟩
 ·exact ⟨rfl,rfl,rfl,fun _=>by simp [Zey,Zbb]⟩
 ·exact ⟨rfl,rfl,rfl,fun _=>rfl⟩
theorem ListsAt.out {h:H} {v:V} {ls:List (List Nat)} (a:ListsAt h v ls):v.out=some v∧v.cells=[v]∧v.stays=true∧∀ h1:H,Zey h1 .i v=some (I ls.length):=by
 obtain ⟨vs,h1,_,rfl | ⟨id,_,rfl,_⟩⟩:=a
 ·exact ⟨rfl,rfl,rfl,fun _=>by simp [Zey,h1]⟩
 ·exact ⟨rfl,rfl,rfl,fun _=>by simp [Zey,h1]⟩
theorem get1 {cs:List V} {i:Nat} {v:V} (hi:cs[i]?=some v):takeV cs i 1 false=some v:=by simp [takeV,hi]
theorem WordsAt.idx {h:H} {v:V} {ws:List Nat} (a:WordsAt h v ws) {i:Nat} (hi:i < ws.length) :
  ∃ p,Zit v (.int .i64 (i:Int)) 1=some p∧∀ m,Zep m h p 1 false=some (.int .u64 ((ws[i]:Nat):Int)):=by
 have hg:(Ws ws)[i]?=some (W ws[i]):=by rw [Ws_get,List.getElem?_eq_getElem hi]; rfl
 rcases a with rfl | ⟨id,_,rfl,h3⟩
 ·refine ⟨.iptr [W ws[i]],?_,fun m=>rfl⟩
  simp only [Zit,Int.natCast_nonneg,if_true,Int.toNat_natCast,hg]
  rfl
 ·refine ⟨.ptr id (0 + i * 1),?_,fun m=>?_⟩
  ·simp only [Zit,Int.natCast_nonneg,Int.toNat_natCast]
   rw [if_pos ⟨trivial,by omega,trivial⟩]
  ·simp only [Zep,h3]
   exact get1 (by rw [Nat.zero_add,Nat.mul_one]; exact hg)
theorem ListsAt.idx {h:H} {v:V} {ls:List (List Nat)} (a:ListsAt h v ls) {i:Nat} (hi:i < ls.length) :
  ∃ p x,Zit v (.int .i64 (i:Int)) 1=some p∧(∀ m,Zep m h p 1 false=some x)∧WordsAt h x ls[i]:=by
 obtain ⟨vs,h1,h2,h3⟩:=a
 have hi':i < vs.length:=by omega
 have hw:WordsAt h vs[i] ls[i]:=h2 i _ _ (List.getElem?_eq_getElem hi') (List.getElem?_eq_getElem hi)
 have hg:vs[i]?=some vs[i]:=List.getElem?_eq_getElem hi'
 rcases h3 with rfl | ⟨id,_,rfl,h5⟩
 ·refine ⟨.iptr [vs[i]],vs[i],?_,fun m=>rfl,hw⟩
  simp only [Zit,Int.natCast_nonneg,if_true,Int.toNat_natCast,hg,hw.out.2.1,List.length_cons,List.length_nil]
 ·refine ⟨.ptr id (0 + i * 1),vs[i],?_,fun m=>?_,hw⟩
  ·simp only [Zit,Int.natCast_nonneg,Int.toNat_natCast]
   rw [if_pos ⟨trivial,by omega,trivial⟩]
  ·simp only [Zep,h5]
   exact get1 (by rw [Nat.zero_add,Nat.mul_one]; exact hg)
end Go.Ab
namespace Go.Ab
def Zcc (d:InD):Nat:=max d.size.toNat 1
def frmD (d:InD):Nat:=(d.frm - 1).toNat
def Zgb (ls:List (List Nat)) (a:List Nat) (d:InD):List Nat:=((ls.getD (frmD d) []).drop (a.getD (frmD d) 0)).take (Zcc d)
def okD (ls:List (List Nat)) (a:List Nat) (d:InD):Prop:=frmD d < ls.length∧a.getD (frmD d) 0 + Zcc d ≤ (ls.getD (frmD d) []).length∧∀ v ∈ Zgb ls a d,v < 2 ^ d.width.toNat
instance {ls:List (List Nat)} {a:List Nat} {d:InD}:Decidable (okD ls a d):=by unfold okD; infer_instance
def Znr (a:List Nat) (d:InD):List Nat:=a.set (frmD d) (a.getD (frmD d) 0 + Zcc d)
def fitG:List InD→List (List Nat)→List Nat→Option (List Nat)
 | [],ls,a=>some a
 | d :: ds,ls,a=>if okD ls a d then fitG ds ls (Znr a d) else none
def Znu (ls:List (List Nat)):Option (List Nat)→Bool
 | some a=>decide (a=ls.map List.length)
 | none=>false
def fitB (p:Prg) (ls:List (List Nat)):Bool:=Znu ls (fitG p.ins ls (List.replicate ls.length 0))
def LV (ls:List (List Nat)):V:=.vec (ls.map fun l=>.vec (Ws l) .any) .any
structure LsOk (ls:List (List Nat)):Prop where
 len:ls.length ≤ 30
 all:∀ l ∈ ls,l.length ≤ 2000000∧∀ v ∈ l,v < 18446744073709551616
theorem Zls {ls:List (List Nat)} {i:Nat} (h:i < ls.length):(ls.map fun l=>V.vec (Ws l) .any)[i]?=some (.vec (Ws (ls.getD i [])) .any):=by
 rw [List.getElem?_map,List.getElem?_eq_getElem h,List.getD_eq_getElem?_getD,List.getElem?_eq_getElem h]; rfl
theorem LsOk.get {ls:List (List Nat)} (ok:LsOk ls) (i:Nat):(ls.getD i []).length ≤ 2000000∧∀ v ∈ ls.getD i [],v < 18446744073709551616:=by
 rw [List.getD_eq_getElem?_getD]
 cases h:ls[i]? with
 | none=>exact ⟨Nat.zero_le _,fun v hv=>by cases hv⟩
 | some l=>exact ok.all l (List.mem_of_getElem? h)
theorem Zd6 {l:List Nat} {i:Nat} (h:i < l.length):(Zar l)[i]?=some (I ((l.getD i 0:Nat):Int)):=Zcr h
theorem Zhb {l:List Nat} {i n:Nat}:(Zar l).set i (I ((n:Nat):Int))=Zar (l.set i n):=by simp [Zar,List.map_set]
theorem Zfx {n:Nat}:(List.replicate n [V.int .i64 0]).flatten=Zar (List.replicate n 0):=by
 induction n with
 | zero=>rfl
 | succ n ih=>rw [List.replicate_succ,List.flatten_cons,ih,List.replicate_succ]; rfl
theorem Zko {n:Nat} {w:Int} (h:1 ≤ w):(n=0∨¬ ((max (blen n) 1:Nat):Int) > w) ↔ n < 2 ^ w.toNat:=by
 have hb:=blen_le (k:=w.toNat) (n:=n)
 constructor
 ·rintro (rfl | h1)
  ·exact Nat.two_pow_pos _
  ·exact hb.1 (by omega)
 ·intro h1
  have:=hb.2 h1
  exact .inr (by omega)
theorem Zm7 {l:List Nat} {i:Nat} (h:i < l.length):(Ws l)[i]?=some (W (l.getD i 0)):=by
 rw [Ws_get,List.getElem?_eq_getElem h,List.getD_eq_getElem?_getD,List.getElem?_eq_getElem h]; rfl
theorem Zc4 {l:List Nat} {i n:Nat} (h:i < l.length):(l.set i n).getD i 0=n:=by
 rw [List.getD_eq_getElem?_getD,List.getElem?_set,if_pos rfl,if_pos h]; rfl
theorem Zhe {l:List Nat} {k i m:Nat} (h:k + i < l.length) (hm:i < m):l.getD (k + i) 0 ∈ (l.drop k).take m:=by
 rw [List.getD_eq_getElem?_getD,List.getElem?_eq_getElem h]
 refine List.mem_of_getElem? (i:=i) ?_
 rw [List.getElem?_take,if_pos hm,List.getElem?_drop,List.getElem?_eq_getElem h]; rfl
theorem Zfq {l:List Nat} {k i:Nat} (h:k + i < l.length):(l.drop k).take (i + 1)=(l.drop k).take i ++ [l.getD (k + i) 0]:=by
 rw [List.take_add_one,List.getElem?_drop,List.getD_eq_getElem?_getD,List.getElem?_eq_getElem h]; rfl
namespace YtihjhelbdbeokaaGreatDoor
section
variable {h:H} {K:Out→H→Prop} {p:Prg}
theorem sizeI {d:InD} (h0:0 ≤ d.size) (hK:K (.ret (I ((Zcc d:Nat):Int))) h):R 103 [d.v] h K:=by
 refine run103 (Nat.le_of_ble_eq_true rfl) ?_
 have hm:(if (1:Int) > d.size then (1:Int) else d.size)=((Zcc d:Nat):Int):=by unfold Zcc; split <;> omega
 simp -dsimp -implicitDefEqProofs only [↓STP,STQ,seval,Zak,ir103,Za1,hm]
 exact hK
theorem fitI (v:VT p) {ls:List (List Nat)} (ok:LsOk ls) (hK:∀ h',UpH h h'→K (.ret (.bool (fitB p ls))) h'):R 70 [p.v,LV ls] h K:=by
 refine run70 (Nat.le_of_ble_eq_true rfl) ?_
 have hlen:=ok.len
 have pli:=v.ok.li
 have hm:=Za4
 simp -dsimp -implicitDefEqProofs only [↓STP,STQ,seval,Prg.v,Prg.cells,LV,ir70,List.length_map,Zmg (n:=ls.length) (sz:=1) (bytes:=8) (by omega) (by decide) (by decide),Zfx]
 unfold fitB at hK
 refine Zai (fun c s'=>∃ j a h',j ≤ p.ins.length∧c=p.ins.length - j∧a.length=ls.length∧fitG (p.ins.drop j) ls a=fitG p.ins ls (List.replicate ls.length 0)∧h'.objs h.next=some (.cells (Zar a))∧h'.next=h.next + 1∧(∀ i,i < h.next→h'.objs i=h.objs i) ∧
  s'=⟨upd (upd (upd (upd (upd ρ0 1 (LV ls)) 5 (.ref h.next 0 ls.length 1)) 16 (.vec (p.ins.map InD.v) .any)) 17 (I p.ins.length)) 18 (I j),m0,0,[],h'⟩)
  (i:=p.ins.length) ⟨0,List.replicate ls.length 0,_,Nat.zero_le _,rfl,by simp,rfl,by rw [Zae,if_pos rfl],rfl,fun i hi=>by rw [Zae,if_neg (Nat.ne_of_lt hi)],by simp -dsimp -implicitDefEqProofs only [↓STP,STQ,seval,LV] <;> rfl⟩ ?_ mono
 rintro c s' ⟨j,a,h',hj,rfl,hal,hr,ho,hn,hold,rfl⟩
 rcases Nat.lt_or_ge j p.ins.length with hi | hi
 ·have hget:=Za5 (f:=InD.v) hi
  have hdm:p.ins[j] ∈ p.ins:=List.getElem_mem hi
  have hdi:=v.ins _ hdm
  have w1:=wiM (show j < 9223372036854775807 by omega)
  have hdr:p.ins.drop j=p.ins[j] :: p.ins.drop (j + 1):=List.drop_eq_getElem_cons hi
  rw [hdr,fitG] at hr
  generalize p.ins[j]=d at *
  by_cases hfr:(ls.length:Int) < d.frm
  ·have hno:¬ okD ls a d:=fun hh=>by have:=hh.1; unfold frmD at this; have:=hdi.f1; omega
   rw [if_neg hno] at hr
   rw [← hr] at hK
   simp -dsimp -implicitDefEqProofs only [↓STP,STQ,seval,Int.ofNat_lt,hi,hget,Zak,Zad,LV,List.length_map,eq_true hfr]
   exact hK h' ⟨by omega,hold⟩
  have hf1:=hdi.f1
  have hf:frmD d < ls.length:=by unfold frmD; omega
  have hf2:=hdi.f2
  have efr:((frmD d:Nat):Int)=d.frm - 1:=by unfold frmD; omega
  have hfI:IntKind.i64.wrap (d.frm - 1)=((frmD d:Nat):Int):=by
   rw [efr,wrap_i64] <;> omega
  have hsz:Zcc d ≤ 64:=by have:=hdi.s2; unfold Zcc; omega
  have gl:=Zls hf
  obtain ⟨okl,okw⟩:=ok.get (frmD d)
  simp -dsimp -implicitDefEqProofs only [↓STP,STQ,seval,Int.ofNat_lt,hi,hget,Zak,Zad,LV,List.length_map,eq_false hfr]
  rw [← Zak]
  refine sizeI hdi.s1 ?_
  simp -dsimp -implicitDefEqProofs only [↓STP,STQ,seval]
  have hyes:okD ls a d→fitG (p.ins.drop (j + 1)) ls (Znr a d)=fitG p.ins ls (List.replicate ls.length 0):=fun q=>by rw [if_pos q] at hr; exact hr
  have hnot:¬ okD ls a d→none=fitG p.ins ls (List.replicate ls.length 0):=fun q=>by rw [if_neg q] at hr; exact hr
  clear hr
  unfold okD Zgb at hyes hnot
  unfold Znr at hyes
  generalize hfd:frmD d=f at *
  generalize hld:ls.getD f []=l at *
  generalize hkd:a.getD f 0=k0 at *
  generalize hsd:Zcc d=N at *
  have hfa:f < a.length:=by omega
  refine Zai (fun c s'=>∃ i h'',i ≤ N∧c=N - i∧(i=0∨k0 + i ≤ l.length)∧(∀ v ∈ (l.drop k0).take i,v < 2 ^ d.width.toNat)∧h''.objs h.next=some (.cells (Zar (a.set f (k0 + i))))∧h''.next=h.next + 1∧(∀ i,i < h.next→h''.objs i=h.objs i) ∧
   s'=⟨upd (upd (upd (upd (upd (upd (upd (upd ρ0 1 (LV ls)) 5 (.ref h.next 0 ls.length 1)) 7 (.lptr 0 4 0)) 16 (.vec (p.ins.map InD.v) .any)) 17 (I p.ins.length)) 18 (I j)) 28 (I N)) 29 (I i),upd m0 0 (some [.str d.name,I d.frm,I d.width,I d.size]),1,[],h''⟩)
   (i:=N) ⟨0,h',Nat.zero_le _,rfl,.inl rfl,by simp,by
    have e:a.set f (k0 + 0)=a:=by
     apply List.ext_getElem?
     intro q
     rw [List.getElem?_set]
     split
     ·rename_i e; subst e
      rw [← hkd,List.getD_eq_getElem?_getD,List.getElem?_eq_getElem hfa]; rfl
     ·rfl
    rw [e]; exact ho,hn,hold,by simp -dsimp -implicitDefEqProofs only [↓STP,STQ,seval,LV] <;> rfl⟩ ?_ mono
  rintro c s' ⟨i,h'',hiN,rfl,hki,hws,ho2,hn2,hold2,rfl⟩
  have g2:=Zam ho2
  have lset:(a.set f (k0 + i)).length=a.length:=List.length_set
  have ga:=Zd6 (l:=a.set f (k0 + i)) (i:=f) (by omega)
  rw [Zc4 hfa] at ga
  have hfI':((f:Nat):Int) < ((ls.length:Nat):Int):=by omega
  by_cases hlt:i < N
  ·have hltI:((i:Nat):Int) < ((N:Nat):Int):=by omega
   by_cases hge:l.length ≤ k0 + i
   ·have hgeI:((l.length:Nat):Int) ≤ ((k0 + i:Nat):Int):=by omega
    rw [← hnot (by rintro ⟨_,h2,_⟩; omega)] at hK
    simp -dsimp -implicitDefEqProofs only [↓STP,STQ,seval,eq_true hltI,LV,hfI,gl,Zak,InD.v_cells,eq_true hfI',Nat.mul_one,g2,ga,Zbb,eq_true hgeI]
    exact hK h'' ⟨by omega,hold2⟩
   ·have hgeI:¬ ((l.length:Nat):Int) ≤ ((k0 + i:Nat):Int):=by omega
    have hkl:k0 + i < l.length:=by omega
    have hklI:((k0 + i:Nat):Int) < ((l.length:Nat):Int):=by omega
    have gw:=Zm7 hkl
    have hvm:=Zhe hkl hlt
    have hv64:l.getD (k0 + i) 0 < 18446744073709551616:=okw _ (List.mem_of_mem_drop (List.mem_of_mem_take hvm))
    have htw:=Zfq hkl
    have wf:=Zko (n:=l.getD (k0 + i) 0) hdi.w1
    generalize l.getD (k0 + i) 0=v0 at *
    have w2:IntKind.i64.wrap (((k0 + i:Nat):Int) + 1)=((k0 + (i + 1):Nat):Int):=by rw [wrap_i64] <;> omega
    have w3:=wiM (show i < 9223372036854775807 by omega)
    have stw:=fun ρ m n' u=>Zco (ρ:=ρ) (m:=m) (n:=n') (u:=u) (j:=f) (v:=I ((k0 + (i + 1):Nat):Int)) g2 (by rw [Zbq]; omega) rfl rfl
    rw [Zhb,List.set_set] at stw
    have hnext:v0 < 2 ^ d.width.toNat→∃ (c:Nat),c < N - i∧∃ i' h3,i' ≤ N∧c=N - i'∧(i'=0∨k0 + i' ≤ l.length)∧(∀ v ∈ (l.drop k0).take i',v < 2 ^ d.width.toNat)∧h3.objs h.next=some (.cells (Zar (a.set f (k0 + i'))))∧h3.next=h.next + 1∧(∀ i,i < h.next→h3.objs i=h.objs i) ∧
      (⟨upd (upd (upd (upd (upd (upd (upd (upd ρ0 1 (LV ls)) 5 (.ref h.next 0 ls.length 1)) 7 (.lptr 0 4 0)) 16 (.vec (p.ins.map InD.v) .any)) 17 (I p.ins.length)) 18 (I j)) 28 (I N)) 29 (I ((i + 1:Nat):Int)),upd m0 0 (some [.str d.name,I d.frm,I d.width,I d.size]),1,[],h''.set h.next (.cells (Zar (a.set f (k0 + (i + 1)))))⟩:S) =
      ⟨upd (upd (upd (upd (upd (upd (upd (upd ρ0 1 (LV ls)) 5 (.ref h.next 0 ls.length 1)) 7 (.lptr 0 4 0)) 16 (.vec (p.ins.map InD.v) .any)) 17 (I p.ins.length)) 18 (I j)) 28 (I N)) 29 (I i'),upd m0 0 (some [.str d.name,I d.frm,I d.width,I d.size]),1,[],h3⟩:=fun hv0 =>
     ⟨N - (i + 1),by omega,i + 1,h''.set h.next (.cells (Zar (a.set f (k0 + (i + 1))))),hlt,rfl,.inr (by omega),fun v hv=>by
      rw [htw] at hv
      rcases List.mem_append.1 hv with hv | hv
      ·exact hws v hv
      ·rw [List.mem_singleton] at hv; subst hv; exact hv0,by rw [Zac,if_pos rfl],hn2,fun q hq=>by rw [Zac,if_neg (by omega)]; exact hold2 q hq,rfl⟩
    by_cases hz:(v0:Int)=0
    ·have hlt0:v0 < 2 ^ d.width.toNat:=wf.1 (.inl (by omega))
     simp -dsimp -implicitDefEqProofs only [↓STP,STQ,seval,eq_true hltI,LV,hfI,gl,Zak,eq_true hfI',Nat.mul_one,g2,ga,Zbb,eq_false hgeI,eq_true hklI,gw,eq_true hz,stw,w2,w3]
     exact hnext hlt0
    ·simp -dsimp -implicitDefEqProofs only [↓STP,STQ,seval,eq_true hltI,LV,hfI,gl,Zak,eq_true hfI',Nat.mul_one,g2,ga,Zbb,eq_false hgeI,eq_true hklI,gw,eq_false hz]
     refine Zhs hv64 ?_
     by_cases hw:d.width < ((max (blen v0) 1:Nat):Int)
     ·have hge0:¬ v0 < 2 ^ d.width.toNat:=fun hh=>(wf.2 hh).elim (fun e=>hz (by omega)) (fun e=>e hw)
      rw [← hnot (by rintro ⟨_,_,h3⟩; exact hge0 (h3 _ hvm))] at hK
      simp -dsimp -implicitDefEqProofs only [↓STP,STQ,seval,eq_true hw]
      exact hK h'' ⟨by omega,hold2⟩
     ·have hlt0:v0 < 2 ^ d.width.toNat:=wf.1 (.inr hw)
      simp -dsimp -implicitDefEqProofs only [↓STP,STQ,seval,eq_false hw,hfI,Nat.mul_one,eq_true hfI',g2,ga,stw,w2,w3]
      exact hnext hlt0
  ·have hiN':i=N:=by omega
   subst hiN'
   simp -dsimp -implicitDefEqProofs only [↓STP,STQ,seval,Int.lt_irrefl,w1]
   have hN1:1 ≤ i:=by rw [← hsd]; unfold Zcc; omega
   have hr:=hyes ⟨hf,by omega,hws⟩
   exact ⟨p.ins.length - (j + 1),by omega,j + 1,a.set f (k0 + i),h'',hi,rfl,by rw [List.length_set]; exact hal,hr,ho2,hn2,hold2,rfl⟩
 ·have hj':j=p.ins.length:=by omega
  subst hj'
  rw [List.drop_length,fitG] at hr
  rw [← hr] at hK
  simp -dsimp -implicitDefEqProofs only [↓STP,STQ,seval,Int.lt_irrefl,LV,List.length_map]
  have g1:=Zam ho
  refine Zao (N:=ls.length) (fun i=>⟨upd (upd (upd (upd ρ0 5 (.ref h.next 0 ls.length 1)) 74 (LV ls)) 75 (I ls.length)) 76 (I i),m0,0,[],h'⟩) (fun i=>a.take i=(ls.map List.length).take i) (by simp -dsimp -implicitDefEqProofs only [↓STP,STQ,seval,LV] <;> rfl) rfl (fun i hlt htk=>?_) (fun htk=>?_) mono
  ·have gl:=Zls hlt
   have ga:=Zd6 (l:=a) (i:=i) (by omega)
   have hltI:((i:Nat):Int) < ((ls.length:Nat):Int):=by omega
   have w3:=wiM (show i < 9223372036854775807 by omega)
   have e1:ls.getD i []=ls[i]:=by rw [List.getD_eq_getElem?_getD,List.getElem?_eq_getElem hlt]; rfl
   have e2:a.getD i 0=a[i]:=by rw [List.getD_eq_getElem?_getD,List.getElem?_eq_getElem (by omega)]; rfl
   by_cases he:((a.getD i 0:Nat):Int)=(((ls.getD i []).length:Nat):Int)
   ·simp -dsimp -implicitDefEqProofs only [↓STP,STQ,seval,eq_true hltI,LV,gl,g1,ga,Nat.mul_one,Zbb,eq_true he,w3]
    rw [List.take_add_one,List.take_add_one,htk,List.getElem?_eq_getElem (by omega),List.getElem?_map,List.getElem?_eq_getElem hlt]
    rw [e1,e2] at he
    have he:a[i]=ls[i].length:=by omega
    rw [he]; rfl
   ·have hno:Znu ls (some a)=false:=decide_eq_false fun hh=>he (by
     have this:a.getD i 0=(ls.map List.length).getD i 0:=congrArg (fun l=>l.getD i 0) hh
     rw [this,e1,List.getD_eq_getElem?_getD,List.getElem?_map,List.getElem?_eq_getElem hlt]; rfl)
    rw [hno] at hK
    simp -dsimp -implicitDefEqProofs only [↓STP,STQ,seval,eq_true hltI,LV,gl,g1,ga,Nat.mul_one,Zbb,eq_false he,w3]
    exact hK h' ⟨by omega,hold⟩
  ·have hyes:Znu ls (some a)=true:=decide_eq_true (by
    have e1:a.take ls.length=a:=List.take_of_length_le (by omega)
    have e2:(ls.map List.length).take ls.length=ls.map List.length:=List.take_of_length_le (by rw [List.length_map]; exact Nat.le_refl _)
    rw [← e1,← e2,htk])
   rw [hyes] at hK
   simp -dsimp -implicitDefEqProofs only [↓STP,STQ,seval,Int.lt_irrefl]
   exact hK h' ⟨by omega,hold⟩
end
end YtihjhelbdbeokaaGreatDoor
end Go.Ab
namespace Go.Ab
def atI0 (ls:List (List Nat)):List Nat:=List.replicate ls.length 0
def errI (p:Prg) (ls:List (List Nat)):Int:=if errT (Zbl p) ≠ 0 then errT (Zbl p) else if fitB p ls then 0 else 1
theorem Zjw {p:Prg} {ls:List (List Nat)} (h:fitB p ls=true):∃ a,fitG p.ins ls (atI0 ls)=some a:=by
 unfold fitB at h
 cases c:fitG p.ins ls (List.replicate ls.length 0) with
 | some a=>exact ⟨a,c⟩
 | none=>rw [c] at h; cases h
theorem UpH.same {h h':H} (u:UpH h h') {j:Nat} {o:O} (hj:j < h.next) (ho:h.objs j=some o):h'.objs j=some o:=by rw [u.old j hj]; exact ho
namespace YtihjhelbdbeokaaGreatDoor
section
variable {h:H} {K:Out→H→Prop} {p:Prg}
theorem checkI (v:VT p) {ls:List (List Nat)} (ok:LsOk ls) (hK:∀ h',UpH h h'→K (.ret (I (errI p ls))) h'):R 39 [p.v,LV ls] h K:=by
 refine run39 (Nat.le_of_ble_eq_true rfl) ?_
 have hv0:p.v=V.agg [.vec (p.ins.map InD.v) .any,.vec (p.arrays.map ArD.v) .any,.vec (p.body.map Stm.v) .any]:=rfl
 have hL:LV ls=.vec (ls.map fun l=>.vec (Ws l) .any) .any:=rfl
 unfold errI at hK
 simp -dsimp -implicitDefEqProofs only [↓STP,STQ,seval,ir39,hv0,hL]
 rw [← hv0]
 refine checkG v fun h1 u1=>?_
 by_cases c:errT (Zbl p)=0
 rotate_left
 ·rw [if_pos c] at hK
  simp -dsimp -implicitDefEqProofs only [↓STP,STQ,seval,eq_false c]
  exact hK h1 u1
 rw [if_neg (by simp [c])] at hK
 simp -dsimp -implicitDefEqProofs only [↓STP,STQ,seval,eq_true c,hv0,hL]
 rw [← hv0,← hL]
 refine fitI v ok fun h2 u2=>?_
 cases f:fitB p ls with
 | true =>
  rw [f] at hK
  simp -dsimp -implicitDefEqProofs only [↓STP,STQ,seval]
  exact hK h2 (u1.trans u2)
 | false =>
  rw [f] at hK
  simp -dsimp -implicitDefEqProofs only [↓STP,STQ,seval]
  exact hK h2 (u1.trans u2)
end
end YtihjhelbdbeokaaGreatDoor
end Go.Ab
namespace Go.Ab
theorem Zxg {n:Nat} (h:1 < n):max (blen n) 1=max (blen (n / 2)) 1 + 1:=by
 have h1:blen n=1 + blen (n / 2):=Zds (by omega)
 have h2:blen (n / 2)=1 + blen (n / 2 / 2):=Zds (by omega)
 omega
theorem Zt1 {n:Nat} (h:n ≤ 1):max (blen n) 1=1:=by
 have:=(blen_le (k:=1) (n:=n)).2 (by omega)
 omega
namespace YtihjhelbdbeokaaGreatDoor
section
variable {h:H} {K:Out→H→Prop} {p:Prg}
theorem Zt8 {n:Nat} (hn:n < 18446744073709551616) (hK:K (.ret (I ((max (blen n) 1:Nat):Int))) h):R 77 [W n] h K:=by
 refine run77 (Nat.le_of_ble_eq_true rfl) ?_
 simp -dsimp -implicitDefEqProofs only [↓STP,STQ,seval,ir77]
 have hb64:max (blen n) 1 ≤ 64:=by have:=(blen_le (k:=64) (n:=n)).2 (by omega); omega
 refine Zai (fun c s'=>∃ (k w:Nat),c=k∧k ≤ n∧(max (blen k) 1) + w=max (blen n) 1 + 1∧s'=⟨upd (upd ρ0 0 (W k)) 3 (I w),m0,0,[],h⟩) (i:=n) ⟨n,1,rfl,Nat.le_refl _,rfl,by simp -dsimp -implicitDefEqProofs only [↓STP,STQ,seval] <;> rfl⟩ ?_ mono
 rintro c s' ⟨k,w,rfl,hkn,hw,rfl⟩
 by_cases h1:1 < c
 ·have h1':(1:Int) < (c:Int):=by omega
  have g1:IntKind.u64.wrap (Int.tdiv (c:Int) 2)=((c / 2:Nat):Int):=by
   show IntKind.u64.wrap ((c / 2:Nat):Int)=_
   rw [Zay] <;> omega
  have hh:=Zxg h1
  have g2:=wiM (show w < 9223372036854775807 by omega)
  simp -dsimp -implicitDefEqProofs only [↓STP,STQ,seval,eq_true h1',g1,g2]
  exact ⟨c / 2,by omega,c / 2,w + 1,rfl,by omega,by omega,rfl⟩
 ·have h1':¬ (1:Int) < (c:Int):=by omega
  have hh:=Zt1 (n:=c) (by omega)
  simp -dsimp -implicitDefEqProofs only [↓STP,STQ,seval,eq_false h1']
  have e:w=max (blen n) 1:=by omega
  rw [e]
  exact hK
theorem words30 {d:InD} (h0:0 ≤ d.size) (hK:K (.ret (I ((Zcc d:Nat):Int))) h):R 34 [d.v] h K:=by
 refine run34 (Nat.le_of_ble_eq_true rfl) ?_
 by_cases c:(0:Int) < d.size
 ·have e:d.size=((Zcc d:Nat):Int):=by unfold Zcc; omega
  simp -dsimp -implicitDefEqProofs only [↓STP,STQ,seval,Zak,ir34,eq_true c]
  rw [e]
  exact hK
 ·have e:Zcc d=1:=by unfold Zcc; omega
  rw [e] at hK
  simp -dsimp -implicitDefEqProofs only [↓STP,STQ,seval,Zak,ir34,eq_false c]
  exact hK
theorem Zxu {d:InD} {N:Nat} {vd:V} (hd:vd=d.v) (h0:0 ≤ d.size) (hN:Zcc d=N) (hK:K (.ret (I ((N:Nat):Int))) h):R 34 [vd] h K:=by subst hd hN; exact words30 h0 hK
theorem fit30 (v:VT p) {ls:List (List Nat)} (ok:LsOk ls) (hK:∀ h',UpH h h'→K (.ret (.bool (fitB p ls))) h'):R 54 [p.v,LV ls] h K:=by
 refine run54 (Nat.le_of_ble_eq_true rfl) ?_
 have hlen:=ok.len
 have pli:=v.ok.li
 have hm:=Za4
 simp -dsimp -implicitDefEqProofs only [↓STP,STQ,seval,Prg.v,Prg.cells,LV,ir54,List.length_map,Zmg (n:=ls.length) (sz:=1) (bytes:=8) (by omega) (by decide) (by decide),Zfx]
 unfold fitB at hK
 refine Zai (fun c s'=>∃ j a h',j ≤ p.ins.length∧c=p.ins.length - j∧a.length=ls.length∧fitG (p.ins.drop j) ls a=fitG p.ins ls (List.replicate ls.length 0)∧h'.objs h.next=some (.cells (Zar a))∧h'.next=h.next + 1∧(∀ i,i < h.next→h'.objs i=h.objs i) ∧
  s'=⟨upd (upd (upd (upd ρ0 1 (LV ls)) 2 (.lptr 0 3 0)) 5 (.ref h.next 0 ls.length 1)) 6 (I j),upd m0 0 (some [.vec (p.ins.map InD.v) .any,.vec (p.arrays.map ArD.v) .any,.vec (p.body.map Stm.v) .any]),1,[],h'⟩)
  (i:=p.ins.length) ⟨0,List.replicate ls.length 0,_,Nat.zero_le _,rfl,by simp,rfl,by rw [Zae,if_pos rfl],rfl,fun i hi=>by rw [Zae,if_neg (Nat.ne_of_lt hi)],by simp -dsimp -implicitDefEqProofs only [↓STP,STQ,seval,LV] <;> rfl⟩ ?_ mono
 rintro c s' ⟨j,a,h',hj,rfl,hal,hr,ho,hn,hold,rfl⟩
 rcases Nat.lt_or_ge j p.ins.length with hi | hi
 ·have hget:=Za5 (f:=InD.v) hi
  have hdm:p.ins[j] ∈ p.ins:=List.getElem_mem hi
  have hdi:=v.ins _ hdm
  have w1:=wiM (show j < 9223372036854775807 by omega)
  have hdr:p.ins.drop j=p.ins[j] :: p.ins.drop (j + 1):=List.drop_eq_getElem_cons hi
  rw [hdr,fitG] at hr
  generalize p.ins[j]=d at *
  by_cases hfr:(ls.length:Int) < d.frm
  ·have hno:¬ okD ls a d:=fun hh=>by have:=hh.1; unfold frmD at this; have:=hdi.f1; omega
   rw [if_neg hno] at hr
   rw [← hr] at hK
   simp -dsimp -implicitDefEqProofs only [↓STP,STQ,seval,Int.ofNat_lt,hi,hget,Zak,Zad,LV,List.length_map,eq_true hfr]
   exact hK h' ⟨by omega,hold⟩
  have hf1:=hdi.f1
  have hf:frmD d < ls.length:=by unfold frmD; omega
  have hf2:=hdi.f2
  have efr:((frmD d:Nat):Int)=d.frm - 1:=by unfold frmD; omega
  have hfI:IntKind.i64.wrap (d.frm - 1)=((frmD d:Nat):Int):=by
   rw [efr,wrap_i64] <;> omega
  have hsz:Zcc d ≤ 64:=by have:=hdi.s2; unfold Zcc; omega
  have gl:=Zls hf
  obtain ⟨okl,okw⟩:=ok.get (frmD d)
  simp -dsimp -implicitDefEqProofs only [↓STP,STQ,seval,Int.ofNat_lt,hi,hget,Zak,Zad,LV,List.length_map,eq_false hfr]
  have hyes:okD ls a d→fitG (p.ins.drop (j + 1)) ls (Znr a d)=fitG p.ins ls (List.replicate ls.length 0):=fun q=>by rw [if_pos q] at hr; exact hr
  have hnot:¬ okD ls a d→none=fitG p.ins ls (List.replicate ls.length 0):=fun q=>by rw [if_neg q] at hr; exact hr
  clear hr
  unfold okD Zgb at hyes hnot
  unfold Znr at hyes
  generalize hfd:frmD d=f at *
  generalize hld:ls.getD f []=l at *
  generalize hkd:a.getD f 0=k0 at *
  generalize hsd:Zcc d=N at *
  have hfa:f < a.length:=by omega
  refine Zai (fun c s'=>∃ i h'',i ≤ N∧c=N - i∧(i=0∨k0 + i ≤ l.length)∧(∀ v ∈ (l.drop k0).take i,v < 2 ^ d.width.toNat)∧h''.objs h.next=some (.cells (Zar (a.set f (k0 + i))))∧h''.next=h.next + 1∧(∀ i,i < h.next→h''.objs i=h.objs i) ∧
   s'=⟨upd (upd (upd (upd (upd (upd ρ0 1 (LV ls)) 2 (.lptr 0 3 0)) 5 (.ref h.next 0 ls.length 1)) 6 (I j)) 7 (.lptr 1 4 0)) 8 (I i),upd (upd m0 0 (some [.vec (p.ins.map InD.v) .any,.vec (p.arrays.map ArD.v) .any,.vec (p.body.map Stm.v) .any])) 1 (some [.str d.name,I d.frm,I d.width,I d.size]),2,[],h''⟩)
   (i:=N) ⟨0,h',Nat.zero_le _,rfl,.inl rfl,by simp,by
    have e:a.set f (k0 + 0)=a:=by
     apply List.ext_getElem?
     intro q
     rw [List.getElem?_set]
     split
     ·rename_i e; subst e
      rw [← hkd,List.getD_eq_getElem?_getD,List.getElem?_eq_getElem hfa]; rfl
     ·rfl
    rw [e]; exact ho,hn,hold,by simp -dsimp -implicitDefEqProofs only [↓STP,STQ,seval,LV] <;> rfl⟩ ?_ mono
  rintro c s' ⟨i,h'',hiN,rfl,hki,hws,ho2,hn2,hold2,rfl⟩
  have g2:=Zam ho2
  have lset:(a.set f (k0 + i)).length=a.length:=List.length_set
  have ga:=Zd6 (l:=a.set f (k0 + i)) (i:=f) (by omega)
  rw [Zc4 hfa] at ga
  have hfI':((f:Nat):Int) < ((ls.length:Nat):Int):=by omega
  simp -dsimp -implicitDefEqProofs only [↓STP,STQ,seval,LV]
  refine Zxu (d:=d) (N:=N) rfl hdi.s1 hsd ?_
  by_cases hlt:i < N
  ·have hltI:((i:Nat):Int) < ((N:Nat):Int):=by omega
   by_cases hge:l.length ≤ k0 + i
   ·have hgeI:((l.length:Nat):Int) ≤ ((k0 + i:Nat):Int):=by omega
    rw [← hnot (by rintro ⟨_,h2,_⟩; omega)] at hK
    simp -dsimp -implicitDefEqProofs only [↓STP,STQ,seval,eq_true hltI,LV,hfI,gl,Zak,InD.v_cells,eq_true hfI',Nat.mul_one,g2,ga,Zbb,eq_true hgeI]
    exact hK h'' ⟨by omega,hold2⟩
   ·have hgeI:¬ ((l.length:Nat):Int) ≤ ((k0 + i:Nat):Int):=by omega
    have hkl:k0 + i < l.length:=by omega
    have hklI:((k0 + i:Nat):Int) < ((l.length:Nat):Int):=by omega
    have gw:=Zm7 hkl
    have hvm:=Zhe hkl hlt
    have hv64:l.getD (k0 + i) 0 < 18446744073709551616:=okw _ (List.mem_of_mem_drop (List.mem_of_mem_take hvm))
    have htw:=Zfq hkl
    have wf:=Zko (n:=l.getD (k0 + i) 0) hdi.w1
    generalize l.getD (k0 + i) 0=v0 at *
    have w2:IntKind.i64.wrap (((k0 + i:Nat):Int) + 1)=((k0 + (i + 1):Nat):Int):=by rw [wrap_i64] <;> omega
    have w3:=wiM (show i < 9223372036854775807 by omega)
    have stw:=fun ρ m n' u=>Zco (ρ:=ρ) (m:=m) (n:=n') (u:=u) (j:=f) (v:=I ((k0 + (i + 1):Nat):Int)) g2 (by rw [Zbq]; omega) rfl rfl
    rw [Zhb,List.set_set] at stw
    have hnext:v0 < 2 ^ d.width.toNat→∃ (c:Nat),c < N - i∧∃ i' h3,i' ≤ N∧c=N - i'∧(i'=0∨k0 + i' ≤ l.length)∧(∀ v ∈ (l.drop k0).take i',v < 2 ^ d.width.toNat)∧h3.objs h.next=some (.cells (Zar (a.set f (k0 + i'))))∧h3.next=h.next + 1∧(∀ i,i < h.next→h3.objs i=h.objs i) ∧
      (⟨upd (upd (upd (upd (upd (upd ρ0 1 (LV ls)) 2 (.lptr 0 3 0)) 5 (.ref h.next 0 ls.length 1)) 6 (I j)) 7 (.lptr 1 4 0)) 8 (I ((i + 1:Nat):Int)),upd (upd m0 0 (some [.vec (p.ins.map InD.v) .any,.vec (p.arrays.map ArD.v) .any,.vec (p.body.map Stm.v) .any])) 1 (some [.str d.name,I d.frm,I d.width,I d.size]),2,[],h''.set h.next (.cells (Zar (a.set f (k0 + (i + 1)))))⟩:S) =
      ⟨upd (upd (upd (upd (upd (upd ρ0 1 (LV ls)) 2 (.lptr 0 3 0)) 5 (.ref h.next 0 ls.length 1)) 6 (I j)) 7 (.lptr 1 4 0)) 8 (I i'),upd (upd m0 0 (some [.vec (p.ins.map InD.v) .any,.vec (p.arrays.map ArD.v) .any,.vec (p.body.map Stm.v) .any])) 1 (some [.str d.name,I d.frm,I d.width,I d.size]),2,[],h3⟩:=fun hv0 =>
     ⟨N - (i + 1),by omega,i + 1,h''.set h.next (.cells (Zar (a.set f (k0 + (i + 1))))),hlt,rfl,.inr (by omega),fun v hv=>by
      rw [htw] at hv
      rcases List.mem_append.1 hv with hv | hv
      ·exact hws v hv
      ·rw [List.mem_singleton] at hv; subst hv; exact hv0,by rw [Zac,if_pos rfl],hn2,fun q hq=>by rw [Zac,if_neg (by omega)]; exact hold2 q hq,rfl⟩
    simp -dsimp -implicitDefEqProofs only [↓STP,STQ,seval,eq_true hltI,LV,hfI,gl,Zak,eq_true hfI',Nat.mul_one,g2,ga,Zbb,eq_false hgeI,eq_true hklI,gw]
    refine Zt8 hv64 ?_
    by_cases hw:d.width < ((max (blen v0) 1:Nat):Int)
    ·have hge0:¬ v0 < 2 ^ d.width.toNat:=fun hh=>(wf.2 hh).elim (fun e=>by subst e; rw [Zfl] at hw; have:=hdi.w1; omega) (fun e=>e hw)
     rw [← hnot (by rintro ⟨_,_,h3⟩; exact hge0 (h3 _ hvm))] at hK
     simp -dsimp -implicitDefEqProofs only [↓STP,STQ,seval,eq_true hw]
     exact hK h'' ⟨by omega,hold2⟩
    ·have hlt0:v0 < 2 ^ d.width.toNat:=wf.1 (.inr hw)
     simp -dsimp -implicitDefEqProofs only [↓STP,STQ,seval,eq_false hw,hfI,Nat.mul_one,eq_true hfI',g2,ga,stw,w2,w3]
     exact hnext hlt0
  ·have hiN':i=N:=by omega
   subst hiN'
   simp -dsimp -implicitDefEqProofs only [↓STP,STQ,seval,Int.lt_irrefl,w1]
   have hN1:1 ≤ i:=by rw [← hsd]; unfold Zcc; omega
   have hr:=hyes ⟨hf,by omega,hws⟩
   exact ⟨p.ins.length - (j + 1),by omega,j + 1,a.set f (k0 + i),h'',hi,rfl,by rw [List.length_set]; exact hal,hr,ho2,hn2,hold2,rfl⟩
 ·have hj':j=p.ins.length:=by omega
  subst hj'
  rw [List.drop_length,fitG] at hr
  rw [← hr] at hK
  simp -dsimp -implicitDefEqProofs only [↓STP,STQ,seval,Int.lt_irrefl,LV,List.length_map]
  have g1:=Zam ho
  refine Zao (N:=ls.length) (fun i=>⟨upd (upd (upd ρ0 1 (LV ls)) 5 (.ref h.next 0 ls.length 1)) 10 (I i),m0,0,[],h'⟩) (fun i=>a.take i=(ls.map List.length).take i) (by simp -dsimp -implicitDefEqProofs only [↓STP,STQ,seval,LV] <;> rfl) rfl (fun i hlt htk=>?_) (fun htk=>?_) mono
  ·have gl:=Zls hlt
   have ga:=Zd6 (l:=a) (i:=i) (by omega)
   have hltI:((i:Nat):Int) < ((ls.length:Nat):Int):=by omega
   have w3:=wiM (show i < 9223372036854775807 by omega)
   have e1:ls.getD i []=ls[i]:=by rw [List.getD_eq_getElem?_getD,List.getElem?_eq_getElem hlt]; rfl
   have e2:a.getD i 0=a[i]:=by rw [List.getD_eq_getElem?_getD,List.getElem?_eq_getElem (by omega)]; rfl
   by_cases he:((a.getD i 0:Nat):Int)=(((ls.getD i []).length:Nat):Int)
   ·simp -dsimp -implicitDefEqProofs only [↓STP,STQ,seval,eq_true hltI,LV,List.length_map,gl,g1,ga,Nat.mul_one,Zbb,eq_true he,w3]
    rw [List.take_add_one,List.take_add_one,htk,List.getElem?_eq_getElem (by omega),List.getElem?_map,List.getElem?_eq_getElem hlt]
    rw [e1,e2] at he
    have he:a[i]=ls[i].length:=by omega
    rw [he]; rfl
   ·have hno:Znu ls (some a)=false:=decide_eq_false fun hh=>he (by
     have this:a.getD i 0=(ls.map List.length).getD i 0:=congrArg (fun l=>l.getD i 0) hh
     rw [this,e1,List.getD_eq_getElem?_getD,List.getElem?_map,List.getElem?_eq_getElem hlt]; rfl)
    rw [hno] at hK
    simp -dsimp -implicitDefEqProofs only [↓STP,STQ,seval,eq_true hltI,LV,List.length_map,gl,g1,ga,Nat.mul_one,Zbb,eq_false he,w3]
    exact hK h' ⟨by omega,hold⟩
  ·have hyes:Znu ls (some a)=true:=decide_eq_true (by
    have e1:a.take ls.length=a:=List.take_of_length_le (by omega)
    have e2:(ls.map List.length).take ls.length=ls.map List.length:=List.take_of_length_le (by rw [List.length_map]; exact Nat.le_refl _)
    rw [← e1,← e2,htk])
   rw [hyes] at hK
   simp -dsimp -implicitDefEqProofs only [↓STP,STQ,seval,LV,List.length_map,Int.lt_irrefl]
   exact hK h' ⟨by omega,hold⟩
end
end YtihjhelbdbeokaaGreatDoor
end Go.Ab
