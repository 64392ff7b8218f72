/- Part of a proof: The given interpreter: loops and bodies. -/
import Derived.Test.YtemlhjlceeiflaaDoorY8
import Derived.Test.YtemlhjlceeiflaaDoorY7
import Derived.Test.YtemlhjlceeiflaaDoorY6
import Derived.Lib.LaidTab
set_option linter.unusedVariables false
set_option linter.unusedSimpArgs false
namespace Go.Ab
def SpB (R:CallT) (f:FuncId) (p:Prg) (l:List Stm):Prop:=∀ (σ τ:TS) (L:Ik) (s:RS) (h:H) (K:Out→H→Prop),AtI p L s h→Ag p σ s→TOk p σ→stmtsT p l σ=.ok τ →
 (∀ L' h',AtI p L' (runsX p l s) h'→FrI L L' h h'→K (.ret (.tuple [])) h')→R f [.ptr L.x 0,.vec (l.map Stm.v) .any] h K
theorem one_step {p:Prg} (hp:PV p) {x:Stm} {lv:Nat} (hv:VS x lv):GoodT p (stmtT p x):=fun σ τ ok h=>stmtsT_ok hp (l:=[x]) (VSs_all.2 fun y hy=>by rw [List.mem_singleton] at hy; subst hy; exact hv) _ _ ok (by rw [stmtsT_one']; exact h)
namespace YtemlhjlceeiflaaDoor
section
variable {K:Out→H→Prop} {p:Prg}
theorem loopI (hp:PV p) {k:Int} {y:ByteArray} {e:List Exp} {a b:List Stm} {lv:Nat} (ha:SpB R 23 p a) (va:VSs a (lv + 1)) (ve:∀ x ∈ e,VE x (lv + 1)) (oke:∀ x ∈ e,EOk x) (el:e.length=2) {σ τ:TS} {L:Ik} {s:RS} {h:H} {l:List Kn} {m:Nat} (A:AtI p L s h) (ag:Ag p σ s) (ok:TOk p σ)
  (he:exprsT p σ.env e=.ok (l,m)) (hf:forT p y l (stmtsT p a) σ=.ok τ)
  (hK:∀ L' h',AtI p L' (forX y ((e.map (valX p s)).getD 0 0) ((e.map (valX p s)).getD 1 0) (runsX p a) s) h'→FrI L L' h h'→K (.ret (.tuple [])) h'):R 41 [.ptr L.x 0,(Stm.mk k y e a b).v] h K:=by
 have vf:=vals_fit ag.env ok.env he
 obtain ⟨kl,km,kn⟩:=exprsT_ok hp ok.env ve l m he
 have ka:=exprs_all he
 obtain ⟨e0,e1,rfl⟩:=len2 (l:=e) el
 obtain ⟨r0,m0',q0⟩:=ka e0 (by simp)
 obtain ⟨r1,m1',q1⟩:=ka e1 (by simp)
 obtain ⟨i0,i1,ht,hi⟩:=for_is hf
 have b0:=(vf.nth 0).lt (nthK_ok kl 0)
 have b1:=(vf.nth 1).lt (nthK_ok kl 1)
 rw [← (vf.nth 0).is i0,← (vf.nth 1).is i1] at hi
 have hga:GoodT p (stmtsT p a):=stmtsT_ok hp va
 have hra:RunT p (stmtsT p a) (runsX p a):=stmts_run hp va
 have hi:iterT (turnT y (stmtsT p a)) (valX p s e1 + 1 - valX p s e0) (valX p s e0) { σ with env:={ σ.env with vars:=setV σ.env.vars y none } }=.ok τ:=hi
 have b0:valX p s e0 < 1152921504606846976:=b0
 have b1:valX p s e1 < 1152921504606846976:=b1
 have hK:∀ L' h',AtI p L' (forX y (valX p s e0) (valX p s e1) (runsX p a) s) h'→FrI L L' h h'→K (.ret (.tuple [])) h':=hK
 refine run41 (Nat.le_of_ble_eq_true rfl) ?_
 simp -dsimp -implicitDefEqProofs only [↓STP,STQ,seval,Stm.v_mk,ir41,List.map_cons,List.map_nil,Exp.v_clen,Exp.v_tk,Exp.v_ag,Exp.v_out]
 refine valueI hp e0 _ (ve e0 (by simp)) (oke e0 (by simp)) σ.env L s h _ r0 m0' A ag.env ok.env q0 ?_
 simp -dsimp -implicitDefEqProofs only [↓STP,STQ,seval,List.map_cons,List.map_nil,Exp.v_clen,Exp.v_tk,Exp.v_ag,Exp.v_out]
 refine valueI hp e1 _ (ve e1 (by simp)) (oke e1 (by simp)) σ.env L s h _ r1 m1' A ag.env ok.env q1 ?_
 have gx:=get_of A.x
 obtain ⟨h1,hmd,A1,F1⟩:=A.del y
 simp -dsimp -implicitDefEqProofs only [↓STP,STQ,seval,gx,hmd]
 obtain ⟨a0,f0,k0⟩:=for_start ag ok ht
 unfold forX at hK
 generalize valX p s e0=n0 at *
 generalize valX p s e1=n1 at *
 generalize hs1:({ s with vars:=setM s.vars y none }:RS)=s1 at *
 generalize hσ1:({ σ with env:={ σ.env with vars:=setV σ.env.vars y none } }:TS)=σ1 at *
 generalize hL1:({ L with es:=delE y L.es }:Ik)=L1 at *
 generalize htf:iterX (fun n s=>runsX p a { s with vars:=setM s.vars y (some n) }) (n1 + 1 - n0) n0 s1=tf at *
 refine codeT_loop (fun c s'=>∃ n τ' t L' h',c=n1 + 1 - n∧n ≤ 1152921504606846976∧AtI p L' t h'∧Ag p τ' t∧TOk p τ'∧Free p y σ.env.loops τ'∧FrI L L' h h'∧iterT (turnT y (stmtsT p a)) (n1 + 1 - n) n τ'=.ok τ∧iterX (fun n s=>runsX p a { s with vars:=setM s.vars y (some n) }) (n1 + 1 - n) n t=tf ∧
  s'=⟨upd (upd (upd (upd ρ0 0 (.ptr L.x 0)) 3 (.lptr 0 5 0)) 5 (W n1)) 6 (W n),upd m0 0 (some [I k,.str y,.vec [e0.v,e1.v] .any,.vec (a.map Stm.v) .any,.vec (b.map Stm.v) .any]),1,[],h'⟩)
  (i:=n1 + 1 - n0) ⟨n0,σ1,s1,L1,h1,rfl,by omega,A1,a0,k0,f0,F1,hi,htf,by simp -dsimp -implicitDefEqProofs only [↓STP,STQ,seval] <;> rfl⟩ ?_ mono
 rintro c s' ⟨n,τ',t,L',h',rfl,hn,A',ag',ok',fr',F',hi',ht',rfl⟩
 have gx':=get_of A'.x
 rw [F'.x] at gx'
 by_cases hle:n ≤ n1
 ·have hle':((n:Nat):Int) ≤ ((n1:Nat):Int):=by omega
  obtain ⟨ver',hup,A2,F2⟩:=A'.put y n
  simp -dsimp -implicitDefEqProofs only [↓STP,STQ,seval,eq_true hle',gx',hup]
  rw [show n1 + 1 - n=(n1 + 1 - (n + 1)) + 1 by omega,iterT] at hi'
  rw [show n1 + 1 - n=(n1 + 1 - (n + 1)) + 1 by omega,iterX] at ht'
  obtain ⟨ρ,w1,w2⟩:=andT_inv hi'
  have tk:=turn_run (x:=y) hra hga (by omega) τ' ρ t ok' fr' ag' w1
  unfold turnT at w1
  obtain ⟨τ1,u1,w1⟩:=andT_inv w1
  obtain ⟨τ2,u2,w1⟩:=andT_inv w1
  obtain ⟨rfl,k1⟩:=stepT_ok ok' u1
  have oke':=turn_ext (x:=y) (n:=n) k1.ok (by omega)
  have ag2:Ag p ({ τ' with steps:=τ'.steps + 1,env:={ τ'.env with loops:=τ'.env.loops ++ [(y,n)] } }:TS) { t with vars:=setM t.vars y (some n) }:=⟨AgE.turn fr' ag'.env,ag'.told,Nat.le_trans ag'.few (Nat.le_succ _)⟩
  have okρ:TOk p ρ:=(turnT_ok hga (n:=n) (by omega) _ _ ok' (by unfold turnT; rw [u1,andT_ok,u2,andT_ok]; exact w1)).ok
  rw [← F'.x]
  refine ha _ _ { L' with es:=setE y n L'.es } _ _ _ A2 ag2 oke' u2 fun L3 h3 A3 F3=>?_
  have w:IntKind.u64.wrap ((n:Int) + 1)=((n + 1:Nat):Int):=by rw [wrap_u64_self] <;> omega
  simp -dsimp -implicitDefEqProofs only [↓STP,STQ,seval,w]
  exact ⟨n1 + 1 - (n + 1),by omega,n + 1,ρ,_,L3,h3,rfl,by omega,A3,tk.1,okρ,tk.2,(F'.trans F2).trans F3,w2,ht',by rw [F'.x]⟩
 ·have hle':¬ ((n:Nat):Int) ≤ ((n1:Nat):Int):=by omega
  obtain ⟨h2,hmd2,A2,F2⟩:=A'.del y
  rw [show n1 + 1 - n=0 by omega,iterX] at ht'
  subst ht'
  simp -dsimp -implicitDefEqProofs only [↓STP,STQ,seval,eq_false hle',gx',hmd2]
  exact hK _ _ A2 (F'.trans F2)
theorem bodyI_of (hp:PV p) {l:List Stm} {lv:Nat} (hlen:l.length ≤ 9223372036854775807) (ih:∀ x ∈ l,SpB R 23 p x.thn∧SpB R 23 p x.els) (hv:VSs l lv) (okl:∀ x ∈ l,SOk x):SpB R 23 p l:=by
 intro σ τ L s h K A ag ok hs hK
 refine run23 (Nat.le_of_ble_eq_true rfl) ?_
 simp -dsimp -implicitDefEqProofs only [↓STP,STQ,seval,ir23,List.length_map]
 refine codeT_loop (fun c s'=>∃ j τ' L' h',j ≤ l.length∧c=l.length - j∧stmtsT p (l.take j) σ=.ok τ'∧TOk p τ'∧AtI p L' (runsX p (l.take j) s) h'∧Ag p τ' (runsX p (l.take j) s)∧FrI L L' h h' ∧
  s'=⟨upd (upd (upd (upd ρ0 0 (.ptr L.x 0)) 8 (.vec (l.map Stm.v) .any)) 9 (I l.length)) 10 (I j),m0,0,[],h'⟩) (i:=l.length) ⟨0,σ,L,h,Nat.zero_le _,rfl,by rw [List.take_zero,stmtsT],ok,by rw [List.take_zero,runsX]; exact A,by rw [List.take_zero,runsX]; exact ag,FrI.refl _ _,by simp -dsimp -implicitDefEqProofs only [↓STP,STQ,seval] <;> rfl⟩ ?_ mono
 rintro c s' ⟨j,τ',L',h',hj,rfl,hr,ok',A',ag',F',rfl⟩
 rcases Nat.lt_or_ge j l.length with hi | hi
 ·have hget:=get_map (f:=Stm.v) hi
  have hx:=ih _ (List.getElem_mem hi)
  have hvx:=VSs_all.1 hv _ (List.getElem_mem hi)
  have okx:=okl _ (List.getElem_mem hi)
  have w1:=wiM (show j < 9223372036854775807 by omega)
  have htk:=stmtsT_take hi hr
  have htr:=runsX_take (p:=p) hi (s:=s)
  have hrest:∃ τ2,stmtsT p (l.take (j + 1)) σ=.ok τ2:=by
   have e:l=l.take (j + 1) ++ l.drop (j + 1):=(List.take_append_drop _ _).symm
   rw [e,stmtsT_append] at hs
   obtain ⟨τ2,h1,_⟩:=andT_inv hs
   exact ⟨τ2,h1⟩
  obtain ⟨τ2,hτ2⟩:=hrest
  have hst:stmtT p l[j] τ'=.ok τ2:=by rw [← htk]; exact hτ2
  have g1:=one_step hp hvx τ' τ2 ok' hst
  have ag2:=stmt_run hp l[j] _ hvx τ' τ2 _ ok' ag' hst
  rw [← htr] at ag2
  generalize hxe:l[j]=x at *
  obtain ⟨k,y,e,a,b⟩:=x
  obtain ⟨v1,v2,v3,v4,v5,v6,v7,v8,v9,v10,v11⟩:=VS_mk.1 hvx
  obtain ⟨_,_,_,_,_,oke,oka,okb⟩:=SOk_mk okx
  obtain ⟨lk,m,t1,t2,t3⟩:=stmt_inv hst
  have hga:GoodT p (stmtsT p a):=stmtsT_ok hp v10
  have hgb:GoodT p (stmtsT p b):=stmtsT_ok hp v11
  obtain ⟨_,k1⟩:=stepT_ok ok' t1
  have vf:=vals_fit ag'.env ok'.env t2
  obtain ⟨kl,km,kn⟩:=exprsT_ok hp ok'.env v9 lk m t2
  have ka:=exprs_all t2
  have ok1:TOk p { τ' with steps:=τ'.steps + 1,most:=max τ'.most m }:=⟨ok'.env,k1.ok.steps,by have:=ok'.most; show max τ'.most m ≤ 60; omega⟩
  have ag1:Ag p { τ' with steps:=τ'.steps + 1,most:=max τ'.most m } (runsX p (l.take j) s):=ag'.mono rfl (Nat.le_succ _) (Nat.le_max_left _ _)
  have hx1:SpB R 23 p a:=hx.1
  have hx2:SpB R 23 p b:=hx.2
  have gx':=get_of A'.x
  have gx0:=gx'
  rw [F'.x] at gx0
  rw [runX_mk] at htr
  unfold run1 at htr
  unfold stmt1 at t3
  have kk:k=1∨k=2∨k=3∨k=4∨k=5:=by omega
  have hll:0 < e.length:=by rw [v4]; split <;> decide
  have hend:∀ {L2:Ik} {h2:H},AtI p L2 (runsX p (l.take (j + 1)) s) h2→FrI L' L2 h' h2→∃ (c:Nat),c < l.length - j∧∃ j' τ'' L'' h'',j' ≤ l.length∧c=l.length - j'∧stmtsT p (l.take j') σ=.ok τ''∧TOk p τ''∧AtI p L'' (runsX p (l.take j') s) h''∧Ag p τ'' (runsX p (l.take j') s)∧FrI L L'' h h'' ∧
    (⟨upd (upd (upd (upd ρ0 0 (.ptr L.x 0)) 8 (.vec (l.map Stm.v) .any)) 9 (I l.length)) 10 (I ((j + 1:Nat):Int)),m0,0,[],h2⟩:S)=⟨upd (upd (upd (upd ρ0 0 (.ptr L.x 0)) 8 (.vec (l.map Stm.v) .any)) 9 (I l.length)) 10 (I j'),m0,0,[],h''⟩:=fun A2 F2=>⟨l.length - (j + 1),by omega,j + 1,τ2,_,_,hi,rfl,hτ2,g1.ok,A2,ag2,F'.trans F2,rfl⟩
  generalize runsX p (l.take j) s=t at *
  generalize runsX p (l.take (j + 1)) s=t2' at *
  rcases kk with rfl | rfl | rfl | rfl | rfl
  ·rw [if_pos rfl] at htr
   obtain ⟨e0,rfl⟩:=len1 (l:=e) (by rw [v4]; decide)
   obtain ⟨r0,m0',q0⟩:=ka e0 (by simp)
   simp -dsimp -implicitDefEqProofs only [↓STP,STQ,seval,Int.ofNat_lt,hi,hget,storeV,Stm.v_mk,gx0,List.map_cons,List.map_nil,Exp.v_clen,Exp.v_tk,Exp.v_ag,Exp.v_out]
   rw [← F'.x]
   refine valueI hp e0 _ (v9 e0 (by simp)) (oke e0 (by simp)) τ'.env L' t h' _ r0 m0' A' ag'.env ok'.env q0 ?_
   obtain ⟨ver',hup,A2,F2⟩:=A'.put y (valX p t e0)
   simp -dsimp -implicitDefEqProofs only [↓STP,STQ,seval,gx',hup,w1]
   rw [F'.x]
   exact hend (by rw [htr]; exact A2) F2
  ·rw [if_neg (by decide),if_pos rfl] at htr t3
   obtain ⟨e0,e1,rfl⟩:=len2 (l:=e) (by rw [v4]; decide)
   obtain ⟨r0,m0',q0⟩:=ka e0 (by simp)
   obtain ⟨r1,m1',q1⟩:=ka e1 (by simp)
   simp -dsimp -implicitDefEqProofs only [↓STP,STQ,seval,Int.ofNat_lt,hi,hget,storeV,Stm.v_mk,gx0,List.map_cons,List.map_nil,Exp.v_clen,Exp.v_tk,Exp.v_ag,Exp.v_out]
   rw [← F'.x]
   refine valueI hp e0 _ (v9 e0 (by simp)) (oke e0 (by simp)) τ'.env L' t h' _ r0 m0' A' ag'.env ok'.env q0 ?_
   simp -dsimp -implicitDefEqProofs only [↓STP,STQ,seval,List.map_cons,List.map_nil,Exp.v_clen,Exp.v_tk,Exp.v_ag,Exp.v_out]
   refine valueI hp e1 _ (v9 e1 (by simp)) (oke e1 (by simp)) τ'.env L' t h' _ r1 m1' A' ag'.env ok'.env q1 ?_
   obtain ⟨jj,d,f1,f2,f3,f4,f5,f6,rfl⟩:=store_inv t3
   obtain ⟨id,ws,b1,b2,b3⟩:=A'.ars jj d f2
   have hv0:=(vf.nth 0).is f4
   have hv0:valX p t e0=(nthK lk 0).val:=hv0
   have jl1:jj < τ'.env.words.length:=by rw [ok'.env.wlen]; exact (List.getElem?_eq_some_iff.1 f2).1
   have hlw:=(ag'.env.words jj _ _ (List.getElem?_eq_getElem jl1) b1).1
   have hlz:=(ok'.env.words jj _ d (List.getElem?_eq_getElem jl1) f2).1
   have hlt:valX p t e0 < ws.length:=by omega
   have hltI:((valX p t e0:Nat):Int) < ((ws.length:Nat):Int):=by omega
   obtain ⟨ver,hw⟩:=A'.w
   obtain ⟨A2,F2⟩:=A'.word hp (n:=valX p t e0) (v:=valX p t e1) f2 b1 b2
   rw [f3] at b2
   rw [f1] at htr
   have stw:=fun ρ m n' u=>storeF (ρ:=ρ) (m:=m) (n:=n') (u:=u) (j:=valX p t e0) (v:=W (valX p t e1)) (get_of b3) (by rw [Ws_length]; exact hlt) rfl rfl
   rw [Ws_set] at stw
   simp -dsimp -implicitDefEqProofs only [↓STP,STQ,seval,gx',lkp_one hw,b2,map_some',getD_some,refV,eq_true hltI,Nat.mul_one,stw,w1]
   rw [F'.x]
   exact hend (by rw [htr]; exact A2) F2
  ·rw [if_neg (by decide),if_neg (by decide),if_pos rfl] at htr t3
   obtain ⟨e0,rfl⟩:=len1 (l:=e) (by rw [v4]; decide)
   obtain ⟨r0,m0',q0⟩:=ka e0 (by simp)
   unfold ifT at t3
   split at t3
   ·cases t3
   obtain ⟨σ1,h1,t3⟩:=andT_inv t3
   obtain ⟨σ2,h2,t3⟩:=andT_inv t3
   have k1':=hga { ({ τ' with steps:=τ'.steps + 1,most:=max τ'.most m }:TS) with ifs:=τ'.ifs + 1 } _ ⟨ok1.env,ok1.steps,ok1.most⟩ h1
   simp -dsimp -implicitDefEqProofs only [↓STP,STQ,seval,Int.ofNat_lt,hi,hget,storeV,Stm.v_mk,gx0,List.map_cons,List.map_nil,Exp.v_clen,Exp.v_tk,Exp.v_ag,Exp.v_out]
   rw [← F'.x]
   refine valueI hp e0 _ (v9 e0 (by simp)) (oke e0 (by simp)) τ'.env L' t h' _ r0 m0' A' ag'.env ok'.env q0 ?_
   have htr:t2'=if valX p t e0=1 then runsX p a t else runsX p b t:=htr
   by_cases c:valX p t e0=1
   ·have c':((valX p t e0:Nat):Int)=1:=by omega
    rw [if_pos c] at htr
    simp -dsimp -implicitDefEqProofs only [↓STP,STQ,seval,eq_true c']
    refine hx1 { ({ τ' with steps:=τ'.steps + 1,most:=max τ'.most m }:TS) with ifs:=τ'.ifs + 1 } _ L' t h' _ A' ⟨ag1.env,ag1.told,ag1.few⟩ ⟨ok1.env,ok1.steps,ok1.most⟩ h1 fun L2 h2 A2 F2=>?_
    simp -dsimp -implicitDefEqProofs only [↓STP,STQ,seval,w1]
    rw [F'.x]
    exact hend (by rw [htr]; exact A2) F2
   ·have c':¬ ((valX p t e0:Nat):Int)=1:=by omega
    rw [if_neg c] at htr
    simp -dsimp -implicitDefEqProofs only [↓STP,STQ,seval,eq_false c']
    refine hx2 { σ1 with env:=τ'.env } _ L' t h' _ A' (ag1.mono rfl k1'.steps k1'.most) ⟨ok1.env,k1'.ok.steps,k1'.ok.most⟩ h2 fun L2 h2 A2 F2=>?_
    simp -dsimp -implicitDefEqProofs only [↓STP,STQ,seval,w1]
    rw [F'.x]
    exact hend (by rw [htr]; exact A2) F2
  ·rw [if_neg (by decide),if_neg (by decide),if_neg (by decide),if_pos rfl] at htr t3
   simp -dsimp -implicitDefEqProofs only [↓STP,STQ,seval,Int.ofNat_lt,hi,hget,storeV,Stm.v_mk,gx0]
   rw [← Stm.v_mk,← F'.x]
   refine loopI hp (k:=4) (b:=b) (lv:=lv) hx1 v10 v9 oke (by rw [v4]; decide) A' ag1 ok1 t2 t3 fun L2 h2 A2 F2=>?_
   simp -dsimp -implicitDefEqProofs only [↓STP,STQ,seval,w1]
   rw [F'.x]
   exact hend (by rw [htr]; exact A2) F2
  ·rw [if_neg (by decide),if_neg (by decide),if_neg (by decide),if_neg (by decide)] at htr
   obtain ⟨e0,rfl⟩:=len1 (l:=e) (by rw [v4]; decide)
   obtain ⟨r0,m0',q0⟩:=ka e0 (by simp)
   simp -dsimp -implicitDefEqProofs only [↓STP,STQ,seval,Int.ofNat_lt,hi,hget,storeV,Stm.v_mk,gx0,List.map_cons,List.map_nil,Exp.v_clen,Exp.v_tk,Exp.v_ag,Exp.v_out]
   rw [← F'.x]
   refine valueI hp e0 _ (v9 e0 (by simp)) (oke e0 (by simp)) τ'.env L' t h' _ r0 m0' A' ag'.env ok'.env q0 ?_
   have hfew:t.told.length < 1000000:=by have:=ag'.few; have:=ok'.steps; omega
   obtain ⟨h1,a1,a2,A2,F2⟩:=A'.tell (valX p t e0) hfew
   have gx2:=get_of a2
   have st5:∀ ρ m n' u,storeV ⟨ρ,m,n',u,h1⟩ (.ptr L'.x 2) (.ref h'.next 0 (t.told.length + 1) 1) 1=some ⟨ρ,m,n',u,h1.set L'.x (.cells [.map L'.v,.map L'.w,.ref h'.next 0 (t.told.length + 1) 1])⟩:=fun ρ m n' u=>storeF (j:=2) gx2 (show 2 < 3 by decide) rfl rfl
   have ht2:t2'={ t with told:=t.told ++ [valX p t e0] }:=htr
   simp -dsimp -implicitDefEqProofs only [↓STP,STQ,seval,gx',a1,st5,w1]
   rw [F'.x] at A2 F2 ⊢
   exact hend (by rw [ht2]; exact A2) F2
 ·have hj':j=l.length:=by omega
  subst hj'
  rw [List.take_length] at A'
  simp -dsimp -implicitDefEqProofs only [↓STP,STQ,seval,Int.lt_irrefl]
  exact hK _ _ A' F'
theorem bodyII (hp:PV p) (x:Stm):∀ lv,VS x lv→SOk x→SpB R 23 p x.thn∧SpB R 23 p x.els:=by
 induction x using Stm.ind with
 | h k s e a b iha ihb =>
  intro lv hv ok
  obtain ⟨v1,v2,v3,v4,v5,v6,v7,v8,v9,v10,v11⟩:=VS_mk.1 hv
  obtain ⟨_,_,_,la,lb,oke,oka,okb⟩:=SOk_mk ok
  have hm:=maxLen_eq
  exact ⟨bodyI_of (l:=a) hp (by omega) (fun x hx=>iha x hx _ (VSs_all.1 v10 x hx) (oka x hx)) v10 oka,bodyI_of (l:=b) hp (by omega) (fun x hx=>ihb x hx _ (VSs_all.1 v11 x hx) (okb x hx)) v11 okb⟩
theorem bodyI (hp:PV p) {l:List Stm} {lv:Nat} (hl:l.length ≤ maxLen) (hv:VSs l lv) (ok:∀ x ∈ l,SOk x):SpB R 23 p l:=
 bodyI_of hp (by have:=maxLen_eq; omega) (fun x hx=>bodyII hp x _ (VSs_all.1 hv x hx) (ok x hx)) hv ok
end
end YtemlhjlceeiflaaDoor
end Go.Ab
namespace Go.Ab
def sizeD (d:InD):Nat:=max d.size.toNat 1
def frmD (d:InD):Nat:=(d.frm - 1).toNat
def wordsD (ls:List (List Nat)) (a:List Nat) (d:InD):List Nat:=((ls.getD (frmD d) []).drop (a.getD (frmD d) 0)).take (sizeD d)
def okD (ls:List (List Nat)) (a:List Nat) (d:InD):Prop:=frmD d < ls.length∧a.getD (frmD d) 0 + sizeD d ≤ (ls.getD (frmD d) []).length∧∀ v ∈ wordsD ls a d,v < 2 ^ d.width.toNat
instance {ls:List (List Nat)} {a:List Nat} {d:InD}:Decidable (okD ls a d):=by unfold okD; infer_instance
def nextD (a:List Nat) (d:InD):List Nat:=a.set (frmD d) (a.getD (frmD d) 0 + sizeD d)
def fitG:List InD→List (List Nat)→List Nat→Option (List Nat)
 | [],ls,a=>some a
 | d :: ds,ls,a=>if okD ls a d then fitG ds ls (nextD a d) else none
def fitEnd (ls:List (List Nat)):Option (List Nat)→Bool
 | some a=>decide (a=ls.map List.length)
 | none=>false
def fitB (p:Prg) (ls:List (List Nat)):Bool:=fitEnd ls (fitG p.ins ls (List.replicate ls.length 0))
def LV (ls:List (List Nat)):V:=.vec (ls.map fun l=>.vec (Ws l) .any) .any
structure LsOk (ls:List (List Nat)):Prop where
 len:ls.length ≤ 30
 all:∀ l ∈ ls,l.length ≤ 1000∧∀ v ∈ l,v < 18446744073709551616
theorem LV_get {ls:List (List Nat)} {i:Nat} (h:i < ls.length):(ls.map fun l=>V.vec (Ws l) .any)[i]?=some (.vec (Ws (ls.getD i [])) .any):=by
 rw [List.getElem?_map,List.getElem?_eq_getElem h,List.getD_eq_getElem?_getD,List.getElem?_eq_getElem h]; rfl
theorem LsOk.get {ls:List (List Nat)} (ok:LsOk ls) (i:Nat):(ls.getD i []).length ≤ 1000∧∀ v ∈ ls.getD i [],v < 18446744073709551616:=by
 rw [List.getD_eq_getElem?_getD]
 cases h:ls[i]? with
 | none=>exact ⟨Nat.zero_le _,fun v hv=>by cases hv⟩
 | some l=>exact ok.all l (List.mem_of_getElem? h)
theorem natVs_get {l:List Nat} {i:Nat} (h:i < l.length):(natVs l)[i]?=some (I ((l.getD i 0:Nat):Int)):=nat_vs_get h
theorem natVs_set {l:List Nat} {i n:Nat}:(natVs l).set i (I ((n:Nat):Int))=natVs (l.set i n):=by simp [natVs,List.map_set]
theorem natVs_zero {n:Nat}:(List.replicate n [V.int .i64 0]).flatten=natVs (List.replicate n 0):=by
 induction n with
 | zero=>rfl
 | succ n ih=>rw [List.replicate_succ,List.flatten_cons,ih,List.replicate_succ]; rfl
theorem width_fits {n:Nat} {w:Int} (h:1 ≤ w):(n=0∨¬ ((max (blen n) 1:Nat):Int) > w) ↔ n < 2 ^ w.toNat:=by
 have hb:=blen_le (k:=w.toNat) (n:=n)
 constructor
 ·rintro (rfl | h1)
  ·exact Nat.two_pow_pos _
  ·exact hb.1 (by omega)
 ·intro h1
  have:=hb.2 h1
  exact .inr (by omega)
theorem Ws_getD {l:List Nat} {i:Nat} (h:i < l.length):(Ws l)[i]?=some (W (l.getD i 0)):=by
 rw [Ws_get,List.getElem?_eq_getElem h,List.getD_eq_getElem?_getD,List.getElem?_eq_getElem h]; rfl
theorem getD_set_self {l:List Nat} {i n:Nat} (h:i < l.length):(l.set i n).getD i 0=n:=by
 rw [List.getD_eq_getElem?_getD,List.getElem?_set,if_pos rfl,if_pos h]; rfl
theorem mem_words {l:List Nat} {k i m:Nat} (h:k + i < l.length) (hm:i < m):l.getD (k + i) 0 ∈ (l.drop k).take m:=by
 rw [List.getD_eq_getElem?_getD,List.getElem?_eq_getElem h]
 refine List.mem_of_getElem? (i:=i) ?_
 rw [List.getElem?_take,if_pos hm,List.getElem?_drop,List.getElem?_eq_getElem h]; rfl
theorem take_words {l:List Nat} {k i:Nat} (h:k + i < l.length):(l.drop k).take (i + 1)=(l.drop k).take i ++ [l.getD (k + i) 0]:=by
 rw [List.take_add_one,List.getElem?_drop,List.getD_eq_getElem?_getD,List.getElem?_eq_getElem h]; rfl
namespace YtemlhjlceeiflaaDoor
section
variable {h:H} {K:Out→H→Prop} {p:Prg}
theorem sizeI {d:InD} (h0:0 ≤ d.size) (hK:K (.ret (I ((sizeD d:Nat):Int))) h):R 21 [d.v] h K:=by
 refine run21 (Nat.le_of_ble_eq_true rfl) ?_
 have hm:(if (1:Int) > d.size then (1:Int) else d.size)=((sizeD d:Nat):Int):=by unfold sizeD; split <;> omega
 simp -dsimp -implicitDefEqProofs only [↓STP,STQ,seval,inV_cells,ir21,maxV_two,hm]
 exact hK
theorem fitI (v:VT p) {ls:List (List Nat)} (ok:LsOk ls) (hK:∀ h',UpH h h'→K (.ret (.bool (fitB p ls))) h'):R 38 [p.v,LV ls] h K:=by
 refine run38 (Nat.le_of_ble_eq_true rfl) ?_
 have hlen:=ok.len
 have pli:=v.ok.li
 have hm:=maxLen_eq
 simp -dsimp -implicitDefEqProofs only [↓STP,STQ,seval,Prg.v,Prg.cells,LV,ir38,List.length_map,mksN_ok (n:=ls.length) (sz:=1) (bytes:=8) (by omega) (by decide) (by decide),natVs_zero]
 unfold fitB at hK
 refine codeT_loop (fun c s'=>∃ j a h',j ≤ p.ins.length∧c=p.ins.length - j∧a.length=ls.length∧fitG (p.ins.drop j) ls a=fitG p.ins ls (List.replicate ls.length 0)∧h'.objs h.next=some (.cells (natVs a))∧h'.next=h.next + 1∧(∀ i,i < h.next→h'.objs i=h.objs i) ∧
  s'=⟨upd (upd (upd (upd (upd ρ0 1 (LV ls)) 5 (.ref h.next 0 ls.length 1)) 16 (.vec (p.ins.map InD.v) .any)) 17 (I p.ins.length)) 18 (I j),m0,0,[],h'⟩)
  (i:=p.ins.length) ⟨0,List.replicate ls.length 0,_,Nat.zero_le _,rfl,by simp,rfl,by rw [new_objs,if_pos rfl],rfl,fun i hi=>by rw [new_objs,if_neg (Nat.ne_of_lt hi)],by simp -dsimp -implicitDefEqProofs only [↓STP,STQ,seval,LV] <;> rfl⟩ ?_ mono
 rintro c s' ⟨j,a,h',hj,rfl,hal,hr,ho,hn,hold,rfl⟩
 rcases Nat.lt_or_ge j p.ins.length with hi | hi
 ·have hget:=get_map (f:=InD.v) hi
  have hdm:p.ins[j] ∈ p.ins:=List.getElem_mem hi
  have hdi:=v.ins _ hdm
  have w1:=wiM (show j < 9223372036854775807 by omega)
  have hdr:p.ins.drop j=p.ins[j] :: p.ins.drop (j + 1):=List.drop_eq_getElem_cons hi
  rw [hdr,fitG] at hr
  generalize p.ins[j]=d at *
  by_cases hfr:(ls.length:Int) < d.frm
  ·have hno:¬ okD ls a d:=fun hh=>by have:=hh.1; unfold frmD at this; have:=hdi.f1; omega
   rw [if_neg hno] at hr
   rw [← hr] at hK
   simp -dsimp -implicitDefEqProofs only [↓STP,STQ,seval,Int.ofNat_lt,hi,hget,inV_cells,storeV,LV,List.length_map,eq_true hfr]
   exact hK h' ⟨by omega,hold⟩
  have hf1:=hdi.f1
  have hf:frmD d < ls.length:=by unfold frmD; omega
  have hf2:=hdi.f2
  have efr:((frmD d:Nat):Int)=d.frm - 1:=by unfold frmD; omega
  have hfI:IntKind.i64.wrap (d.frm - 1)=((frmD d:Nat):Int):=by
   rw [efr,wrap_i64] <;> omega
  have hsz:sizeD d ≤ 64:=by have:=hdi.s2; unfold sizeD; omega
  have gl:=LV_get hf
  obtain ⟨okl,okw⟩:=ok.get (frmD d)
  simp -dsimp -implicitDefEqProofs only [↓STP,STQ,seval,Int.ofNat_lt,hi,hget,inV_cells,storeV,LV,List.length_map,eq_false hfr]
  rw [← inV_cells]
  refine sizeI hdi.s1 ?_
  simp -dsimp -implicitDefEqProofs only [↓STP,STQ,seval]
  have hyes:okD ls a d→fitG (p.ins.drop (j + 1)) ls (nextD a d)=fitG p.ins ls (List.replicate ls.length 0):=fun q=>by rw [if_pos q] at hr; exact hr
  have hnot:¬ okD ls a d→none=fitG p.ins ls (List.replicate ls.length 0):=fun q=>by rw [if_neg q] at hr; exact hr
  clear hr
  unfold okD wordsD at hyes hnot
  unfold nextD at hyes
  generalize hfd:frmD d=f at *
  generalize hld:ls.getD f []=l at *
  generalize hkd:a.getD f 0=k0 at *
  generalize hsd:sizeD d=N at *
  have hfa:f < a.length:=by omega
  refine codeT_loop (fun c s'=>∃ i h'',i ≤ N∧c=N - i∧(i=0∨k0 + i ≤ l.length)∧(∀ v ∈ (l.drop k0).take i,v < 2 ^ d.width.toNat)∧h''.objs h.next=some (.cells (natVs (a.set f (k0 + i))))∧h''.next=h.next + 1∧(∀ i,i < h.next→h''.objs i=h.objs i) ∧
   s'=⟨upd (upd (upd (upd (upd (upd (upd (upd ρ0 1 (LV ls)) 5 (.ref h.next 0 ls.length 1)) 7 (.lptr 0 4 0)) 16 (.vec (p.ins.map InD.v) .any)) 17 (I p.ins.length)) 18 (I j)) 28 (I N)) 29 (I i),upd m0 0 (some [.str d.name,I d.frm,I d.width,I d.size]),1,[],h''⟩)
   (i:=N) ⟨0,h',Nat.zero_le _,rfl,.inl rfl,by simp,by
    have e:a.set f (k0 + 0)=a:=by
     apply List.ext_getElem?
     intro q
     rw [List.getElem?_set]
     split
     ·rename_i e; subst e
      rw [← hkd,List.getD_eq_getElem?_getD,List.getElem?_eq_getElem hfa]; rfl
     ·rfl
    rw [e]; exact ho,hn,hold,by simp -dsimp -implicitDefEqProofs only [↓STP,STQ,seval,LV] <;> rfl⟩ ?_ mono
  rintro c s' ⟨i,h'',hiN,rfl,hki,hws,ho2,hn2,hold2,rfl⟩
  have g2:=get_of ho2
  have lset:(a.set f (k0 + i)).length=a.length:=List.length_set
  have ga:=natVs_get (l:=a.set f (k0 + i)) (i:=f) (by omega)
  rw [getD_set_self hfa] at ga
  have hfI':((f:Nat):Int) < ((ls.length:Nat):Int):=by omega
  by_cases hlt:i < N
  ·have hltI:((i:Nat):Int) < ((N:Nat):Int):=by omega
   by_cases hge:l.length ≤ k0 + i
   ·have hgeI:((l.length:Nat):Int) ≤ ((k0 + i:Nat):Int):=by omega
    rw [← hnot (by rintro ⟨_,h2,_⟩; omega)] at hK
    simp -dsimp -implicitDefEqProofs only [↓STP,STQ,seval,eq_true hltI,LV,hfI,gl,inV_cells,InD.v_cells,eq_true hfI',Nat.mul_one,g2,ga,Ws_length,eq_true hgeI]
    exact hK h'' ⟨by omega,hold2⟩
   ·have hgeI:¬ ((l.length:Nat):Int) ≤ ((k0 + i:Nat):Int):=by omega
    have hkl:k0 + i < l.length:=by omega
    have hklI:((k0 + i:Nat):Int) < ((l.length:Nat):Int):=by omega
    have gw:=Ws_getD hkl
    have hvm:=mem_words hkl hlt
    have hv64:l.getD (k0 + i) 0 < 18446744073709551616:=okw _ (List.mem_of_mem_drop (List.mem_of_mem_take hvm))
    have htw:=take_words hkl
    have wf:=width_fits (n:=l.getD (k0 + i) 0) hdi.w1
    generalize l.getD (k0 + i) 0=v0 at *
    have w2:IntKind.i64.wrap (((k0 + i:Nat):Int) + 1)=((k0 + (i + 1):Nat):Int):=by rw [wrap_i64] <;> omega
    have w3:=wiM (show i < 9223372036854775807 by omega)
    have stw:=fun ρ m n' u=>storeF (ρ:=ρ) (m:=m) (n:=n') (u:=u) (j:=f) (v:=I ((k0 + (i + 1):Nat):Int)) g2 (by rw [natVs_len]; omega) rfl rfl
    rw [natVs_set,List.set_set] at stw
    have hnext:v0 < 2 ^ d.width.toNat→∃ (c:Nat),c < N - i∧∃ i' h3,i' ≤ N∧c=N - i'∧(i'=0∨k0 + i' ≤ l.length)∧(∀ v ∈ (l.drop k0).take i',v < 2 ^ d.width.toNat)∧h3.objs h.next=some (.cells (natVs (a.set f (k0 + i'))))∧h3.next=h.next + 1∧(∀ i,i < h.next→h3.objs i=h.objs i) ∧
      (⟨upd (upd (upd (upd (upd (upd (upd (upd ρ0 1 (LV ls)) 5 (.ref h.next 0 ls.length 1)) 7 (.lptr 0 4 0)) 16 (.vec (p.ins.map InD.v) .any)) 17 (I p.ins.length)) 18 (I j)) 28 (I N)) 29 (I ((i + 1:Nat):Int)),upd m0 0 (some [.str d.name,I d.frm,I d.width,I d.size]),1,[],h''.set h.next (.cells (natVs (a.set f (k0 + (i + 1)))))⟩:S) =
      ⟨upd (upd (upd (upd (upd (upd (upd (upd ρ0 1 (LV ls)) 5 (.ref h.next 0 ls.length 1)) 7 (.lptr 0 4 0)) 16 (.vec (p.ins.map InD.v) .any)) 17 (I p.ins.length)) 18 (I j)) 28 (I N)) 29 (I i'),upd m0 0 (some [.str d.name,I d.frm,I d.width,I d.size]),1,[],h3⟩:=fun hv0 =>
     ⟨N - (i + 1),by omega,i + 1,h''.set h.next (.cells (natVs (a.set f (k0 + (i + 1))))),hlt,rfl,.inr (by omega),fun v hv=>by
      rw [htw] at hv
      rcases List.mem_append.1 hv with hv | hv
      ·exact hws v hv
      ·rw [List.mem_singleton] at hv; subst hv; exact hv0,by rw [set_objs,if_pos rfl],hn2,fun q hq=>by rw [set_objs,if_neg (by omega)]; exact hold2 q hq,rfl⟩
    by_cases hz:(v0:Int)=0
    ·have hlt0:v0 < 2 ^ d.width.toNat:=wf.1 (.inl (by omega))
     simp -dsimp -implicitDefEqProofs only [↓STP,STQ,seval,eq_true hltI,LV,hfI,gl,inV_cells,eq_true hfI',Nat.mul_one,g2,ga,Ws_length,eq_false hgeI,eq_true hklI,gw,eq_true hz,stw,w2,w3]
     exact hnext hlt0
    ·simp -dsimp -implicitDefEqProofs only [↓STP,STQ,seval,eq_true hltI,LV,hfI,gl,inV_cells,eq_true hfI',Nat.mul_one,g2,ga,Ws_length,eq_false hgeI,eq_true hklI,gw,eq_false hz]
     refine width_full hv64 ?_
     by_cases hw:d.width < ((max (blen v0) 1:Nat):Int)
     ·have hge0:¬ v0 < 2 ^ d.width.toNat:=fun hh=>(wf.2 hh).elim (fun e=>hz (by omega)) (fun e=>e hw)
      rw [← hnot (by rintro ⟨_,_,h3⟩; exact hge0 (h3 _ hvm))] at hK
      simp -dsimp -implicitDefEqProofs only [↓STP,STQ,seval,eq_true hw]
      exact hK h'' ⟨by omega,hold2⟩
     ·have hlt0:v0 < 2 ^ d.width.toNat:=wf.1 (.inr hw)
      simp -dsimp -implicitDefEqProofs only [↓STP,STQ,seval,eq_false hw,hfI,Nat.mul_one,eq_true hfI',g2,ga,stw,w2,w3]
      exact hnext hlt0
  ·have hiN':i=N:=by omega
   subst hiN'
   simp -dsimp -implicitDefEqProofs only [↓STP,STQ,seval,Int.lt_irrefl,w1]
   have hN1:1 ≤ i:=by rw [← hsd]; unfold sizeD; omega
   have hr:=hyes ⟨hf,by omega,hws⟩
   exact ⟨p.ins.length - (j + 1),by omega,j + 1,a.set f (k0 + i),h'',hi,rfl,by rw [List.length_set]; exact hal,hr,ho2,hn2,hold2,rfl⟩
 ·have hj':j=p.ins.length:=by omega
  subst hj'
  rw [List.drop_length,fitG] at hr
  rw [← hr] at hK
  simp -dsimp -implicitDefEqProofs only [↓STP,STQ,seval,Int.lt_irrefl,LV,List.length_map]
  have g1:=get_of ho
  refine codeT_for (N:=ls.length) (fun i=>⟨upd (upd (upd (upd ρ0 5 (.ref h.next 0 ls.length 1)) 74 (LV ls)) 75 (I ls.length)) 76 (I i),m0,0,[],h'⟩) (fun i=>a.take i=(ls.map List.length).take i) (by simp -dsimp -implicitDefEqProofs only [↓STP,STQ,seval,LV] <;> rfl) rfl (fun i hlt htk=>?_) (fun htk=>?_) mono
  ·have gl:=LV_get hlt
   have ga:=natVs_get (l:=a) (i:=i) (by omega)
   have hltI:((i:Nat):Int) < ((ls.length:Nat):Int):=by omega
   have w3:=wiM (show i < 9223372036854775807 by omega)
   have e1:ls.getD i []=ls[i]:=by rw [List.getD_eq_getElem?_getD,List.getElem?_eq_getElem hlt]; rfl
   have e2:a.getD i 0=a[i]:=by rw [List.getD_eq_getElem?_getD,List.getElem?_eq_getElem (by omega)]; rfl
   by_cases he:((a.getD i 0:Nat):Int)=(((ls.getD i []).length:Nat):Int)
   ·simp -dsimp -implicitDefEqProofs only [↓STP,STQ,seval,eq_true hltI,LV,gl,g1,ga,Nat.mul_one,Ws_length,eq_true he,w3]
    rw [List.take_add_one,List.take_add_one,htk,List.getElem?_eq_getElem (by omega),List.getElem?_map,List.getElem?_eq_getElem hlt]
    rw [e1,e2] at he
    have he:a[i]=ls[i].length:=by omega
    rw [he]; rfl
   ·have hno:fitEnd ls (some a)=false:=decide_eq_false fun hh=>he (by
     have this:a.getD i 0=(ls.map List.length).getD i 0:=congrArg (fun l=>l.getD i 0) hh
     rw [this,e1,List.getD_eq_getElem?_getD,List.getElem?_map,List.getElem?_eq_getElem hlt]; rfl)
    rw [hno] at hK
    simp -dsimp -implicitDefEqProofs only [↓STP,STQ,seval,eq_true hltI,LV,gl,g1,ga,Nat.mul_one,Ws_length,eq_false he,w3]
    exact hK h' ⟨by omega,hold⟩
  ·have hyes:fitEnd ls (some a)=true:=decide_eq_true (by
    have e1:a.take ls.length=a:=List.take_of_length_le (by omega)
    have e2:(ls.map List.length).take ls.length=ls.map List.length:=List.take_of_length_le (by rw [List.length_map]; exact Nat.le_refl _)
    rw [← e1,← e2,htk])
   rw [hyes] at hK
   simp -dsimp -implicitDefEqProofs only [↓STP,STQ,seval,Int.lt_irrefl]
   exact hK h' ⟨by omega,hold⟩
end
end YtemlhjlceeiflaaDoor
end Go.Ab
namespace Go.Ab
def insD:List InD→List (List Nat)→List Nat→List (InD × List Nat)
 | [],_,_=>[]
 | d :: ds,ls,a=>(d,wordsD ls a d) :: insD ds ls (nextD a d)
def scalL:List (InD × List Nat)→List (ByteArray × Nat)
 | []=>[]
 | (d,ws) :: l=>if d.size=0 then (d.name,ws.getD 0 0) :: scalL l else scalL l
def arrL:List (InD × List Nat)→List (ByteArray × List Nat)
 | []=>[]
 | (d,ws) :: l=>if d.size=0 then arrL l else (d.name,ws) :: arrL l
def atI0 (ls:List (List Nat)):List Nat:=List.replicate ls.length 0
def startX (p:Prg) (ls:List (List Nat)):RS:=
 ⟨fun y=>findL y (scalL (insD p.ins ls (atI0 ls))),fun y=>(findL y (arrL (insD p.ins ls (atI0 ls)))).getD [],p.arrays.map fun d=>List.replicate d.size.toNat 0,[]⟩
def outX (p:Prg) (ls:List (List Nat)):List Nat:=(runsX p p.body (startX p ls)).told
def errI (p:Prg) (ls:List (List Nat)):Int:=if errT (checkT p) ≠ 0 then errT (checkT p) else if fitB p ls then 0 else 1
def resX (p:Prg) (ls:List (List Nat)):List Nat:=if errI p ls=0 then outX p ls else []
theorem scalL_app:∀ {a b:List (InD × List Nat)},scalL (a ++ b)=scalL a ++ scalL b
 | [],b=>rfl
 | (d,ws) :: l,b=>by
  simp only [List.cons_append,scalL]
  split
  ·rw [scalL_app]; rfl
  ·exact scalL_app
theorem arrL_app:∀ {a b:List (InD × List Nat)},arrL (a ++ b)=arrL a ++ arrL b
 | [],b=>rfl
 | (d,ws) :: l,b=>by
  simp only [List.cons_append,arrL]
  split
  ·exact arrL_app
  ·rw [arrL_app]; rfl
theorem scalL_keys:∀ {l:List (InD × List Nat)},((scalL l).map (·.1)).Sublist (l.map fun r=>r.1.name)
 | []=>List.Sublist.refl _
 | (d,ws) :: l=>by
  simp only [scalL,List.map_cons]
  split
  ·exact scalL_keys.cons_cons _
  ·exact scalL_keys.cons _
theorem arrL_keys:∀ {l:List (InD × List Nat)},((arrL l).map (·.1)).Sublist (l.map fun r=>r.1.name)
 | []=>List.Sublist.refl _
 | (d,ws) :: l=>by
  simp only [arrL,List.map_cons]
  split
  ·exact arrL_keys.cons _
  ·exact arrL_keys.cons_cons _
theorem scalL_mem:∀ {l:List (InD × List Nat)} {d:InD} {ws:List Nat},(d,ws) ∈ l→d.size=0→(d.name,ws.getD 0 0) ∈ scalL l
 | (e,us) :: l,d,ws,hm,hz=>by
  simp only [scalL]
  rcases List.mem_cons.1 hm with h | h
  ·cases h; rw [if_pos hz]; exact List.mem_cons_self
  ·split
   ·exact List.mem_cons_of_mem _ (scalL_mem h hz)
   ·exact scalL_mem h hz
theorem arrL_mem:∀ {l:List (InD × List Nat)} {d:InD} {ws:List Nat},(d,ws) ∈ l→d.size ≠ 0→(d.name,ws) ∈ arrL l
 | (e,us) :: l,d,ws,hm,hz=>by
  simp only [arrL]
  rcases List.mem_cons.1 hm with h | h
  ·cases h; rw [if_neg hz]; exact List.mem_cons_self
  ·split
   ·exact arrL_mem h hz
   ·exact List.mem_cons_of_mem _ (arrL_mem h hz)
theorem insD_ins:∀ {l:List InD} {ls:List (List Nat)} {a:List Nat},(insD l ls a).map (·.1)=l
 | [],_,_=>rfl
 | d :: ds,ls,a=>by rw [insD,List.map_cons,insD_ins]
theorem insD_names {l:List InD} {ls:List (List Nat)} {a:List Nat}:(insD l ls a).map (fun r=>r.1.name)=l.map InD.name:=by
 have:=congrArg (List.map InD.name) (insD_ins (l:=l) (ls:=ls) (a:=a))
 rw [List.map_map] at this
 exact this
theorem insD_ok:∀ {l:List InD} {ls:List (List Nat)} {a a':List Nat},fitG l ls a=some a'→∀ r ∈ insD l ls a,r.2.length=sizeD r.1∧∀ v ∈ r.2,v < 2 ^ r.1.width.toNat
 | d :: ds,ls,a,a',h,r,hr=>by
  rw [fitG] at h
  split at h
  ·rename_i hd
   rw [insD] at hr
   rcases List.mem_cons.1 hr with e | hr
   ·subst e
    obtain ⟨h1,h2,h3⟩:=hd
    refine ⟨?_,h3⟩
    show (((ls.getD (frmD d) []).drop (a.getD (frmD d) 0)).take (sizeD d)).length=sizeD d
    rw [List.length_take,List.length_drop]; omega
   ·exact insD_ok h r hr
  ·cases h
theorem fitB_some {p:Prg} {ls:List (List Nat)} (h:fitB p ls=true):∃ a,fitG p.ins ls (atI0 ls)=some a:=by
 unfold fitB at h
 cases c:fitG p.ins ls (List.replicate ls.length 0) with
 | some a=>exact ⟨a,c⟩
 | none=>rw [c] at h; cases h
theorem start_in {p:Prg} (hn:(p.ins.map InD.name).Nodup) {ls:List (List Nat)} {y:ByteArray} {d:InD} (hd:inOf p y=some d):∃ ws,(d,ws) ∈ insD p.ins ls (atI0 ls)∧(d.size=0→(startX p ls).vars y=some (ws.getD 0 0))∧(d.size ≠ 0→findL y (arrL (insD p.ins ls (atI0 ls)))=some ws):=by
 obtain ⟨hm,rfl⟩:=inOf_mem hd
 rw [← insD_ins (l:=p.ins) (ls:=ls) (a:=atI0 ls)] at hm
 obtain ⟨⟨d',ws⟩,hm2,rfl⟩:=List.mem_map.1 hm
 rw [← insD_names (ls:=ls) (a:=atI0 ls)] at hn
 exact ⟨ws,hm2,fun hz=>findL_of_mem (List.Nodup.sublist scalL_keys hn) (scalL_mem hm2 hz),fun hz=>findL_of_mem (List.Nodup.sublist arrL_keys hn) (arrL_mem hm2 hz)⟩
theorem ag_start {p:Prg} (hp:PV p) {ls:List (List Nat)} (hf:fitB p ls=true):Ag p (initT p) (startX p ls):=by
 obtain ⟨a,ha⟩:=fitB_some hf
 have hn:=(List.nodup_append.1 hp.nm).1
 refine ⟨⟨(fun x k w h=>by cases h),(fun x n h=>by cases h),fun x d hd hz=>?_,fun x d hd hz=>?_,?_,fun i l l' hl hl'=>?_⟩,(fun v hv=>by cases hv),Nat.zero_le _⟩
 ·obtain ⟨ws,h1,h2,_⟩:=start_in hn (ls:=ls) hd
  obtain ⟨g1,g2⟩:=insD_ok ha _ h1
  refine ⟨_,h2 hz,g2 _ ?_⟩
  have g1:ws.length=sizeD d:=g1
  have:0 < ws.length:=by rw [g1]; unfold sizeD; omega
  rw [List.getD_eq_getElem?_getD,List.getElem?_eq_getElem this]
  exact List.getElem_mem this
 ·obtain ⟨ws,h1,_,h2⟩:=start_in hn (ls:=ls) hd
  obtain ⟨g1,g2⟩:=insD_ok ha _ h1
  have e:(startX p ls).inw x=ws:=by show (findL x _).getD []=ws; rw [h2 hz]; rfl
  have hd0:=hp.ins d (inOf_mem hd).1
  rw [e]
  have g1:ws.length=sizeD d:=g1
  refine ⟨by rw [g1]; unfold sizeD; omega,fun n=>?_⟩
  rw [List.getD_eq_getElem?_getD]
  cases c:ws[n]? with
  | none=>exact Nat.two_pow_pos _
  | some v=>exact g2 v (List.mem_of_getElem? c)
 ·show (p.arrays.map _).length=(p.arrays.map _).length
  rw [List.length_map,List.length_map]
 ·have hl:(p.arrays.map fun d=>List.replicate d.size.toNat 1)[i]?=some l:=hl
  have hl':(p.arrays.map fun d=>List.replicate d.size.toNat 0)[i]?=some l':=hl'
  rw [List.getElem?_map] at hl hl'
  cases c:p.arrays[i]? with
  | none=>rw [c] at hl; cases hl
  | some d =>
   rw [c] at hl hl'
   cases hl; cases hl'
   refine ⟨by rw [List.length_replicate,List.length_replicate],fun n=>?_⟩
   rw [List.getD_eq_getElem?_getD,List.getElem?_replicate]
   have:=Nat.two_pow_pos ((List.replicate d.size.toNat 1).getD n 0)
   split
   ·exact this
   ·exact this
theorem UpH.same {h h':H} (u:UpH h h') {j:Nat} {o:O} (hj:j < h.next) (ho:h.objs j=some o):h'.objs j=some o:=by rw [u.old j hj]; exact ho
namespace YtemlhjlceeiflaaDoor
section
variable {h:H} {K:Out→H→Prop} {p:Prg}
theorem checkI (v:VT p) {ls:List (List Nat)} (ok:LsOk ls) (hK:∀ h',UpH h h'→K (.ret (I (errI p ls))) h'):R 20 [p.v,LV ls] h K:=by
 refine run20 (Nat.le_of_ble_eq_true rfl) ?_
 have hv0:p.v=V.agg [.vec (p.ins.map InD.v) .any,.vec (p.arrays.map ArD.v) .any,.vec (p.body.map Stm.v) .any]:=rfl
 have hL:LV ls=.vec (ls.map fun l=>.vec (Ws l) .any) .any:=rfl
 unfold errI at hK
 simp -dsimp -implicitDefEqProofs only [↓STP,STQ,seval,ir20,hv0,hL]
 rw [← hv0]
 refine checkG v fun h1 u1=>?_
 by_cases c:errT (checkT p)=0
 rotate_left
 ·rw [if_pos c] at hK
  simp -dsimp -implicitDefEqProofs only [↓STP,STQ,seval,eq_false c]
  exact hK h1 u1
 rw [if_neg (by simp [c])] at hK
 simp -dsimp -implicitDefEqProofs only [↓STP,STQ,seval,eq_true c,hv0,hL]
 rw [← hv0,← hL]
 refine fitI v ok fun h2 u2=>?_
 cases f:fitB p ls with
 | true =>
  rw [f] at hK
  simp -dsimp -implicitDefEqProofs only [↓STP,STQ,seval]
  exact hK h2 (u1.trans u2)
 | false =>
  rw [f] at hK
  simp -dsimp -implicitDefEqProofs only [↓STP,STQ,seval]
  exact hK h2 (u1.trans u2)
end
end YtemlhjlceeiflaaDoor
end Go.Ab
namespace Go.Ab
structure Bi (b:Nat) (h0:H) (es:List (ByteArray × Nat)) (ws:List (ByteArray × Nat × Nat)) (wd:List (ByteArray × List Nat)) (a:List Nat) (h:H):Prop where
 x:h.objs (b + 2)=some (.cells [.nilmap,.map (b + 1),.vec [] .full])
 f:∃ ver,h.objs b=some (.map (mapO wV es) ver)
 w:∃ ver,h.objs (b + 1)=some (.map (mapO refV ws) ver)
 t:h.objs (b + 3)=some (.cells (natVs a))
 cs:∀ y l,findL y wd=some l→∃ id,findL y ws=some (id,l.length)∧h.objs id=some (.cells (Ws l))
 keys:ws.map (·.1)=wd.map (·.1)
 ids:(ws.map fun r=>r.2.1).Nodup
 lt:∀ r ∈ ws,b + 4 ≤ r.2.1∧r.2.1 < h.next
 nx:b + 4 ≤ h.next
 old:∀ j,j < b→h.objs j=h0.objs j
theorem Bi.scal {b:Nat} {h0 h:H} {es:List (ByteArray × Nat)} {ws:List (ByteArray × Nat × Nat)} {wd:List (ByteArray × List Nat)} {a:List Nat} (B:Bi b h0 es ws wd a h) {es':List (ByteArray × Nat)} {ver:Nat} :
  Bi b h0 es' ws wd a (h.set b (.map (mapO wV es') ver)):=by
 refine ⟨?_,⟨ver,by rw [set_objs,if_pos rfl]⟩,?_,?_,fun y l hl=>?_,B.keys,B.ids,B.lt,B.nx,fun j hj=>?_⟩
 ·rw [set_objs,if_neg (by omega)]; exact B.x
 ·rw [set_objs,if_neg (by omega)]; exact B.w
 ·rw [set_objs,if_neg (by omega)]; exact B.t
 ·obtain ⟨id,h1,h2⟩:=B.cs y l hl
  have:=B.lt _ (findL_mem h1)
  simp only at this
  exact ⟨id,h1,by rw [set_objs,if_neg (by omega)]; exact h2⟩
 ·rw [set_objs,if_neg (by omega)]; exact B.old j hj
theorem Bi.step {b:Nat} {h0 h:H} {es:List (ByteArray × Nat)} {ws:List (ByteArray × Nat × Nat)} {wd:List (ByteArray × List Nat)} {a:List Nat} (B:Bi b h0 es ws wd a h) {a':List Nat} :
  Bi b h0 es ws wd a' (h.set (b + 3) (.cells (natVs a'))):=by
 have nx:=B.nx
 refine ⟨?_,?_,?_,by rw [set_objs,if_pos rfl],fun y l hl=>?_,B.keys,B.ids,B.lt,B.nx,fun j hj=>?_⟩
 ·rw [set_objs,if_neg (by omega)]; exact B.x
 ·rw [set_objs,if_neg (by omega)]; exact B.f
 ·rw [set_objs,if_neg (by omega)]; exact B.w
 ·obtain ⟨id,h1,h2⟩:=B.cs y l hl
  have:=B.lt _ (findL_mem h1)
  simp only at this
  exact ⟨id,h1,by rw [set_objs,if_neg (by omega)]; exact h2⟩
 ·rw [set_objs,if_neg (by omega)]; exact B.old j hj
theorem Bi.array {b:Nat} {h0 h:H} {es:List (ByteArray × Nat)} {ws:List (ByteArray × Nat × Nat)} {wd:List (ByteArray × List Nat)} {a:List Nat} (B:Bi b h0 es ws wd a h) {y:ByteArray} {l:List Nat} {ver:Nat} (hy:y ∉ wd.map (·.1)) :
  Bi b h0 es (ws ++ [(y,h.next,l.length)]) (wd ++ [(y,l)]) a ((h.new (.cells (Ws l))).set (b + 1) (.map (mapO refV (ws ++ [(y,h.next,l.length)])) ver)):=by
 have nx:=B.nx
 have hyw:y ∉ ws.map (·.1):=by rw [B.keys]; exact hy
 refine ⟨?_,?_,⟨ver,by rw [set_objs,if_pos rfl]⟩,?_,fun z m hz=>?_,by rw [List.map_append,List.map_append,B.keys]; rfl,?_,fun r hr=>?_,by rw [set_next,new_next]; omega,fun j hj=>?_⟩
 ·rw [set_objs,if_neg (by omega),new_objs,if_neg (by omega)]; exact B.x
 ·rw [set_objs,if_neg (by omega),new_objs,if_neg (by omega)]; exact B.f
 ·rw [set_objs,if_neg (by omega),new_objs,if_neg (by omega)]; exact B.t
 ·by_cases c:z=y
  ·subst c
   rw [findL_last hy] at hz
   cases hz
   exact ⟨h.next,findL_last hyw,by rw [set_objs,if_neg (by omega),new_objs,if_pos rfl]⟩
  ·have key:∀ {α:Type} {q:List (ByteArray × α)} {v:α},findL z (q ++ [(y,v)])=findL z q:=by
    intro α q v
    induction q with
    | nil=>simp only [List.nil_append,findL]; rw [if_neg (fun e=>c e.symm)]
    | cons e es ih=>simp only [List.cons_append,findL,ih]
   rw [key] at hz ⊢
   obtain ⟨id,h1,h2⟩:=B.cs z m hz
   have:=B.lt _ (findL_mem h1)
   simp only at this
   exact ⟨id,h1,by rw [set_objs,if_neg (by omega),new_objs,if_neg (by omega)]; exact h2⟩
 ·rw [List.map_append]
  refine List.nodup_append.2 ⟨B.ids,by simp,fun u hu v hv e=>?_⟩
  simp only [List.map_cons,List.map_nil,List.mem_singleton] at hv
  obtain ⟨r,hr,rfl⟩:=List.mem_map.1 hu
  have:=(B.lt r hr).2
  omega
 ·rw [set_next,new_next]
  rcases List.mem_append.1 hr with hr | hr
  ·have:=B.lt r hr; omega
  ·rw [List.mem_singleton] at hr; subst hr
   exact ⟨nx,Nat.lt_succ_self _⟩
 ·rw [set_objs,if_neg (by omega),new_objs,if_neg (by omega)]; exact B.old j hj
theorem app_newWs {st:S} {s:Nat} {l:List Nat} {c:Cap} (h1:0 < l.length) (h2:l.length ≤ 1000):appV st s (.vec [] .full) (.vec (Ws l) c) 1 8 false true=some (.ref st.h.next 0 l.length 1,st.withH (st.h.new (.cells (Ws l)))):=by
 have hf:(Ws l).flatMap V.cells=Ws l:=by
  unfold Ws
  induction l with
  | nil=>rfl
  | cons x xs ih =>
   rw [List.map_cons,List.flatMap_cons]
   cases xs with
   | nil=>rfl
   | cons y ys=>rw [ih (by simp) (by simp at h2 ⊢; omega)]; rfl
 simp only [appV,lenV,flat,hf]
 rw [if_pos ⟨by rw [Ws_length,Nat.mul_one],by decide,by decide⟩,if_pos ⟨by rw [Ws_length]; unfold most; omega,by rw [Ws_length]; exact h1⟩,Ws_length]
theorem Ws_zeros {n:Nat}:(List.replicate n [V.int .u64 0]).flatten=Ws (List.replicate n 0):=by
 induction n with
 | zero=>rfl
 | succ n ih=>rw [List.replicate_succ,List.flatten_cons,ih,List.replicate_succ]; rfl
theorem findL_app_some {α:Type} {y:ByteArray} {v:α}:∀ {a b:List (ByteArray × α)},findL y a=some v→findL y (a ++ b)=some v
 | (z,w) :: a,b,h=>by
  simp only [List.cons_append,findL] at h ⊢
  split at h
  ·rename_i e; rw [if_pos e]; exact h
  ·rename_i e; rw [if_neg e]; exact findL_app_some h
def zerL (l:List ArD):List (ByteArray × List Nat):=l.map fun d=>(d.name,List.replicate d.size.toNat 0)
theorem told_flat:∀ {l:List Nat},(l.map fun n=>[W n]).flatten=Ws l
 | []=>rfl
 | n :: l=>by rw [List.map_cons,List.flatten_cons,told_flat]; rfl
theorem zerL_snoc {l:List ArD} {d:ArD}:zerL (l ++ [d])=zerL l ++ [(d.name,List.replicate d.size.toNat 0)]:=by unfold zerL; rw [List.map_append]; rfl
theorem zerL_keys {l:List ArD}:(zerL l).map (·.1)=l.map ArD.name:=by unfold zerL; rw [List.map_map]; rfl
namespace YtemlhjlceeiflaaDoor
theorem clone2G {h:H} {K:Out→H→Prop} {id ver:Nat} {es:List (V × V)} (ho:h.objs id=some (.map es ver)) (hK:K (.ret (.map h.next)) (h.new (.map es 0))):R 22 [.map id] h K:=
 runs_ext ext2 (x:=cloneX) rfl (n:=0) ⟨id,es,ver,rfl,mapAt_of ho,hK⟩
section
variable {h:H} {K:Out→H→Prop} {p:Prg}
theorem runI (v:VT p) {ls:List (List Nat)} (ok:LsOk ls) (hK:∀ h' r,UpH h h'→WordsAt h' r (resX p ls)→K (.ret (.tuple [r,I (errI p ls)])) h'):R 11 [p.v,LV ls] h K:=by
 refine run11 (Nat.le_of_ble_eq_true rfl) ?_
 have hv0:p.v=V.agg [.vec (p.ins.map InD.v) .any,.vec (p.arrays.map ArD.v) .any,.vec (p.body.map Stm.v) .any]:=rfl
 have hL:LV ls=.vec (ls.map fun l=>.vec (Ws l) .any) .any:=rfl
 have hlen:=ok.len
 have pli:=v.ok.li
 have pla:=v.ok.la
 have hm:=maxLen_eq
 simp -dsimp -implicitDefEqProofs only [↓STP,STQ,seval,ir11,hv0,hL]
 rw [← hv0,← hL]
 refine checkI v ok fun h1 u1=>?_
 by_cases c:errI p ls=0
 rotate_left
 ·have:resX p ls=[]:=if_neg c
  rw [this] at hK
  simp -dsimp -implicitDefEqProofs only [↓STP,STQ,seval,eq_false c]
  exact hK h1 _ u1 (.inl rfl)
 have hres:resX p ls=outX p ls:=if_pos c
 rw [hres,c] at hK
 have hc:errT (checkT p)=0:=by
  unfold errI at c
  by_cases q:errT (checkT p)=0
  ·exact q
  ·rw [if_pos q] at c; exact c
 have hf:fitB p ls=true:=by
  unfold errI at c
  rw [if_neg (by simp [hc])] at c
  cases q:fitB p ls with
  | true=>rfl
  | false=>rw [q] at c; exact absurd c (by decide)
 obtain ⟨σ,hσ⟩:=errT_ok hc checkT_nz
 obtain ⟨hu,hs⟩:=check_inv hσ
 have hp:=PV_of v hu
 obtain ⟨aE,haE⟩:=fitB_some hf
 simp -dsimp -implicitDefEqProofs only [↓STP,STQ,seval,eq_true c,hv0,hL,List.length_map,mksN_ok (n:=ls.length) (sz:=1) (bytes:=8) (by omega) (by decide) (by decide),natVs_zero,new_next]
 have hnd:((insD p.ins ls (atI0 ls)).map fun r=>r.1.name).Nodup:=by rw [insD_names]; exact (List.nodup_append.1 hp.nm).1
 have haE:fitG p.ins ls (List.replicate ls.length 0)=some aE:=haE
 refine codeT_loop (fun c s'=>∃ j a h' acc ws,j ≤ p.ins.length∧c=p.ins.length - j∧a.length=ls.length∧fitG (p.ins.drop j) ls a=some aE∧insD p.ins ls (atI0 ls)=acc ++ insD (p.ins.drop j) ls a∧Bi h1.next h1 (scalL acc) ws (arrL acc) a h' ∧
  s'=⟨upd (upd (upd (upd (upd (upd (upd (upd ρ0 1 (LV ls)) 2 (.lptr 0 3 0)) 7 (.map h1.next)) 8 (.ptr (h1.next + 2) 0)) 9 (.ref (h1.next + 3) 0 ls.length 1)) 29 (.vec (p.ins.map InD.v) .any)) 30 (I p.ins.length)) 31 (I j),upd m0 0 (some [.vec (p.ins.map InD.v) .any,.vec (p.arrays.map ArD.v) .any,.vec (p.body.map Stm.v) .any]),1,[],h'⟩)
  (i:=p.ins.length) ⟨0,List.replicate ls.length 0,_,[],[],Nat.zero_le _,rfl,by simp,haE,rfl,?_,by simp -dsimp -implicitDefEqProofs only [↓STP,STQ,seval,LV] <;> rfl⟩ ?_ mono
 ·refine ⟨?_,⟨0,?_⟩,⟨0,?_⟩,?_,fun y l hl=>(by cases hl),rfl,by simp,fun r hr=>(by cases hr),?_,fun i hi=>?_⟩
  ·simp [new_objs,new_next]
  ·rw [new_objs,if_neg (by simp only [new_next]; omega),new_objs,if_neg (by simp only [new_next]; omega),new_objs,if_neg (by simp only [new_next]; omega),new_objs,if_pos rfl]; rfl
  ·simp [new_objs,new_next,mapO]
  ·simp [new_objs,new_next]
  ·simp [new_next]
  ·rw [new_objs,if_neg (by simp only [new_next]; omega),new_objs,if_neg (by simp only [new_next]; omega),new_objs,if_neg (by simp only [new_next]; omega),new_objs,if_neg (by omega)]
 rintro cc s' ⟨j,a,h',acc,ws,hj,rfl,hal,hr,hin,B,rfl⟩
 rcases Nat.lt_or_ge j p.ins.length with hi | hi
 ·have hget:=get_map (f:=InD.v) hi
  have hdm:p.ins[j] ∈ p.ins:=List.getElem_mem hi
  have hdi:=v.ins _ hdm
  have w1:=wiM (show j < 9223372036854775807 by omega)
  have hdr:p.ins.drop j=p.ins[j] :: p.ins.drop (j + 1):=List.drop_eq_getElem_cons hi
  rw [hdr] at hr hin
  rw [fitG] at hr
  rw [insD] at hin
  generalize p.ins[j]=d at *
  split at hr
  rotate_left
  ·cases hr
  rename_i hok
  obtain ⟨hf,hkN,hwid⟩:=hok
  have hname:d.name ∉ acc.map fun r=>r.1.name:=by
   rw [hin,List.map_append,List.map_cons] at hnd
   exact fun hh=>(List.nodup_append.1 hnd).2.2 _ hh _ List.mem_cons_self rfl
  have hin2:insD p.ins ls (atI0 ls)=(acc ++ [(d,wordsD ls a d)]) ++ insD (p.ins.drop (j + 1)) ls (nextD a d):=by rw [hin,List.append_assoc]; rfl
  have hf1:=hdi.f1
  have hf2:=hdi.f2
  have efr:((frmD d:Nat):Int)=d.frm - 1:=by unfold frmD; omega
  have hfI:IntKind.i64.wrap (d.frm - 1)=((frmD d:Nat):Int):=by
   rw [efr,wrap_i64] <;> omega
  have hsz:sizeD d ≤ 64:=by have:=hdi.s2; unfold sizeD; omega
  have hs1:=hdi.s1
  have hs2:=hdi.s2
  have gl:=LV_get hf
  obtain ⟨okl,okw⟩:=ok.get (frmD d)
  have gt:=get_of B.t
  have hfa:frmD d < a.length:=by omega
  have ga:=natVs_get hfa
  have hfI':((frmD d:Nat):Int) < ((ls.length:Nat):Int):=by omega
  have wN:IntKind.i64.wrap (((a.getD (frmD d) 0:Nat):Int) + ((sizeD d:Nat):Int))=((a.getD (frmD d) 0 + sizeD d:Nat):Int):=by rw [wrap_i64] <;> omega
  have sd:=slc_drop (xs:=Ws (ls.getD (frmD d) [])) (c:=.any) (i:=a.getD (frmD d) 0) (sz:=1) (k:=.i64) (by rw [Ws_length]; omega) Ws_cells (by simp)
  rw [Ws_drop] at sd
  have stw:=fun ρ m n' u=>storeF (ρ:=ρ) (m:=m) (n:=n') (u:=u) (j:=frmD d) (v:=I ((a.getD (frmD d) 0 + sizeD d:Nat):Int)) gt (by rw [natVs_len]; omega) rfl rfl
  rw [natVs_set] at stw
  have B2:=B.step (a':=nextD a d)
  unfold nextD at B2 hr hin2
  have hal2:(a.set (frmD d) (a.getD (frmD d) 0 + sizeD d)).length=ls.length:=by rw [List.length_set]; exact hal
  simp -dsimp -implicitDefEqProofs only [↓STP,STQ,seval,Int.ofNat_lt,hi,hget,inV_cells,storeV,LV,gl,hfI,eq_true hfI',Nat.mul_one,gt,ga,sd]
  rw [← inV_cells]
  refine sizeI hs1 ?_
  simp -dsimp -implicitDefEqProofs only [↓STP,STQ,seval,inV_cells,hfI,eq_true hfI',Nat.mul_one,gt,ga,wN,stw]
  unfold wordsD at hin2 hwid
  generalize frmD d=f at *
  generalize hld:ls.getD f []=l at *
  generalize hkd:a.getD f 0=k0 at *
  generalize hN:sizeD d=N at *
  generalize hhs:h'.set (h1.next + 3) (.cells (natVs (a.set f (k0 + N))))=h2 at *
  have hN1:1 ≤ N:=by rw [← hN]; unfold sizeD; omega
  have hwl:((l.drop k0).take N).length=N:=by rw [List.length_take,List.length_drop]; omega
  by_cases hz:d.size=0
  ·obtain ⟨vf,hvf⟩:=B2.f
   have hg0:(Ws (l.drop k0))[0]?=some (W (((l.drop k0).take N).getD 0 0)):=by
    rw [Ws_get,List.getD_eq_getElem?_getD,List.getElem?_take,if_pos (by omega),List.getElem?_eq_getElem (by rw [List.length_drop]; omega)]; rfl
   obtain ⟨ver',hup⟩:=mup_ok (f:=wV) (s:=d.name) (v:=((l.drop k0).take N).getD 0 0) hvf
   rw [setE_new (fun hh=>hname (scalL_keys.subset hh))] at hup
   have hup:mupV h2 .s (.map h1.next) (.str d.name) (W (((l.drop k0).take N).getD 0 0))=_:=hup
   simp -dsimp -implicitDefEqProofs only [↓STP,STQ,seval,eq_true hz,hg0,hup,w1]
   refine ⟨p.ins.length - (j + 1),by omega,j + 1,_,_,acc ++ [(d,(l.drop k0).take N)],ws,hi,rfl,hal2,hr,hin2,?_,rfl⟩
   have e1:scalL (acc ++ [(d,(l.drop k0).take N)])=scalL acc ++ [(d.name,((l.drop k0).take N).getD 0 0)]:=by rw [scalL_app]; simp only [scalL]; rw [if_pos hz]
   have e2:arrL (acc ++ [(d,(l.drop k0).take N)])=arrL acc:=by rw [arrL_app]; simp only [arrL]; rw [if_pos hz,List.append_nil]
   rw [e1,e2]
   exact B2.scal
  ·obtain ⟨vw,hvw⟩:=B2.w
   have gx:=get_of B2.x
   have hsN:d.size=((N:Nat):Int):=by rw [← hN]; unfold sizeD; omega
   have sl:slcV (.vec (Ws (l.drop k0)) .any) none (some (I d.size)) none 1=some (.vec (Ws ((l.drop k0).take N)) .any):=by
    rw [hsN,slc_take (by rw [Ws_length,List.length_drop]; omega) (by simp),Ws_take]
   have hwm:d.name ∉ ws.map (·.1):=by rw [B2.keys]; exact fun hh=>hname (arrL_keys.subset hh)
   have hvw3:(h2.new (.cells (Ws ((l.drop k0).take N)))).objs (h1.next + 1)=some (.map (mapO refV ws) vw):=by rw [new_objs,if_neg (by have:=B2.nx; omega)]; exact hvw
   obtain ⟨ver',hup⟩:=mup_ok (f:=refV) (s:=d.name) (v:=(h2.next,N)) hvw3
   rw [setE_new hwm,show refV (h2.next,N)=V.ref h2.next 0 N 1 from rfl] at hup
   have ap:=fun (st:S) (q:Nat) (c:Cap)=>app_newWs (st:=st) (s:=q) (l:=(l.drop k0).take N) (c:=c) (by omega) (by omega)
   rw [hwl] at ap
   have B3:=B2.array (y:=d.name) (l:=(l.drop k0).take N) (ver:=ver') (fun hh=>hname (arrL_keys.subset hh))
   rw [hwl] at B3
   have gx3:(h2.new (.cells (Ws ((l.drop k0).take N)))).get (h1.next + 2)=some [.nilmap,.map (h1.next + 1),.vec [] .full]:=get_of (by rw [new_objs,if_neg (by have:=B2.nx; omega)]; exact B2.x)
   simp -dsimp -implicitDefEqProofs only [↓STP,STQ,seval,eq_false hz,gx,sl,ap,gx3,hup,w1]
   refine ⟨p.ins.length - (j + 1),by omega,j + 1,_,_,acc ++ [(d,(l.drop k0).take N)],ws ++ [(d.name,h2.next,N)],hi,rfl,hal2,hr,hin2,?_,rfl⟩
   have e1:scalL (acc ++ [(d,(l.drop k0).take N)])=scalL acc:=by rw [scalL_app]; simp only [scalL]; rw [if_neg hz,List.append_nil]
   have e2:arrL (acc ++ [(d,(l.drop k0).take N)])=arrL acc ++ [(d.name,(l.drop k0).take N)]:=by rw [arrL_app]; simp only [arrL]; rw [if_neg hz]
   rw [e1,e2]
   exact B3
 ·have hj':j=p.ins.length:=by omega
  subst hj'
  rw [List.drop_length,insD,List.append_nil] at hin
  rw [← hin] at B
  simp -dsimp -implicitDefEqProofs only [↓STP,STQ,seval,Int.lt_irrefl]
  generalize hes:scalL (insD p.ins ls (atI0 ls))=es at *
  generalize hwd:arrL (insD p.ins ls (atI0 ls))=wd0 at *
  refine codeT_loop (fun c s'=>∃ j h' ws,j ≤ p.arrays.length∧c=p.arrays.length - j∧Bi h1.next h1 es ws (wd0 ++ zerL (p.arrays.take j)) a h' ∧
   s'=⟨upd (upd (upd (upd (upd (upd ρ0 2 (.lptr 0 3 0)) 7 (.map h1.next)) 8 (.ptr (h1.next + 2) 0)) 80 (.vec (p.arrays.map ArD.v) .any)) 81 (I p.arrays.length)) 82 (I j),upd m0 0 (some [.vec (p.ins.map InD.v) .any,.vec (p.arrays.map ArD.v) .any,.vec (p.body.map Stm.v) .any]),1,[],h'⟩)
   (i:=p.arrays.length) ⟨0,h',ws,Nat.zero_le _,rfl,by rw [List.take_zero,show zerL []=[] from rfl,List.append_nil]; exact B,by simp -dsimp -implicitDefEqProofs only [↓STP,STQ,seval,List.length_map] <;> rfl⟩ ?_ mono
  clear B
  rintro cc s' ⟨j,h',ws,hj,rfl,B,rfl⟩
  rcases Nat.lt_or_ge j p.arrays.length with hi | hi
  ·have hget:=get_map (f:=ArD.v) hi
   have hdm:p.arrays[j] ∈ p.arrays:=List.getElem_mem hi
   have hdi:=v.ars _ hdm
   have w1:=wiM (show j < 9223372036854775807 by omega)
   have htk:p.arrays.take (j + 1)=p.arrays.take j ++ [p.arrays[j]]:=by rw [List.take_add_one,List.getElem?_eq_getElem hi]; rfl
   have hnew:p.arrays[j].name ∉ (wd0 ++ zerL (p.arrays.take j)).map (·.1):=by
    have hnm:=hp.nm
    have e:p.arrays=p.arrays.take j ++ p.arrays[j] :: p.arrays.drop (j + 1):=by rw [← List.drop_eq_getElem_cons hi,List.take_append_drop]
    rw [List.map_append,List.mem_append]
    rintro (hh | hh)
    ·rw [← hwd] at hh
     have h3:=arrL_keys.subset hh
     rw [insD_names] at h3
     exact (List.nodup_append.1 hnm).2.2 _ h3 _ (List.mem_map.2 ⟨_,hdm,rfl⟩) rfl
    ·have h2:=(List.nodup_append.1 hnm).2.1
     rw [e,List.map_append,List.map_cons] at h2
     rw [zerL_keys] at hh
     exact (List.nodup_append.1 h2).2.2 _ hh _ List.mem_cons_self rfl
   generalize p.arrays[j]=d at *
   have hs1:=hdi.s1
   have hs2:=hdi.s2
   have hsN:d.size=((d.size.toNat:Nat):Int):=by omega
   obtain ⟨vw,hvw⟩:=B.w
   have gx:=get_of B.x
   have hwm:d.name ∉ ws.map (·.1):=by rw [B.keys]; exact hnew
   have hvw3:(h'.new (.cells (Ws (List.replicate d.size.toNat 0)))).objs (h1.next + 1)=some (.map (mapO refV ws) vw):=by rw [new_objs,if_neg (by have:=B.nx; omega)]; exact hvw
   obtain ⟨ver',hup⟩:=mup_ok (f:=refV) (s:=d.name) (v:=(h'.next,d.size.toNat)) hvw3
   rw [setE_new hwm,show refV (h'.next,d.size.toNat)=V.ref h'.next 0 d.size.toNat 1 from rfl] at hup
   have mk:mksN (I d.size) (I d.size) 1 8=some d.size.toNat:=by rw [hsN,mksN_ok (by omega) (by decide) (by decide)]; rfl
   have B3:=B.array (y:=d.name) (l:=List.replicate d.size.toNat 0) (ver:=ver') hnew
   rw [List.length_replicate] at B3
   have gx3:(h'.new (.cells (Ws (List.replicate d.size.toNat 0)))).get (h1.next + 2)=some [.nilmap,.map (h1.next + 1),.vec [] .full]:=get_of (by rw [new_objs,if_neg (by have:=B.nx; omega)]; exact B.x)
   simp -dsimp -implicitDefEqProofs only [↓STP,STQ,seval,Int.ofNat_lt,hi,hget,ArD.v_cells,ArD.v_clen,storeV,gx,mk,Ws_zeros,gx3,hup,w1]
   refine ⟨p.arrays.length - (j + 1),by omega,j + 1,_,ws ++ [(d.name,h'.next,d.size.toNat)],hi,rfl,?_,rfl⟩
   rw [htk,zerL_snoc,← List.append_assoc]
   exact B3
  ·have hj':j=p.arrays.length:=by omega
   subst hj'
   rw [List.take_length] at B
   obtain ⟨vf,hvf⟩:=B.f
   have nx:=B.nx
   simp -dsimp -implicitDefEqProofs only [↓STP,STQ,seval,Int.lt_irrefl]
   refine clone2G hvf ?_
   have gx:=get_of (show (h'.new (.map (mapO wV es) 0)).objs (h1.next + 2)=_ by rw [new_objs,if_neg (by omega)]; exact B.x)
   have st:∀ ρ m n' u,storeV ⟨ρ,m,n',u,h'.new (.map (mapO wV es) 0)⟩ (.ptr (h1.next + 2) 0) (.map h'.next) 1=some ⟨ρ,m,n',u,(h'.new (.map (mapO wV es) 0)).set (h1.next + 2) (.cells [.map h'.next,.map (h1.next + 1),.vec [] .full])⟩:=fun ρ m n' u=>storeF (j:=0) gx (show 0 < 3 by decide) rfl rfl
   generalize hh5:(h'.new (.map (mapO wV es) 0)).set (h1.next + 2) (.cells [.map h'.next,.map (h1.next + 1),.vec [] .full])=h5 at *
   simp -dsimp -implicitDefEqProofs only [↓STP,STQ,seval,st]
   have objs5:∀ j,j < h'.next→j ≠ h1.next + 2→h5.objs j=h'.objs j:=fun j hj hne=>by rw [← hh5,set_objs,if_neg hne,new_objs,if_neg (by omega)]
   have next5:h5.next=h'.next + 1:=by rw [← hh5]; rfl
   have A:AtI p ⟨h1.next + 2,h'.next,h1.next + 1,h1.next + 3,.vec [] .full,es,ws⟩ (startX p ls) h5:=by
    have hkn:((wd0 ++ zerL p.arrays).map (·.1)).Nodup:=by
     rw [List.map_append,zerL_keys,← hwd]
     refine List.Nodup.sublist ?_ hp.nm
     have:=arrL_keys (l:=insD p.ins ls (atI0 ls))
     rw [insD_names] at this
     exact List.Sublist.append this (List.Sublist.refl _)
    refine ⟨by rw [← hh5,set_objs,if_pos rfl],⟨0,?_⟩,?_,fun y=>?_,?_,fun i d hd=>?_,fun y d hd hz=>?_,⟨fun c hc=>(by cases hc),.inl ⟨rfl,rfl⟩⟩,by rw [B.keys]; exact hkn,?_,fun id hi=>?_⟩
    ·show h5.objs h'.next=_
     rw [← hh5,set_objs,if_neg (by omega),new_objs,if_pos rfl]
    ·show ∃ ver,h5.objs (h1.next + 1)=_
     rw [objs5 _ (by omega) (by omega)]; exact B.w
    ·show findL y es=findL y (scalL (insD p.ins ls (atI0 ls)))
     rw [hes]
    ·show (es.map (·.1)).Nodup
     rw [← hes]
     exact List.Nodup.sublist scalL_keys hnd
    ·have hmem:(d.name,List.replicate d.size.toNat 0) ∈ wd0 ++ zerL p.arrays:=List.mem_append_right _ (List.mem_map.2 ⟨d,List.mem_of_getElem? hd,rfl⟩)
     obtain ⟨id,q1,q2⟩:=B.cs _ _ (findL_of_mem hkn hmem)
     have:=B.lt _ (findL_mem q1)
     simp only at this
     refine ⟨id,_,?_,q1,by rw [objs5 _ (by omega) (by omega)]; exact q2⟩
     show (p.arrays.map fun d=>List.replicate d.size.toNat 0)[i]?=_
     rw [List.getElem?_map,hd]; rfl
    ·obtain ⟨us,_,_,h2⟩:=start_in (List.nodup_append.1 hp.nm).1 (ls:=ls) hd
     have h2:=h2 hz
     have e:(startX p ls).inw y=us:=by show (findL y _).getD []=us; rw [h2]; rfl
     rw [hwd] at h2
     obtain ⟨id,q1,q2⟩:=B.cs y us (findL_app_some h2)
     have:=B.lt _ (findL_mem q1)
     simp only at this
     rw [e]
     exact ⟨id,q1,by rw [objs5 _ (by omega) (by omega)]; exact q2⟩
    ·have hl:∀ i ∈ ws.map (fun r=>r.2.1),h1.next + 4 ≤ i∧i < h'.next:=fun i hi=>by
      obtain ⟨r,hr,rfl⟩:=List.mem_map.1 hi
      exact B.lt r hr
     have no:∀ i,(i < h1.next + 4∨h'.next ≤ i)→i ∉ ws.map (fun r=>r.2.1):=fun i hi hm=>by have:=hl i hm; omega
     simp only [Ik.own,List.cons_append,List.nil_append,List.nodup_cons,List.mem_cons,not_or]
     exact ⟨⟨by omega,by omega,by omega,no _ (by omega)⟩,⟨by omega,by omega,no _ (by omega)⟩,⟨by omega,no _ (by omega)⟩,no _ (by omega),B.ids⟩
    ·simp only [Ik.own,List.cons_append,List.nil_append,List.mem_cons] at hi
     rw [next5]
     rcases hi with e | e | e | e | e
     ·omega
     ·omega
     ·omega
     ·omega
     ·obtain ⟨r,hr,rfl⟩:=List.mem_map.1 e
      have:=B.lt r hr; omega
   have own5:∀ id,id < h1.next→id ∉ Ik.own ⟨h1.next + 2,h'.next,h1.next + 1,h1.next + 3,.vec [] .full,es,ws⟩:=fun id hl hi=>by
    simp only [Ik.own,List.cons_append,List.nil_append,List.mem_cons] at hi
    rcases hi with e | e | e | e | e
    ·omega
    ·omega
    ·omega
    ·omega
    ·obtain ⟨r,hr,rfl⟩:=List.mem_map.1 e
     have:=B.lt r hr; omega
   refine bodyI hp v.ok.lb v.body v.ok.body (initT p) σ ⟨h1.next + 2,h'.next,h1.next + 1,h1.next + 3,.vec [] .full,es,ws⟩ (startX p ls) h5 _ A (ag_start hp hf) (TOk_init v.ins v.ars) hs fun L6 h6 A6 F6=>?_
   have gx6:=get_of A6.x
   rw [F6.x] at gx6
   have gx6:h6.get (h1.next + 2)=some [.map L6.v,.map L6.w,L6.tv]:=gx6
   have u6:UpH h1 h6:=⟨by have:=F6.nx; omega,fun j hj=>by rw [F6.same j (by omega) (own5 j hj),objs5 j (by omega) (by omega)]; exact B.old j hj⟩
   have ho:outX p ls=(runsX p p.body (startX p ls)).told:=rfl
   rw [ho] at hK
   have g6:=A6.told.2
   generalize (runsX p p.body (startX p ls)).told=told at hK g6
   rcases g6 with ⟨e1,e2⟩ | ⟨e1,e2,e3⟩
   ·have e1:told=[]:=List.map_eq_nil_iff.1 e1
    simp -dsimp -implicitDefEqProofs only [↓STP,STQ,seval,gx6,e2]
    exact hK h6 _ (u1.trans u6) (.inl (by rw [e1]; rfl))
   ·rw [List.length_map] at e2
    have e3:h6.get L6.t=some (Ws told):=by rw [e3,told_flat]
    simp -dsimp -implicitDefEqProofs only [↓STP,STQ,seval,gx6,e2]
    exact hK h6 _ (u1.trans u6) (.inr ⟨L6.t,A6.lt _ Ik.mem.2.2.2,rfl,e3⟩)
end
end YtemlhjlceeiflaaDoor
end Go.Ab
namespace Go.Ab
def WordsOk (ls:List (List Nat)):Prop:=∀ l ∈ ls,∀ v ∈ l,v < 18446744073709551616
theorem map_lists {P:Program} {t e:TypeId} {css:List (List V)} (ht:P.underlying t=some (.slice e)) (he:P.underlying e=some (.int .u64)) (hc:∀ cs ∈ css,Ty P t cs):∃ ls:List (List Nat),css.map (mkEl false)=ls.map (fun l=>V.vec (Ws l) .any)∧ls.length=css.length∧WordsOk ls:=by
 induction css with
 | nil=>exact ⟨[],rfl,rfl,fun l hl=>by cases hl⟩
 | cons cs css ih =>
  obtain ⟨ag,es,ha,h0,hc1,hl⟩:=ty_slice ht (hc cs (by simp))
  rw [agg_int he] at ha; cases ha
  obtain ⟨n,h1,h2,h3⟩:=map_ints he hc1
  obtain ⟨ws,g1,g2,g3⟩:=Ns_words h3
  obtain ⟨ls,i1,i2,i3⟩:=ih (fun cs h=>hc cs (by simp [h]))
  refine ⟨ws :: ls,by rw [List.map_cons,List.map_cons,i1,h0,h1,g1]; rfl,by simp [i2],fun l hl=>?_⟩
  rcases List.mem_cons.1 hl with rfl | hl
  ·exact g3
  ·exact i3 l hl
theorem arg_lists {P:Program} {t e u:TypeId} {v:V} (ht:P.underlying t=some (.slice e)) (he:P.underlying e=some (.slice u)) (hu:P.underlying u=some (.int .u64)) (h:TyArg P t v):∃ ls:List (List Nat),v=LV ls∧ls.length ≤ maxLen∧WordsOk ls:=by
 obtain ⟨ag,cs,ha,rfl,h⟩:=h
 rw [agg_slice ht] at ha; cases ha
 obtain ⟨ag,css,ha,rfl,hc,hl⟩:=ty_slice ht h
 rw [agg_slice he] at ha; cases ha
 obtain ⟨ls,h1,h2,h3⟩:=map_lists he hu hc
 exact ⟨ls,by simp [mkEl,h1,LV],by omega,h3⟩
namespace YtemlhjlceeiflaaDoor
section
variable {h:H} {K:Out→H→Prop}
theorem few30 {p:Prg} (ok:POk p) (hb:p.v.bulk ≤ 20000000) {ls:List (List Nat)} (hl:ls.length ≤ maxLen) (hw:WordsOk ls) {n:Int} (hK:∀ b:Bool,(b=true→VP p∧ls.length ≤ 20∧∀ l ∈ ls,l.length ≤ 200)→K (.ret (.bool b)) h):R 10 [p.v,LV ls,I n] h K:=by
 have hm:=maxLen_eq
 refine run10 (Nat.le_of_ble_eq_true rfl) ?_
 have hv0:p.v=V.agg [.vec (p.ins.map InD.v) .any,.vec (p.arrays.map ArD.v) .any,.vec (p.body.map Stm.v) .any]:=rfl
 have hL:LV ls=.vec (ls.map fun l=>.vec (Ws l) .any) .any:=rfl
 by_cases c:(20:Int) < (ls.length:Int)
 ·simp -dsimp -implicitDefEqProofs only [↓STP,STQ,seval,ir10,hv0,hL,List.length_map,eq_true c]
  exact hK false fun hh=>by cases hh
 simp -dsimp -implicitDefEqProofs only [↓STP,STQ,seval,ir10,hv0,hL,List.length_map,eq_false c]
 rw [← hv0]
 refine few27 ok fun b=>?_
 cases b with
 | false =>
  simp -dsimp -implicitDefEqProofs only [↓STP,STQ,seval]
  exact hK false fun hh=>by cases hh
 | true =>
 simp -dsimp -implicitDefEqProofs only [↓STP,STQ,seval,hv0,hL]
 refine codeT_for (N:=ls.length) (fun i=>⟨upd (upd (upd ρ0 1 (LV ls)) 3 (.lptr 0 3 0)) 7 (I i),upd m0 0 (some [.vec (p.ins.map InD.v) .any,.vec (p.arrays.map ArD.v) .any,.vec (p.body.map Stm.v) .any]),1,[],h⟩) (fun i=>∀ l ∈ ls.take i,l.length ≤ 200) (by simp -dsimp -implicitDefEqProofs only [↓STP,STQ,seval,LV] <;> rfl) (by simp) (fun i hlt hp=>?_) (fun hp=>?_) mono
 ·have gl:=LV_get hlt
  have hltI:((i:Nat):Int) < ((ls.length:Nat):Int):=by omega
  have w1:=wiM (show i < 9223372036854775807 by omega)
  have htk:ls.take (i + 1)=ls.take i ++ [ls.getD i []]:=by rw [List.take_add_one,List.getD_eq_getElem?_getD,List.getElem?_eq_getElem hlt]; rfl
  by_cases d:(200:Int) < ((ls.getD i []).length:Int)
  ·simp -dsimp -implicitDefEqProofs only [↓STP,STQ,seval,LV,List.length_map,eq_true hltI,gl,Ws_length,eq_true d]
   exact hK false fun hh=>by cases hh
  ·simp -dsimp -implicitDefEqProofs only [↓STP,STQ,seval,LV,List.length_map,eq_true hltI,gl,Ws_length,eq_false d,w1]
   intro l hl
   rw [htk] at hl
   rcases List.mem_append.1 hl with hl | hl
   ·exact hp l hl
   ·rw [List.mem_singleton] at hl; subst hl; omega
 ·rw [List.take_length] at hp
  simp -dsimp -implicitDefEqProofs only [↓STP,STQ,seval,LV,List.length_map,Int.lt_irrefl]
  rw [← hv0]
  refine valid27 ok (fun _ _ hv=>by have:=flen_bulk ok hv; omega) fun b hb=>?_
  simp -dsimp -implicitDefEqProofs only [↓STP,STQ,seval]
  exact hK _ fun hh=>⟨hb.1 hh,by omega,hp⟩
end
end YtemlhjlceeiflaaDoor
end Go.Ab
namespace Go.Ab
def CV (x:Nat × Int) (v:Nat):Prop:=x.2 ≠ 0→v=x.1
theorem cv_nth {p:Prg} {s:RS}:∀ {l:List Exp},(∀ x ∈ l,CV (constE x) (valX p s x))→∀ i,CV (nthC (l.map constE) i) ((l.map (valX p s)).getD i 0)
 | [],_,i=>fun h=>absurd rfl h
 | e :: es,h,0=>h e (by simp)
 | e :: es,h,i + 1=>cv_nth (fun x hx=>h x (by simp [hx])) i
theorem oneIf_bN {c:Prop} [Decidable c] {b:Bool} (h:c ↔ b=true):oneIf c=bN b:=by
 unfold oneIf bN
 by_cases q:c
 ·rw [if_pos q,if_pos (h.1 q)]
 ·rw [if_neg q,if_neg (fun hb=>q (h.2 hb))]
theorem op_const {o:Int} (o1:1 ≤ o) (o7:o ≤ 7) {x y:Nat × Int} (cx:CK x) (cy:CK y) {a b:Nat} (ha:CV x a) (hb:CV y b):CV (opOf o x y) (opX o a b):=by
 intro h
 unfold opOf at h ⊢
 split at h
 ·rename_i hs
  rw [if_pos hs]
  have hn:∀ {z:Nat × Int},z.2=opSide o→z.2 ≠ 0:=fun h=>by rw [h]; unfold opSide; split <;> decide
  rw [ha (hn hs.1),hb (hn hs.2)]
  have oo:o=1∨o=2∨o=3∨o=4∨o=5∨o=6∨o=7:=by omega
  have nk:∀ {n:Nat},(numK n).2 ≠ 0→n=(numK n).1:=fun {n} h=>by
   unfold numK at h ⊢
   split at h
   ·rename_i c; rw [if_pos c]
   ·exact absurd rfl h
  rcases oo with rfl | rfl | rfl | rfl | rfl | rfl | rfl
  ·exact nk h
  ·rfl
  ·exact nk h
  ·exact oneIf_bN (by simp)
  ·exact oneIf_bN (by simp)
  ·have x2:x.2=2:=hs.1
   have y2:y.2=2:=hs.2
   refine oneIf_bN ?_
   unfold CK at cx cy
   rw [decide_eq_true_iff]
   omega
  ·have x2:x.2=2:=hs.1
   have y2:y.2=2:=hs.2
   refine oneIf_bN ?_
   unfold CK at cx cy
   rw [decide_eq_true_iff]
   omega
 ·exact absurd rfl h
theorem const_val {p:Prg} {s:RS} (e:Exp):∀ lv,VE e lv→CV (constE e) (valX p s e):=by
 induction e using Exp.ind with
 | h k o n x ks ih =>
  intro lv hv
  obtain ⟨v1,v2,v3,v4,v5,v6,v7,v8,v9⟩:=VE_mk.1 hv
  have cv:=cv_nth (p:=p) (s:=s) fun x hx=>ih x hx _ (v9 x hx)
  have hl:∀ x ∈ ks.map constE,CK x:=fun x hx=>by
   obtain ⟨e,he,rfl⟩:=List.mem_map.1 hx
   exact ck_const e _ (v9 e he)
  have c0:=ck_nth (i:=0) hl
  have c1:=ck_nth (i:=1) hl
  have c2:=ck_nth (i:=2) hl
  rw [constE_mk,valX_mk]
  intro h
  unfold constOf at h ⊢
  unfold valOf
  split at h
  ·exact absurd rfl h
  rename_i ca
  rw [if_neg ca]
  split at h
  ·rename_i d; rw [if_pos d,if_pos d]
  rename_i d; rw [if_neg d,if_neg d]
  split at h
  ·rename_i d4
   rw [if_pos d4,if_neg (by rw [d4]; decide),if_neg (by rw [d4]; decide),if_pos d4]
   obtain ⟨o1,o7⟩:=v5 d4
   exact op_const o1 o7 c0 c1 (cv 0) (cv 1) h
  rename_i d4
  rw [if_neg d4]
  split at h
  ·rename_i d5
   rw [if_pos d5,if_neg (by rw [d5]; decide),if_neg (by rw [d5]; decide),if_neg (by rw [d5]; decide),if_pos d5]
   split at h
   ·rename_i g
    rw [if_pos g,cv 0 (by rw [g]; decide)]
    have:(nthC (ks.map constE) 0).1 ≤ 1:=by unfold CK at c0; omega
    show 1 - (nthC (ks.map constE) 0).1=bN (decide ((nthC (ks.map constE) 0).1=0))
    by_cases q:(nthC (ks.map constE) 0).1=0
    ·rw [q]; rfl
    ·have q1:(nthC (ks.map constE) 0).1=1:=by omega
     rw [q1]; rfl
   ·exact absurd rfl h
  rename_i d5
  rw [if_neg d5]
  split at h
  ·rename_i d6
   rw [if_pos d6,if_neg (by rw [d6]; decide),if_neg (by rw [d6]; decide),if_neg d4,if_neg d5]
   split at h
   ·rename_i g
    rw [if_pos g,cv 0 (by rw [g.1]; decide)]
    split at h
    ·rename_i q; rw [if_pos q,if_pos q]; exact cv 1 h
    ·rename_i q; rw [if_neg q,if_neg q]; exact cv 2 h
   ·exact absurd rfl h
  ·exact absurd rfl h
theorem valX_numE {p:Prg} {s:RS} {n:Nat}:valX p s (numE n)=n:=by
 unfold numE; rw [valX_mk]; unfold valOf; rw [if_pos rfl]
theorem nthE_val {p:Prg} {s:RS} {l:List Exp} {i:Nat} (h:i < l.length):valX p s (nthE l i)=(l.map (valX p s)).getD i 0:=by
 unfold nthE
 rw [List.getD_eq_getElem?_getD,List.getD_eq_getElem?_getD,List.getElem?_map,List.getElem?_eq_getElem h]; rfl
theorem top_val {p:Prg} {s:RS} {k o:Int} {n:Nat} {x:ByteArray} {ks:List Exp} {lv:Nat} (hv:VE (.mk k o n x ks) lv):valX p s (foldTop k o n x ks)=valX p s (.mk k o n x ks):=by
 have cv:=const_val (p:=p) (s:=s) _ lv hv
 obtain ⟨v1,v2,v3,v4,v5,v6,v7,v8,v9⟩:=VE_mk.1 hv
 unfold foldTop
 split
 ·rename_i hc
  rw [valX_numE]; exact (cv (by rw [hc]; decide)).symm
 ·split
  ·rename_i hc
   obtain ⟨rfl,hc⟩:=hc
   have hl:ks.length=3:=by have:kidsN 6=3:=rfl; omega
   have c0:=const_val (p:=p) (s:=s) (nthE ks 0) _ (v9 _ (nthE_mem (by omega))) (by rw [hc]; decide)
   rw [nthE_val (by omega)] at c0
   rw [valX_mk]
   unfold valOf
   split
   ·rename_i g
    rw [if_neg (by decide),if_neg (by decide),if_neg (by decide),if_neg (by decide),if_neg (by decide),c0,if_pos g]
    exact nthE_val (by omega)
   ·rename_i g
    rw [if_neg (by decide),if_neg (by decide),if_neg (by decide),if_neg (by decide),if_neg (by decide),c0,if_neg g]
    exact nthE_val (by omega)
  ·rfl
theorem fold_val {p:Prg} {s:RS} (e:Exp):∀ lv,VE e lv→valX p s (foldE e)=valX p s e:=by
 induction e using Exp.ind with
 | h k o n x ks ih =>
  intro lv hv
  obtain ⟨v1,v2,v3,v4,v5,v6,v7,v8,v9⟩:=VE_mk.1 hv
  have hv':VE (.mk k o n x (ks.map foldE)) lv:=VE_kids hv (fun x hx=>VE_fold x _ (v9 x hx))
  rw [foldE_mk,top_val hv',valX_mk,valX_mk]
  congr 1
  rw [List.map_map]
  exact List.map_congr_left fun x hx=>ih x hx _ (v9 x hx)
structure EqS (p:Prg) (σ:TE) (s' s:RS):Prop where
 vars:∀ x r,nameT p σ x=.ok r→s'.vars x=s.vars x
 inw:s'.inw=s.inw
 words:s'.words=s.words
 told:s'.told=s.told
theorem EqS.refl {p:Prg} {σ:TE} {s:RS}:EqS p σ s s:=⟨fun _ _ _=>rfl,rfl,rfl,rfl⟩
theorem eq_vals {p:Prg} {σ:TE} {s' s:RS}:∀ {l:List Exp},(∀ x ∈ l,∀ r m,exprT p σ x=.ok (r,m)→valX p s' x=valX p s x)→∀ ks m,exprsT p σ l=.ok (ks,m)→l.map (valX p s')=l.map (valX p s)
 | [],_,_,_,_=>rfl
 | e :: es,h,ks,m,hs=>by
  rw [exprsT] at hs
  obtain ⟨⟨a,ma⟩,h1,hs⟩:=andT_inv hs
  obtain ⟨⟨b,mb⟩,h2,hs⟩:=andT_inv hs
  rw [List.map_cons,List.map_cons,h e (by simp) a ma h1,eq_vals (fun x hx=>h x (by simp [hx])) b mb h2]
theorem eq_val {p:Prg} {σ:TE} {s' s:RS} (q:EqS p σ s' s) (e:Exp):∀ r m,exprT p σ e=.ok (r,m)→valX p s' e=valX p s e:=by
 induction e using Exp.ind with
 | h k o n x ks ih =>
  intro r m h
  rw [exprT] at h
  obtain ⟨⟨l,ml⟩,h1,h⟩:=andT_inv h
  obtain ⟨t,h2,h⟩:=andT_inv h
  rw [valX_mk,valX_mk,eq_vals ih l ml h1]
  unfold valOf rdX
  rw [q.words,q.inw]
  by_cases c:k=2
  ·rw [if_neg (by rw [c]; decide),if_pos c,if_neg (by rw [c]; decide),if_pos c]
   unfold madeT at h2
   rw [if_neg (by rw [c]; decide),if_pos c] at h2
   rw [q.vars x t h2]
  ·rw [if_neg c,if_neg c]
def FoldT (p:Prg) (f:TS→TR TS) (g' g:RS→RS):Prop:=∀ σ τ s' s,TOk p σ→Ag p σ s→EqS p σ.env s' s→f σ=.ok τ→EqS p τ.env (g' s') (g s)
theorem nameT_mono {p:Prg} {σ τ:TE} {x:ByteArray} (hl:τ.loops=σ.loops) (hv:∀ u,τ.vars x=some u→∃ w,σ.vars x=some w) {r:Kn} (h:nameT p τ x=.ok r):∃ r',nameT p σ x=.ok r':=by
 unfold nameT at h ⊢
 rw [hl] at h
 split at h
 ·exact ⟨_,rfl⟩
 ·cases c:σ.vars x with
  | some u=>exact ⟨_,rfl⟩
  | none =>
   split at h
   ·rename_i u w hu
    obtain ⟨w',hw⟩:=hv _ hu
    rw [c] at hw; cases hw
   ·exact ⟨r,h⟩
theorem nameT_free {p:Prg} {σ:TE} {x:ByteArray} (h1:findL x σ.loops=none) (h2:σ.vars x=none) (h3:inOf p x=none) {r:Kn} (h:nameT p σ x=.ok r):False:=by
 unfold nameT at h
 rw [h1] at h
 simp only at h
 rw [h2] at h
 simp only at h
 rw [h3] at h
 cases h
theorem EqS.set {p:Prg} {σ:TE} {s' s:RS} (q:EqS p σ s' s) {x:ByteArray} {u:Option (Int × Nat)} {v:Option Nat}:EqS p { σ with vars:=setV σ.vars x u } { s' with vars:=setM s'.vars x v } { s with vars:=setM s.vars x v }:=by
 refine ⟨fun t r h=>?_,q.inw,q.words,q.told⟩
 show setM s'.vars x v t=setM s.vars x v t
 rw [setM_get,setM_get]
 by_cases c:t=x
 ·rw [if_pos c,if_pos c]
 ·rw [if_neg c,if_neg c]
  obtain ⟨r',h'⟩:=nameT_mono (τ:={ σ with vars:=setV σ.vars x u }) (σ:=σ) rfl (fun w hw=>by
   have hw:setV σ.vars x u t=some w:=hw
   unfold setV at hw
   rw [if_neg c] at hw
   exact ⟨w,hw⟩) h
  exact q.vars t r' h'
theorem iter_fold {p:Prg} {f:Nat→TS→TR TS} {g' g:Nat→RS→RS} {I:TS→Prop} {m:Nat} (hr:∀ n,n < m→∀ σ τ s' s,TOk p σ→I σ→Ag p σ s→EqS p σ.env s' s→f n σ=.ok τ→EqS p τ.env (g' n s') (g n s)∧Ag p τ (g n s)∧I τ) (hg:∀ n,n < m→GoodT p (f n)) :
  ∀ c n,n + c ≤ m→∀ σ τ s' s,TOk p σ→I σ→Ag p σ s→EqS p σ.env s' s→iterT f c n σ=.ok τ→EqS p τ.env (iterX g' c n s') (iterX g c n s)∧I τ
 | 0,n,_,σ,τ,s',s,ok,hi,a,q,h=>by rw [iterT] at h; cases h; exact ⟨q,hi⟩
 | c + 1,n,hm,σ,τ,s',s,ok,hi,a,q,h=>by
  rw [iterT] at h
  obtain ⟨ρ,h1,h2⟩:=andT_inv h
  obtain ⟨q1,a1,i1⟩:=hr n (by omega) σ ρ s' s ok hi a q h1
  rw [iterX,iterX]
  exact iter_fold hr hg c (n + 1) (by omega) ρ τ _ _ (hg n (by omega) σ ρ ok h1).ok i1 a1 q1 h2
theorem turn_fold {p:Prg} {x:ByteArray} {ls:List (ByteArray × Nat)} {fa:TS→TR TS} {ga' ga:RS→RS} (hf:FoldT p fa ga' ga) (hr:RunT p fa ga) (hg:GoodT p fa) {n:Nat} (hn:n < 1152921504606846976) (σ τ:TS) (s' s:RS) (ok:TOk p σ) (hi:Free p x ls σ) (a:Ag p σ s) (q:EqS p σ.env s' s) (h:turnT x fa n σ=.ok τ) :
  EqS p τ.env (ga' { s' with vars:=setM s'.vars x (some n) }) (ga { s with vars:=setM s.vars x (some n) })∧Ag p τ (ga { s with vars:=setM s.vars x (some n) })∧Free p x ls τ:=by
 obtain ⟨b1,b2⟩:=turn_run hr hg hn σ τ s ok hi a h
 refine ⟨?_,b1,b2⟩
 unfold turnT at h
 obtain ⟨ρ,h1,h⟩:=andT_inv h
 obtain ⟨ρ2,h2,h⟩:=andT_inv h
 obtain ⟨rfl,k1⟩:=stepT_ok ok h1
 have oke:=turn_ext (x:=x) k1.ok hn
 have a0:Ag p ({ σ with steps:=σ.steps + 1,env:={ σ.env with loops:=σ.env.loops ++ [(x,n)] } }:TS) { s with vars:=setM s.vars x (some n) }:=⟨AgE.turn hi a.env,a.told,Nat.le_trans a.few (Nat.le_succ _)⟩
 have q0:EqS p { σ.env with loops:=σ.env.loops ++ [(x,n)] } { s' with vars:=setM s'.vars x (some n) } { s with vars:=setM s.vars x (some n) }:=by
  refine ⟨fun t r h=>?_,q.inw,q.words,q.told⟩
  show setM s'.vars x (some n) t=setM s.vars x (some n) t
  rw [setM_get,setM_get]
  by_cases c:t=x
  ·rw [if_pos c,if_pos c]
  ·rw [if_neg c,if_neg c]
   unfold nameT at h
   cases d:findL t σ.env.loops with
   | some m =>
    exact q.vars t (kcon m) (by unfold nameT; rw [d])
   | none =>
    have d':findL t (σ.env.loops ++ [(x,n)])=none:=by
     cases d':findL t (σ.env.loops ++ [(x,n)]) with
     | none=>rfl
     | some m =>
      rcases findL_snoc d' with e | ⟨_,e,_⟩
      ·rw [d] at e; cases e
      ·exact absurd e c
    refine q.vars t r ?_
    unfold nameT
    rw [d]
    simp only [d'] at h
    exact h
 have q2:=hf _ _ _ _ oke a0 q0 h2
 have k2:=hg _ _ oke h2
 have hl:ρ2.env.loops=σ.env.loops ++ [(x,n)]:=k2.loops
 cases h
 refine ⟨fun t r h=>?_,q2.inw,q2.words,q2.told⟩
 have h:nameT p { ρ2.env with loops:=σ.env.loops } t=.ok r:=h
 unfold nameT at h
 cases d:findL t σ.env.loops with
 | some m=>exact q2.vars t (kcon m) (by unfold nameT; rw [hl,findL_snoc_old d])
 | none =>
  by_cases c:t=x
  ·subst c
   exact q2.vars t (kcon n) (by unfold nameT; rw [hl,findL_snoc_new d])
  ·have d':findL t (σ.env.loops ++ [(x,n)])=none:=by
    cases d':findL t (σ.env.loops ++ [(x,n)]) with
    | none=>rfl
    | some m =>
     rcases findL_snoc d' with e | ⟨_,e,_⟩
     ·rw [d] at e; cases e
     ·exact absurd e c
   refine q2.vars t r ?_
   unfold nameT
   rw [hl,d']
   simp only [d] at h
   exact h
theorem EqS.drop {p:Prg} {x:ByteArray} {ls:List (ByteArray × Nat)} {σ:TS} {s' s:RS} (hi:Free p x ls σ) (q:EqS p σ.env s' s) {v v':Option Nat}:EqS p σ.env { s' with vars:=setM s'.vars x v' } { s with vars:=setM s.vars x v }:=by
 refine ⟨fun t r h=>?_,q.inw,q.words,q.told⟩
 have c:t ≠ x:=fun e=>by subst e; exact nameT_free (by rw [hi.e]; exact hi.l) hi.v hi.i h
 show setM s'.vars x v' t=setM s.vars x v t
 rw [setM_get,setM_get,if_neg c,if_neg c]
 exact q.vars t r h
theorem for_fold {p:Prg} {x:ByteArray} {l:List Kn} {vs:List Nat} (hv:VFits vs l) (kl:∀ k ∈ l,KOk k) {fa:TS→TR TS} {ga' ga:RS→RS} (hf:FoldT p fa ga' ga) (hr:RunT p fa ga) (hg:GoodT p fa):FoldT p (forT p x l fa) (forX x (vs.getD 0 0) (vs.getD 1 0) ga') (forX x (vs.getD 0 0) (vs.getD 1 0) ga):=by
 intro σ τ s' s ok a q h
 obtain ⟨i0,i1,ht,h⟩:=for_is h
 have b1:=(nthK_ok kl 1).lt
 rw [(hv.nth 0).is i0,(hv.nth 1).is i1]
 unfold forX
 obtain ⟨a0,f0,k0⟩:=for_start a ok ht
 have q0:EqS p { σ.env with vars:=setV σ.env.vars x none } { s' with vars:=setM s'.vars x none } { s with vars:=setM s.vars x none }:=q.set
 by_cases hle:(nthK l 0).val ≤ (nthK l 1).val
 ·obtain ⟨q1,f1⟩:=iter_fold (f:=turnT x fa) (g':=fun n s=>ga' { s with vars:=setM s.vars x (some n) }) (g:=fun n s=>ga { s with vars:=setM s.vars x (some n) }) (m:=(nthK l 1).val + 1) (I:=Free p x σ.env.loops) (fun n hn σ τ s' s ok hi a q h=>turn_fold hf hr hg (by omega) σ τ s' s ok hi a q h) (fun n hn=>turnT_ok hg (by omega)) ((nthK l 1).val + 1 - (nthK l 0).val) (nthK l 0).val (by omega) _ τ _ _ k0 f0 a0 q0 h
  exact q1.drop f1
 ·rw [show (nthK l 1).val + 1 - (nthK l 0).val=0 by omega,iterT] at h
  rw [show (nthK l 1).val + 1 - (nthK l 0).val=0 by omega,iterX,iterX]
  cases h
  exact EqS.drop f0 q0
theorem nofor_fold {p:Prg} {x:ByteArray} {l:List Kn} {vs:List Nat} (hv:VFits vs l) {fa:TS→TR TS} {ga:RS→RS} (hlt:vs.getD 1 0 < vs.getD 0 0):FoldT p (forT p x l fa) (fun s=>s) (forX x (vs.getD 0 0) (vs.getD 1 0) ga):=by
 intro σ τ s' s ok a q h
 obtain ⟨i0,i1,ht,h⟩:=for_is h
 obtain ⟨a0,f0,k0⟩:=for_start a ok ht
 rw [(hv.nth 0).is i0,(hv.nth 1).is i1] at hlt
 rw [(hv.nth 0).is i0,(hv.nth 1).is i1]
 rw [show (nthK l 1).val + 1 - (nthK l 0).val=0 by omega,iterT] at h
 unfold forX
 rw [show (nthK l 1).val + 1 - (nthK l 0).val=0 by omega,iterX]
 cases h
 refine ⟨fun t r h=>?_,q.inw,q.words,q.told⟩
 have c:t ≠ x:=fun e=>by subst e; exact nameT_free (σ:={ σ.env with vars:=setV σ.env.vars t none }) f0.l f0.v f0.i h
 show s'.vars t=setM (setM s.vars x none) x none t
 rw [setM_get,if_neg c,setM_get,if_neg c]
 obtain ⟨r',h'⟩:=nameT_mono (τ:={ σ.env with vars:=setV σ.env.vars x none }) (σ:=σ.env) rfl (fun w hw=>by
  have hw:setV σ.env.vars x none t=some w:=hw
  unfold setV at hw
  rw [if_neg c] at hw
  exact ⟨w,hw⟩) h
 exact q.vars t r' h'
theorem if_fold {p:Prg} {l:List Kn} {vs:List Nat} {fa fb:TS→TR TS} {ga' ga gb' gb:RS→RS} (ra:FoldT p fa ga' ga) (rb:FoldT p fb gb' gb) (ha:GoodT p fa) (hb:GoodT p fb):FoldT p (ifT l fa fb) (fun s=>if vs.getD 0 0=1 then ga' s else gb' s) (fun s=>if vs.getD 0 0=1 then ga s else gb s):=by
 intro σ τ s' s ok a q h
 unfold ifT at h
 split at h
 ·cases h
 obtain ⟨σ1,h1,h⟩:=andT_inv h
 obtain ⟨σ2,h2,h⟩:=andT_inv h
 have k1:=ha { σ with ifs:=σ.ifs + 1 } _ ⟨ok.env,ok.steps,ok.most⟩ h1
 have k2:=hb { σ1 with env:=σ.env } _ ⟨ok.env,k1.ok.steps,k1.ok.most⟩ h2
 have hst1:σ.steps ≤ σ1.steps:=k1.steps
 have hm1:σ.most ≤ σ1.most:=k1.most
 have hl1:σ1.env.loops=σ.env.loops:=k1.loops
 have hl2:σ2.env.loops=σ.env.loops:=k2.loops
 cases h
 show EqS p _ (if vs.getD 0 0=1 then ga' s' else gb' s') (if vs.getD 0 0=1 then ga s else gb s)
 split
 ·have q1:=ra { σ with ifs:=σ.ifs + 1 } _ s' s ⟨ok.env,ok.steps,ok.most⟩ ⟨a.env,a.told,a.few⟩ q h1
  refine ⟨fun t r h=>?_,q1.inw,q1.words,q1.told⟩
  obtain ⟨r',h'⟩:=nameT_mono (τ:={ σ.env with vars:=bothV σ.env.vars σ1.env.vars σ2.env.vars,words:=maxW σ2.env.words σ1.env.words }) (σ:=σ1.env) hl1.symm (fun w hw=>by
   have hw:bothV σ.env.vars σ1.env.vars σ2.env.vars t=some (w.1,w.2):=hw
   obtain ⟨_,w1,w2,f1,f2,_⟩:=both_some hw
   exact ⟨_,f1⟩) h
  exact q1.vars t r' h'
 ·have q1:=rb { σ1 with env:=σ.env } _ s' s ⟨ok.env,k1.ok.steps,k1.ok.most⟩ (a.mono rfl hst1 hm1) q h2
  refine ⟨fun t r h=>?_,q1.inw,q1.words,q1.told⟩
  obtain ⟨r',h'⟩:=nameT_mono (τ:={ σ.env with vars:=bothV σ.env.vars σ1.env.vars σ2.env.vars,words:=maxW σ2.env.words σ1.env.words }) (σ:=σ2.env) hl2.symm (fun w hw=>by
   have hw:bothV σ.env.vars σ1.env.vars σ2.env.vars t=some (w.1,w.2):=hw
   obtain ⟨_,w1,w2,f1,f2,_⟩:=both_some hw
   exact ⟨_,f2⟩) h
  exact q1.vars t r' h'
theorem folds_of {p:Prg} (hp:PV p):∀ {l:List Stm} {lv:Nat},VSs l lv→(∀ x ∈ l,FoldT p (stmtT p x) (runsX p (foldS x)) (runX p x))→FoldT p (stmtsT p l) (runsX p (foldSs l)) (runsX p l)
 | [],lv,hv,ih=>fun σ τ s' s ok a q h=>by rw [stmtsT] at h; cases h; rw [foldSs,runsX,runsX]; exact q
 | x :: xs,lv,hv,ih=>fun σ τ s' s ok a q h=>by
  rw [stmtsT] at h
  obtain ⟨σ1,h1,h2⟩:=andT_inv h
  have hx:=VSs_all.1 hv x (by simp)
  have hxs:VSs xs lv:=VSs_all.2 fun y hy=>VSs_all.1 hv y (by simp [hy])
  have k:Keep p σ σ1:=stmtsT_ok hp (l:=[x]) (VSs_all.2 fun y hy=>by rw [List.mem_singleton] at hy; subst hy; exact hx) _ _ ok (by rw [stmtsT_one']; exact h1)
  rw [foldSs,runsX_append,runsX]
  exact folds_of hp hxs (fun y hy=>ih y (by simp [hy])) σ1 τ _ _ k.ok (stmt_run hp x _ hx σ σ1 s ok a h1) (ih x (by simp) σ σ1 s' s ok a q h1) h2
theorem runsX_one {p:Prg} {x:Stm} {s:RS}:runsX p [x] s=runX p x s:=by rw [runsX,runsX]
theorem stmt_fold {p:Prg} (hp:PV p) (x:Stm):∀ lv,VS x lv→FoldT p (stmtT p x) (runsX p (foldS x)) (runX p x):=by
 induction x using Stm.ind with
 | h k y e a b iha ihb =>
  intro lv hv σ τ s' s ok ag q h
  obtain ⟨v1,v2,v3,v4,v5,v6,v7,v8,v9,v10,v11⟩:=VS_mk.1 hv
  have fa:=folds_of hp v10 fun x hx=>iha x hx _ (VSs_all.1 v10 x hx)
  have fb:=folds_of hp v11 fun x hx=>ihb x hx _ (VSs_all.1 v11 x hx)
  have ga:=stmtsT_ok hp v10
  have gb:=stmtsT_ok hp v11
  have ra:=stmts_run hp v10
  have rb:=stmts_run hp v11
  obtain ⟨l,m,h1,h2,h⟩:=stmt_inv h
  obtain ⟨_,k1⟩:=stepT_ok ok h1
  have vf:=vals_fit ag.env ok.env h2
  obtain ⟨kl,km,kn⟩:=exprsT_ok hp ok.env v9 l m h2
  have ok1:TOk p { σ with steps:=σ.steps + 1,most:=max σ.most m }:=⟨ok.env,k1.ok.steps,by have:=ok.most; show max σ.most m ≤ 60; omega⟩
  have ag1:Ag p { σ with steps:=σ.steps + 1,most:=max σ.most m } s:=ag.mono rfl (Nat.le_succ _) (Nat.le_max_left _ _)
  have hvals:e.map (valX p s')=e.map (valX p s):=eq_vals (fun x _=>eq_val q x) l m h2
  have hfv:(e.map foldE).map (valX p s')=e.map (valX p s):=by
   rw [← hvals,List.map_map]
   exact List.map_congr_left fun x hx=>fold_val x _ (v9 x hx)
  have hfv0:(e.map foldE).map (valX p s)=e.map (valX p s):=by
   rw [List.map_map]
   exact List.map_congr_left fun x hx=>fold_val x _ (v9 x hx)
  have vfe:∀ y ∈ e.map foldE,VE y (lv + 1):=fun y hy=>by
   obtain ⟨z,hz,rfl⟩:=List.mem_map.1 hy
   exact VE_fold z _ (v9 z hz)
  have el:1 ≤ e.length:=by rw [v4]; split <;> decide
  have cval:∀ i,i < e.length→(constE (nthE (e.map foldE) i)).2 ≠ 0→(e.map (valX p s)).getD i 0=(constE (nthE (e.map foldE) i)).1:=fun i hi hc=>by
   have hi':i < (e.map foldE).length:=by rw [List.length_map]; exact hi
   rw [← hfv0,← nthE_val hi']
   exact const_val (p:=p) (s:=s) _ _ (vfe _ (nthE_mem hi')) hc
  rw [foldS_mk,runX_mk]
  unfold foldStm
  split
  ·rename_i c
   obtain ⟨rfl,c2⟩:=c
   have h:ifT l (stmtsT p a) (stmtsT p b) { σ with steps:=σ.steps + 1,most:=max σ.most m }=.ok τ:=h
   have c0:=cval 0 (by omega) (by rw [c2]; decide)
   have r:=if_fold (vs:=e.map (valX p s)) fa fb ga gb _ τ s' s ok1 ag1 q h
   simp only at r
   rw [c0] at r
   have er:run1 p 3 y (e.map (valX p s)) (runsX p a) (runsX p b) s=if (e.map (valX p s)).getD 0 0=1 then runsX p a s else runsX p b s:=rfl
   rw [er,c0]
   by_cases c1:(constE (nthE (e.map foldE) 0)).1=1
   ·rw [if_pos c1]; rw [if_pos c1,if_pos c1] at r; rw [if_pos c1]; exact r
   ·rw [if_neg c1]; rw [if_neg c1,if_neg c1] at r; rw [if_neg c1]; exact r
  ·rename_i c
   split
   ·rename_i d
    obtain ⟨rfl,d0,d1,d2⟩:=d
    have h:forT p y l (stmtsT p a) { σ with steps:=σ.steps + 1,most:=max σ.most m }=.ok τ:=h
    have he:e.length=2:=v4
    have c0:=cval 0 (by omega) (by rw [d0]; decide)
    have c1:=cval 1 (by omega) (by rw [d1]; decide)
    rw [runsX]
    exact nofor_fold vf (by rw [c0,c1]; exact d2) _ τ s' s ok1 ag1 q h
   ·rw [runsX_one,runX_mk,hfv]
    unfold stmt1 at h
    unfold run1
    split at h
    ·rename_i c; rw [if_pos c,if_pos c]
     unfold setT at h
     split at h
     ·cases h
     ·cases h; exact q.set
    rename_i c1; rw [if_neg c1,if_neg c1]
    split at h
    ·rename_i c; rw [if_pos c,if_pos c]
     obtain ⟨j,d,e1,e2,e3,e4,e5,e6,rfl⟩:=store_inv h
     rw [e1]
     exact ⟨fun t r h=>q.vars t r h,q.inw,by show setW s'.words _ _ _=setW s.words _ _ _; rw [q.words],q.told⟩
    rename_i c2; rw [if_neg c2,if_neg c2]
    split at h
    ·rename_i c; rw [if_pos c,if_pos c]
     exact if_fold (vs:=e.map (valX p s)) fa fb ga gb _ τ s' s ok1 ag1 q h
    rename_i c3; rw [if_neg c3,if_neg c3]
    split at h
    ·rename_i c; rw [if_pos c,if_pos c]
     exact for_fold vf kl fa ra ga _ τ s' s ok1 ag1 q h
    rename_i c4; rw [if_neg c4,if_neg c4]
    split at h
    ·cases h
    ·cases h
     exact ⟨fun t r h=>q.vars t r h,q.inw,q.words,by show s'.told ++ _=s.told ++ _; rw [q.told]⟩
theorem stmts_fold {p:Prg} (hp:PV p) {l:List Stm} {lv:Nat} (hv:VSs l lv):FoldT p (stmtsT p l) (runsX p (foldSs l)) (runsX p l):=folds_of hp hv fun x hx=>stmt_fold hp x _ (VSs_all.1 hv x hx)
end Go.Ab
namespace Go.Ab
structure LeK (a b:Kn):Prop where
 kind:a.kind=b.kind
 w:a.w ≤ b.w
 is:b.is=true→a.is=true∧a.val=b.val
theorem LeK.refl (a:Kn):LeK a a:=⟨rfl,Nat.le_refl _,fun h=>⟨h,rfl⟩⟩
structure SubT (p:Prg) (σ' σ:TE):Prop where
 vars:∀ s k w,σ.vars s=some (k,w)→∃ w',σ'.vars s=some (k,w')∧w' ≤ w
 free:∀ s k w,σ'.vars s=some (k,w)→inOf p s=none
 loops:σ'.loops=σ.loops
 wl:σ'.words.length=σ.words.length
 words:∀ (i:Nat) (l' l:List Nat),σ'.words[i]?=some l'→σ.words[i]?=some l→l'.length=l.length∧∀ n,l'.getD n 0 ≤ l.getD n 0
theorem nameT_sub {p:Prg} {σ' σ:TE} (h:SubT p σ' σ) {s:ByteArray} {r:Kn} (hr:nameT p σ s=.ok r):∃ r',nameT p σ' s=.ok r'∧LeK r' r:=by
 unfold nameT at hr ⊢
 rw [h.loops]
 cases c1:findL s σ.loops with
 | some n=>rw [c1] at hr; cases hr; exact ⟨_,rfl,.refl _⟩
 | none =>
  rw [c1] at hr
  cases c2:σ.vars s with
  | some q =>
   obtain ⟨k,w⟩:=q
   rw [c2] at hr; cases hr
   obtain ⟨w',e,hw⟩:=h.vars s k w c2
   rw [e]
   exact ⟨_,rfl,⟨rfl,hw,fun h=>by cases h⟩⟩
  | none =>
   rw [c2] at hr
   cases c3:inOf p s with
   | none=>rw [c3] at hr; cases hr
   | some d =>
    rw [c3] at hr
    have:σ'.vars s=none:=by
     cases c4:σ'.vars s with
     | none=>rfl
     | some q =>
      obtain ⟨k,w⟩:=q
      have:=h.free s k w c4
      rw [c3] at this; cases this
    rw [this]
    exact ⟨_,hr,.refl _⟩
theorem placeT_sub {a b:Kn} (h:LeK a b) {z:Int} {n:Nat} (hr:placeT b z=.ok n):placeT a z=.ok n:=by
 unfold placeT at hr ⊢
 split at hr
 ·cases hr
 ·rename_i hc
  have hk:b.kind=1:=Decidable.byContradiction fun q=>hc (.inl q)
  have hi:b.is=true:=by
   cases q:b.is with
   | true=>rfl
   | false=>exact absurd (.inr q) hc
  obtain ⟨h1,h2⟩:=h.is hi
  rw [if_neg (by rw [h.kind,hk,h1]; simp),h2]
  exact hr
theorem indexT_sub {p:Prg} {σ' σ:TE} (h:SubT p σ' σ) (hw:∀ i:Nat,i < p.arrays.length→i < σ.words.length) {s:ByteArray} {a b r:Kn} (hab:LeK a b) (hr:indexT p σ s b=.ok r):∃ r',indexT p σ' s a=.ok r'∧LeK r' r:=by
 unfold indexT at hr ⊢
 cases c1:arOf p s with
 | some i =>
  rw [c1] at hr
  simp only at hr ⊢
  obtain ⟨n,h1,h2⟩:=andT_inv hr
  rw [placeT_sub hab h1,andT_ok]
  cases h2
  refine ⟨_,rfl,⟨rfl,?_,fun h=>by cases h⟩⟩
  obtain ⟨d,hd,_,_⟩:=arOf_some c1
  have hi:i < σ.words.length:=hw i (by
   rcases Nat.lt_or_ge i p.arrays.length with q | q
   ·exact q
   ·rw [List.getElem?_eq_none q] at hd; cases hd)
  have e1:=List.getElem?_eq_getElem hi
  have e2:=List.getElem?_eq_getElem (show i < σ'.words.length by rw [h.wl]; exact hi)
  have:=(h.words i _ _ e2 e1).2 n
  show (σ'.words.getD i []).getD n 0 ≤ (σ.words.getD i []).getD n 0
  rw [List.getD_eq_getElem?_getD (l:=σ'.words),e2,List.getD_eq_getElem?_getD (l:=σ.words),e1]
  exact this
 | none =>
  rw [c1] at hr
  simp only at hr ⊢
  cases c2:inOf p s with
  | none=>rw [c2] at hr; cases hr
  | some d =>
   rw [c2] at hr
   simp only at hr ⊢
   split at hr
   ·cases hr
   ·rename_i hs
    rw [if_neg hs]
    obtain ⟨n,h1,h2⟩:=andT_inv hr
    rw [placeT_sub hab h1,andT_ok]
    cases h2
    exact ⟨_,rfl,.refl _⟩
theorem opK_sub {o:Int} {a b a' b' r:Kn} (ha:LeK a' a) (hb:LeK b' b) (hr:opK o a b=.ok r):∃ r',opK o a' b'=.ok r'∧LeK r' r:=by
 have kn:∀ {x y:Bool},(x && y)=true→x=true∧y=true:=fun {x y} h=>by simpa using h
 have wa:=ha.w
 have wb:=hb.w
 unfold opK at hr ⊢
 rw [ha.kind,hb.kind]
 split at hr
 ·cases hr
 ·rename_i hk
  rw [if_neg hk]
  split at hr
  ·rename_i ho
   rw [if_pos ho]; cases hr
   refine ⟨_,rfl,rfl,by show max a'.w b'.w + 1 ≤ max a.w b.w + 1; omega,fun h=>?_⟩
   obtain ⟨x,y⟩:=kn h
   obtain ⟨x1,x2⟩:=ha.is x
   obtain ⟨y1,y2⟩:=hb.is y
   simp [x,y,x1,x2,y1,y2]
  ·rename_i ho
   rw [if_neg ho]
   split at hr
   ·rename_i ho
    rw [if_pos ho]; cases hr
    refine ⟨_,rfl,rfl,wa,fun h=>?_⟩
    obtain ⟨x,y⟩:=kn h
    obtain ⟨x1,x2⟩:=ha.is x
    obtain ⟨y1,y2⟩:=hb.is y
    simp [x,y,x1,x2,y1,y2]
   ·rename_i ho
    rw [if_neg ho]
    split at hr
    ·rename_i ho
     rw [if_pos ho]; cases hr
     refine ⟨_,rfl,rfl,by show a'.w + b'.w ≤ a.w + b.w; omega,fun h=>?_⟩
     obtain ⟨x,y⟩:=kn h
     obtain ⟨x1,x2⟩:=ha.is x
     obtain ⟨y1,y2⟩:=hb.is y
     simp [x,y,x1,x2,y1,y2]
    ·rename_i ho
     rw [if_neg ho]; cases hr
     exact ⟨_,rfl,.refl _⟩
inductive LeKs:List Kn→List Kn→Prop
 | nil:LeKs [] []
 | cons {a b:Kn} {l m:List Kn}:LeK a b→LeKs l m→LeKs (a :: l) (b :: m)
theorem LeKs.nth {l m:List Kn} (h:LeKs l m):∀ i,LeK (nthK l i) (nthK m i):=by
 induction h with
 | nil=>intro i; exact .refl _
 | cons h1 _ ih =>
  intro i
  cases i with
  | zero=>exact h1
  | succ i=>exact ih i
theorem madeT_sub {p:Prg} {σ' σ:TE} (h:SubT p σ' σ) (hw:∀ i:Nat,i < p.arrays.length→i < σ.words.length) {k o:Int} {n:Nat} {s:ByteArray} {l' l:List Kn} {r:Kn} (hl:LeKs l' l) (hr:madeT p σ k o n s l=.ok r):∃ r',madeT p σ' k o n s l'=.ok r'∧LeK r' r:=by
 have h0:=hl.nth 0
 have h1:=hl.nth 1
 have h2:=hl.nth 2
 unfold madeT at hr ⊢
 split at hr
 ·rename_i c; rw [if_pos c]; cases hr; exact ⟨_,rfl,.refl _⟩
 rename_i c; rw [if_neg c]
 split at hr
 ·rename_i c; rw [if_pos c]; exact nameT_sub h hr
 rename_i c; rw [if_neg c]
 split at hr
 ·rename_i c; rw [if_pos c]; exact indexT_sub h hw h0 hr
 rename_i c; rw [if_neg c]
 split at hr
 ·rename_i c; rw [if_pos c]; exact opK_sub h0 h1 hr
 rename_i c; rw [if_neg c]
 split at hr
 ·rename_i c; rw [if_pos c]
  split at hr
  ·cases hr
  ·rename_i d; rw [h0.kind,if_neg d]; cases hr; exact ⟨_,rfl,.refl _⟩
 rename_i c; rw [if_neg c]
 split at hr
 ·cases hr
 ·rename_i d
  rw [h0.kind,h1.kind,h2.kind,if_neg d]
  cases hr
  have:=h1.w
  have:=h2.w
  exact ⟨_,rfl,rfl,by show max (nthK l' 1).w (nthK l' 2).w ≤ max (nthK l 1).w (nthK l 2).w; omega,fun h=>by cases h⟩
theorem toldT_sub {m' m:Nat} {a b:Kn} {r:Kn × Nat} (h:LeK a b) (hm:m' ≤ m) (hr:toldT m b=.ok r):∃ r',toldT m' a=.ok r'∧LeK r'.1 r.1∧r'.2 ≤ r.2:=by
 have hw:=h.w
 unfold toldT at hr ⊢
 rw [h.kind]
 split at hr
 ·rename_i c
  rw [if_pos c]
  split at hr
  ·cases hr
  ·rw [if_neg (by omega)]
   cases hr
   exact ⟨_,rfl,h,by show max m' a.w ≤ max m b.w; omega⟩
 ·rename_i c
  rw [if_neg c]; cases hr
  exact ⟨_,rfl,h,hm⟩
end Go.Ab
namespace Go.Ab
structure CT (x:Nat × Int) (r:Kn):Prop where
 num:x.2=1→r.kind=1∧x.1 < 2 ^ r.w∧1 ≤ r.w∧(r.is=true→r.val=x.1)
 boo:x.2=2→r.kind=2
theorem CT_none {r:Kn}:CT (0,0) r:=⟨fun h=>absurd h (by decide),fun h=>absurd h (by decide)⟩
theorem CT_con {n:Nat}:CT (n,1) (kcon n):=⟨fun _=>⟨rfl,lt_wid n,wid_pos n,fun _=>rfl⟩,fun h=>absurd h (show ¬ (1:Int)=2 by decide)⟩
theorem CT_boo {b:Bool}:CT (truK b) kboo:=⟨fun h=>absurd h (show ¬ (2:Int)=1 by decide),fun _=>rfl⟩
theorem CT_numK {n:Nat} {r:Kn} (hk:r.kind=1) (h:n < 2 ^ r.w) (hw:1 ≤ r.w) (hv:r.is=true→r.val=n):CT (numK n) r:=by
 unfold numK
 split
 ·exact ⟨fun _=>⟨hk,h,hw,hv⟩,fun h=>absurd h (show ¬ (1:Int)=2 by decide)⟩
 ·exact CT_none
theorem CT_op {o:Int} {x y:Nat × Int} {a b r:Kn} (o1:1 ≤ o) (o7:o ≤ 7) (ha:CT x a) (hb:CT y b) (h:opK o a b=.ok r):CT (opOf o x y) r:=by
 unfold opOf
 split
 ·rename_i hs
  obtain ⟨hx,hy⟩:=hs
  have oo:o=1∨o=2∨o=3∨o=4∨o=5∨o=6∨o=7:=by omega
  unfold opK at h
  split at h
  ·cases h
  rename_i hk
  have n1:opSide 1=1:=by decide
  have n2:opSide 2=1:=by decide
  have n3:opSide 3=1:=by decide
  rcases oo with rfl | rfl | rfl | rfl | rfl | rfl | rfl
  ·rw [n1] at hx hy
   obtain ⟨a1,a2,a3,a4⟩:=ha.num hx
   obtain ⟨b1,b2,b3,b4⟩:=hb.num hy
   rw [if_pos rfl] at h; cases h
   unfold opDo; rw [if_pos rfl]
   refine CT_numK rfl ?_ (by show 1 ≤ max a.w b.w + 1; omega) (fun hi=>?_)
   ·show x.1 + y.1 < 2 ^ (max a.w b.w + 1)
    have h1:2 ^ a.w ≤ 2 ^ max a.w b.w:=Nat.pow_le_pow_right (by decide) (by omega)
    have h2:2 ^ b.w ≤ 2 ^ max a.w b.w:=Nat.pow_le_pow_right (by decide) (by omega)
    rw [Nat.pow_succ]; omega
   ·have hi:(a.is && b.is)=true:=hi
    show (if (a.is && b.is)=true then a.val + b.val else 0)=_
    rw [if_pos hi]
    simp only [Bool.and_eq_true] at hi
    rw [a4 hi.1,b4 hi.2]
  ·rw [n2] at hx hy
   obtain ⟨a1,a2,a3,a4⟩:=ha.num hx
   obtain ⟨b1,b2,b3,b4⟩:=hb.num hy
   rw [if_neg (by decide),if_pos rfl] at h; cases h
   unfold opDo; rw [if_neg (by decide),if_pos rfl]
   refine ⟨fun _=>⟨rfl,by show x.1 - y.1 < 2 ^ a.w; omega,a3,fun hi=>?_⟩,fun h=>absurd h (show ¬ (1:Int)=2 by decide)⟩
   have hi:(a.is && b.is)=true:=hi
   show (if (a.is && b.is)=true then a.val - b.val else 0)=x.1 - y.1
   rw [if_pos hi]
   simp only [Bool.and_eq_true] at hi
   rw [a4 hi.1,b4 hi.2]
  ·rw [n3] at hx hy
   obtain ⟨a1,a2,a3,a4⟩:=ha.num hx
   obtain ⟨b1,b2,b3,b4⟩:=hb.num hy
   rw [if_neg (by decide),if_neg (by decide),if_pos rfl] at h; cases h
   unfold opDo; rw [if_neg (by decide),if_neg (by decide),if_pos rfl]
   refine CT_numK rfl ?_ (by show 1 ≤ a.w + b.w; omega) (fun hi=>?_)
   ·show x.1 * y.1 < 2 ^ (a.w + b.w)
    rw [Nat.pow_add]
    exact Nat.mul_lt_mul'' a2 b2
   ·have hi:(a.is && b.is)=true:=hi
    show (if (a.is && b.is)=true then a.val * b.val else 0)=_
    rw [if_pos hi]
    simp only [Bool.and_eq_true] at hi
    rw [a4 hi.1,b4 hi.2]
  all_goals
   rw [if_neg (by decide),if_neg (by decide),if_neg (by decide)] at h; cases h
   unfold opDo
   rw [if_neg (by decide),if_neg (by decide),if_neg (by decide)]
   repeat' split
   all_goals exact CT_boo
 ·exact CT_none
inductive CTs:List (Nat × Int)→List Kn→Prop
 | nil:CTs [] []
 | cons {x:Nat × Int} {r:Kn} {l:List (Nat × Int)} {m:List Kn}:CT x r→CTs l m→CTs (x :: l) (r :: m)
theorem CTs.nth {l:List (Nat × Int)} {m:List Kn} (h:CTs l m):∀ i,CT (nthC l i) (nthK m i):=by
 induction h with
 | nil=>intro i; exact CT_none
 | cons h1 _ ih =>
  intro i
  cases i with
  | zero=>exact h1
  | succ i=>exact ih i
theorem CTs_of {p:Prg} {σ:TE}:∀ {l:List Exp},(∀ x ∈ l,∀ r m,exprT p σ x=.ok (r,m)→CT (constE x) r)→∀ ks m,exprsT p σ l=.ok (ks,m)→CTs (l.map constE) ks
 | [],_,ks,m,h=>by rw [exprsT] at h; cases h; exact .nil
 | e :: es,ih,ks,m,h=>by
  rw [exprsT] at h
  obtain ⟨⟨a,ma⟩,h1,h⟩:=andT_inv h
  obtain ⟨⟨b,mb⟩,h2,h⟩:=andT_inv h
  cases h
  exact .cons (ih e (by simp) a ma h1) (CTs_of (fun x hx=>ih x (by simp [hx])) b mb h2)
theorem const_typed {p:Prg} {σ:TE} (e:Exp):∀ lv,VE e lv→∀ r m,exprT p σ e=.ok (r,m)→CT (constE e) r:=by
 induction e using Exp.ind with
 | h k o n s ks ih =>
  intro lv hv r m h
  obtain ⟨v1,v2,v3,v4,v5,v6,v7,v8,v9⟩:=VE_mk.1 hv
  rw [exprT] at h
  obtain ⟨⟨l,ml⟩,h1,h⟩:=andT_inv h
  obtain ⟨q,h2,h⟩:=andT_inv h
  have hq:=(toldT_ok h).1
  simp only at hq
  subst hq
  have cs:=CTs_of (fun x hx=>ih x hx _ (v9 x hx)) l ml h1
  have c0:=cs.nth 0
  have c1:=cs.nth 1
  have c2:=cs.nth 2
  rw [constE_mk]
  unfold constOf
  split
  ·exact CT_none
  unfold madeT at h2
  split
  ·rename_i c; rw [if_pos c] at h2; cases h2; exact CT_con
  rename_i c; rw [if_neg c] at h2
  split
  ·rename_i d
   obtain ⟨o1,o7⟩:=v5 d
   rw [if_neg (by rw [d]; decide),if_neg (by rw [d]; decide),if_pos d] at h2
   exact CT_op o1 o7 c0 c1 h2
  rename_i d
  split
  ·rename_i e
   rw [if_neg (by rw [e]; decide),if_neg (by rw [e]; decide),if_neg d,if_pos e] at h2
   split
   ·split at h2
    ·cases h2
    ·cases h2; exact CT_boo
   ·exact CT_none
  rename_i e
  split
  ·rename_i f
   rw [if_neg (by rw [f]; decide),if_neg (by rw [f]; decide),if_neg d,if_neg e] at h2
   split
   ·rename_i g
    split at h2
    ·cases h2
    ·rename_i hh
     cases h2
     have hk:(nthK l 2).kind=(nthK l 1).kind:=Decidable.byContradiction fun q=>hh (.inr q)
     split
     ·refine ⟨fun hx=>?_,fun hx=>c1.boo hx⟩
      obtain ⟨x1,x2,x3,_⟩:=c1.num hx
      have:2 ^ (nthK l 1).w ≤ 2 ^ max (nthK l 1).w (nthK l 2).w:=Nat.pow_le_pow_right (by decide) (by omega)
      exact ⟨x1,Nat.lt_of_lt_of_le x2 this,by show 1 ≤ max _ _; omega,fun h=>by cases h⟩
     ·refine ⟨fun hx=>?_,fun hx=>by show (nthK l 1).kind=2; rw [← hk]; exact c2.boo hx⟩
      obtain ⟨x1,x2,x3,_⟩:=c2.num hx
      have:2 ^ (nthK l 2).w ≤ 2 ^ max (nthK l 1).w (nthK l 2).w:=Nat.pow_le_pow_right (by decide) (by omega)
      exact ⟨by show (nthK l 1).kind=1; rw [← hk]; exact x1,Nat.lt_of_lt_of_le x2 this,by show 1 ≤ max _ _; omega,fun h=>by cases h⟩
   ·exact CT_none
  ·exact CT_none
end Go.Ab
namespace Go.Ab
theorem LeK.trans {a b c:Kn} (h:LeK a b) (h':LeK b c):LeK a c:=⟨h.kind.trans h'.kind,Nat.le_trans h.w h'.w,fun hi=>by
 obtain ⟨x,y⟩:=h'.is hi
 obtain ⟨x',y'⟩:=h.is x
 exact ⟨x',y'.trans y⟩⟩
theorem exprsT_nth {p:Prg} {σ:TE}:∀ {l:List Exp} {ks:List Kn} {m:Nat},exprsT p σ l=.ok (ks,m)→∀ i,i < l.length→∃ mi,exprT p σ (nthE l i)=.ok (nthK ks i,mi)∧mi ≤ m
 | [],ks,m,_,i,hi=>absurd hi (Nat.not_lt_zero _)
 | e :: es,ks,m,h,i,hi=>by
  rw [exprsT] at h
  obtain ⟨⟨a,ma⟩,h1,h⟩:=andT_inv h
  obtain ⟨⟨b,mb⟩,h2,h⟩:=andT_inv h
  cases h
  cases i with
  | zero=>exact ⟨ma,h1,by omega⟩
  | succ i =>
   obtain ⟨mi,q1,q2⟩:=exprsT_nth h2 i (by simpa using hi)
   exact ⟨mi,q1,by omega⟩
theorem exprsT_sub {p:Prg} {σ' σ:TE} {f:Exp→Exp}:∀ {l:List Exp},(∀ x ∈ l,∀ r m,exprT p σ x=.ok (r,m)→∃ r' m',exprT p σ' (f x)=.ok (r',m')∧LeK r' r∧m' ≤ m)→∀ ks m,exprsT p σ l=.ok (ks,m)→∃ ks' m',exprsT p σ' (l.map f)=.ok (ks',m')∧LeKs ks' ks∧m' ≤ m
 | [],_,ks,m,h=>by rw [exprsT] at h; cases h; exact ⟨[],0,by rw [List.map_nil,exprsT],.nil,Nat.le_refl _⟩
 | e :: es,ih,ks,m,h=>by
  rw [exprsT] at h
  obtain ⟨⟨a,ma⟩,h1,h⟩:=andT_inv h
  obtain ⟨⟨b,mb⟩,h2,h⟩:=andT_inv h
  cases h
  obtain ⟨r',m',q1,q2,q3⟩:=ih e (by simp) a ma h1
  obtain ⟨ks',n',s1,s2,s3⟩:=exprsT_sub (fun x hx=>ih x (by simp [hx])) b mb h2
  exact ⟨r' :: ks',max m' n',by rw [List.map_cons,exprsT,q1,andT_ok]; simp only [s1,andT_ok],.cons q2 s2,by omega⟩
theorem exprT_numE {p:Prg} {σ:TE} {n:Nat} (h:wid n ≤ 60):exprT p σ (numE n)=.ok (kcon n,max 0 (wid n)):=by
 rw [numE,exprT,exprsT,andT_ok]
 show andT (.ok (kcon n)) _=_
 rw [andT_ok]
 unfold toldT
 rw [if_pos (show (kcon n).kind=1 from rfl),if_neg (by show ¬ 60 < wid n; omega)]
 rfl
theorem top_typed {p:Prg} {σ:TE} {k o:Int} {n:Nat} {s:ByteArray} {ks:List Exp} {lv:Nat} (hv:VE (.mk k o n s ks) lv) {r:Kn} {m:Nat} (h:exprT p σ (.mk k o n s ks)=.ok (r,m)):∃ r' m',exprT p σ (foldTop k o n s ks)=.ok (r',m')∧LeK r' r∧m' ≤ m:=by
 have ct:=const_typed _ lv hv r m h
 have h0:=h
 rw [exprT] at h
 obtain ⟨⟨l,ml⟩,h1,h⟩:=andT_inv h
 obtain ⟨q,h2,h⟩:=andT_inv h
 obtain ⟨t1,t2,_,t4,t5⟩:=toldT_ok h
 simp only at t1
 subst t1
 unfold foldTop
 split
 ·rename_i hc
  obtain ⟨a1,a2,a3,a4⟩:=ct.num hc
  have hw:=wid_le a2 a3
  have h60:=t2 a1
  refine ⟨kcon _,_,exprT_numE (by omega),⟨a1.symm,hw,fun hi=>⟨rfl,(a4 hi).symm⟩⟩,?_⟩
  have:=t5 a1
  simp only at this
  omega
 ·split
  ·rename_i hc
   obtain ⟨rfl,hc⟩:=hc
   obtain ⟨v1,v2,_⟩:=VE_mk.1 hv
   have hl:ks.length=3:=by have:kidsN 6=3:=rfl; omega
   unfold madeT at h2
   rw [if_neg (by decide),if_neg (by decide),if_neg (by decide),if_neg (by decide),if_neg (by decide)] at h2
   split at h2
   ·cases h2
   ·rename_i hh
    have hk:(nthK l 2).kind=(nthK l 1).kind:=Decidable.byContradiction fun q=>hh (.inr q)
    cases h2
    have t4:ml ≤ m:=t4
    split
    ·obtain ⟨mi,q1,q2⟩:=exprsT_nth h1 1 (by omega)
     exact ⟨_,mi,q1,⟨rfl,by show _ ≤ max _ _; omega,fun h=>by cases h⟩,by omega⟩
    ·obtain ⟨mi,q1,q2⟩:=exprsT_nth h1 2 (by omega)
     exact ⟨_,mi,q1,⟨hk,by show _ ≤ max _ _; omega,fun h=>by cases h⟩,by omega⟩
  ·exact ⟨r,m,h0,.refl _,Nat.le_refl _⟩
theorem fold_typed {p:Prg} {σ' σ:TE} (hs:SubT p σ' σ) (hw:∀ i:Nat,i < p.arrays.length→i < σ.words.length) (e:Exp):∀ lv,VE e lv→∀ r m,exprT p σ e=.ok (r,m)→∃ r' m',exprT p σ' (foldE e)=.ok (r',m')∧LeK r' r∧m' ≤ m:=by
 induction e using Exp.ind with
 | h k o n s ks ih =>
  intro lv hv r m h
  obtain ⟨v1,v2,v3,v4,v5,v6,v7,v8,v9⟩:=VE_mk.1 hv
  rw [exprT] at h
  obtain ⟨⟨l,ml⟩,h1,h⟩:=andT_inv h
  obtain ⟨q,h2,h⟩:=andT_inv h
  obtain ⟨l',ml',s1,s2,s3⟩:=exprsT_sub (fun x hx=>ih x hx _ (v9 x hx)) l ml h1
  obtain ⟨q',g1,g2⟩:=madeT_sub hs hw s2 h2
  obtain ⟨⟨r1,m1⟩,t1,t2,t3⟩:=toldT_sub g2 s3 h
  have ht:exprT p σ' (.mk k o n s (ks.map foldE))=.ok (r1,m1):=by
   rw [exprT,s1,andT_ok]
   simp only
   rw [g1,andT_ok,t1]
  have hv':VE (.mk k o n s (ks.map foldE)) lv:=VE_kids hv (fun x hx=>VE_fold x _ (v9 x hx))
  obtain ⟨r',m',q1,q2,q3⟩:=top_typed hv' ht
  rw [foldE_mk]
  exact ⟨r',m',q1,q2.trans t2,Nat.le_trans q3 t3⟩
end Go.Ab
namespace Go.Ab
structure SubS (p:Prg) (σ' σ:TS):Prop where
 env:SubT p σ'.env σ.env
 steps:σ'.steps ≤ σ.steps
 most:σ'.most ≤ σ.most
 ifs:σ'.ifs ≤ σ.ifs
theorem stepT_sub {p:Prg} {σ' σ τ:TS} (h:SubS p σ' σ) (hs:stepT σ=.ok τ):∃ τ',stepT σ'=.ok τ'∧SubS p τ' τ:=by
 unfold stepT at hs ⊢
 have:=h.steps
 split at hs
 ·cases hs
 ·rw [if_neg (by omega)]; cases hs
  exact ⟨_,rfl,⟨h.env,by show σ'.steps + 1 ≤ σ.steps + 1; omega,h.most,h.ifs⟩⟩
theorem SubS.skip {p:Prg} {σ' σ τ:TS} (h:SubS p σ' σ) (hs:stepT σ=.ok τ):SubS p σ' τ:=by
 unfold stepT at hs
 split at hs
 ·cases hs
 ·cases hs
  exact ⟨h.env,by have:=h.steps; show σ'.steps ≤ σ.steps + 1; omega,h.most,h.ifs⟩
theorem takenT_sub {p:Prg} {σ' σ:TE} (h:SubT p σ' σ) {s:ByteArray}:takenT p σ' s=takenT p σ s:=by
 unfold takenT; rw [h.loops]
theorem setT_sub {p:Prg} {σ' σ τ:TS} {s:ByteArray} {l' l:List Kn} (h:SubS p σ' σ) (hl:LeKs l' l) (hs:setT p s l σ=.ok τ):∃ τ',setT p s l' σ'=.ok τ'∧SubS p τ' τ:=by
 have h0:=hl.nth 0
 unfold setT at hs ⊢
 rw [takenT_sub h.env]
 split at hs
 ·cases hs
 ·rename_i ht
  rw [if_neg ht]; cases hs
  refine ⟨_,rfl,⟨⟨fun t k w hv=>?_,fun t k w hv=>?_,h.env.loops,h.env.wl,h.env.words⟩,h.steps,h.most,h.ifs⟩⟩
  ·have hv:setV σ.env.vars s (some ((nthK l 0).kind,(nthK l 0).w)) t=some (k,w):=hv
   show ∃ w',setV σ'.env.vars s (some ((nthK l' 0).kind,(nthK l' 0).w)) t=some (k,w')∧w' ≤ w
   unfold setV at hv ⊢
   split at hv
   ·rename_i c
    rw [if_pos c]; cases hv
    exact ⟨_,by rw [h0.kind],h0.w⟩
   ·rename_i c
    rw [if_neg c]; exact h.env.vars t k w hv
  ·have hv:setV σ'.env.vars s (some ((nthK l' 0).kind,(nthK l' 0).w)) t=some (k,w):=hv
   unfold setV at hv
   split at hv
   ·rename_i c
    subst c
    unfold takenT at ht
    cases hi:inOf p t with
    | none=>rfl
    | some d=>rw [hi] at ht; exact absurd (by simp) ht
   ·exact h.env.free t k w hv
theorem storeT_sub {p:Prg} {σ' σ τ:TS} {s:ByteArray} {l' l:List Kn} (h:SubS p σ' σ) (hl:LeKs l' l) (hs:storeT p s l σ=.ok τ):∃ τ',storeT p s l' σ'=.ok τ'∧SubS p τ' τ:=by
 have h0:=hl.nth 0
 have h1:=hl.nth 1
 unfold storeT at hs ⊢
 cases c:arOf p s with
 | none=>rw [c] at hs; cases hs
 | some i =>
  rw [c] at hs
  simp only at hs ⊢
  obtain ⟨n,q1,q2⟩:=andT_inv hs
  rw [placeT_sub h0 q1,andT_ok,h1.kind]
  split at q2
  ·cases q2
  ·rename_i hk
   rw [if_neg hk]; cases q2
   refine ⟨_,rfl,⟨⟨h.env.vars,h.env.free,h.env.loops,by show (setW _ _ _ _).length=(setW _ _ _ _).length; rw [setW_len,setW_len]; exact h.env.wl,fun j x' x hx' hx=>?_⟩,h.steps,h.most,h.ifs⟩⟩
   have hx':(setW σ'.env.words i n (nthK l' 1).w)[j]?=some x':=hx'
   have hx:(setW σ.env.words i n (nthK l 1).w)[j]?=some x:=hx
   rw [setW_get] at hx' hx
   by_cases cj:j=i
   ·rw [if_pos cj,Option.map_eq_some_iff] at hx' hx
    obtain ⟨y',e',rfl⟩:=hx'
    obtain ⟨y,e,rfl⟩:=hx
    obtain ⟨a1,a2⟩:=h.env.words j y' y e' e
    refine ⟨by rw [List.length_set,List.length_set]; exact a1,fun m=>?_⟩
    rw [List.getD_eq_getElem?_getD,List.getD_eq_getElem?_getD,List.getElem?_set,List.getElem?_set]
    have hm:=a2 m
    rw [List.getD_eq_getElem?_getD,List.getD_eq_getElem?_getD] at hm
    have hw:=h1.w
    by_cases cn:n=m
    ·rw [if_pos cn,if_pos cn,a1]
     split
     ·exact hw
     ·exact Nat.le_refl _
    ·rw [if_neg cn,if_neg cn]; exact hm
   ·rw [if_neg cj] at hx' hx
    exact h.env.words j x' x hx' hx
def RelT (p:Prg) (f' f:TS→TR TS):Prop:=∀ σ' σ τ,TOk p σ'→TOk p σ→SubS p σ' σ→f σ=.ok τ→∃ τ',f' σ'=.ok τ'∧SubS p τ' τ
theorem iterT_sub {p:Prg} {f' f:Nat→TS→TR TS} {m:Nat} (hr:∀ n,n < m→RelT p (f' n) (f n)) (g':∀ n,n < m→GoodT p (f' n)) (g:∀ n,n < m→GoodT p (f n)):∀ c n,n + c ≤ m→RelT p (iterT f' c n) (iterT f c n)
 | 0,n,_=>fun σ' σ τ o' o h hs=>by rw [iterT] at hs ⊢; cases hs; exact ⟨_,rfl,h⟩
 | c + 1,n,hm=>fun σ' σ τ o' o h hs=>by
  rw [iterT] at hs ⊢
  obtain ⟨ρ,h1,h2⟩:=andT_inv hs
  obtain ⟨ρ',q1,q2⟩:=hr n (by omega) σ' σ ρ o' o h h1
  have k':=g' n (by omega) _ _ o' q1
  have k:=g n (by omega) _ _ o h1
  rw [q1,andT_ok]
  exact iterT_sub hr g' g c (n + 1) (by omega) ρ' ρ τ k'.ok k.ok q2 h2
theorem turnT_sub {p:Prg} {s:ByteArray} {fa' fa:TS→TR TS} (hr:RelT p fa' fa) {n:Nat} (hn:n < 1152921504606846976):RelT p (turnT s fa' n) (turnT s fa n):=by
 intro σ' σ τ o' o h hs
 unfold turnT at hs ⊢
 obtain ⟨ρ,h1,hs⟩:=andT_inv hs
 obtain ⟨ρ2,h2,hs⟩:=andT_inv hs
 obtain ⟨ρ',q1,q2⟩:=stepT_sub h h1
 obtain ⟨rfl,k'⟩:=stepT_ok o' q1
 obtain ⟨rfl,k⟩:=stepT_ok o h1
 have ext:∀ {σ:TS},TOk p { σ with steps:=σ.steps + 1 }→TOk p { σ with steps:=σ.steps + 1,env:={ σ.env with loops:=σ.env.loops ++ [(s,n)] } }:=fun {σ} ok=>⟨⟨ok.env.vars,fun t m hm=>by
  have hm:(t,m) ∈ σ.env.loops ++ [(s,n)]:=hm
  rcases List.mem_append.1 hm with hm | hm
  ·exact ok.env.loops t m hm
  ·rw [List.mem_singleton] at hm; cases hm; exact hn,ok.env.wlen,ok.env.words⟩,ok.steps,ok.most⟩
 obtain ⟨ρ2',r1,r2⟩:=hr _ _ ρ2 (ext k'.ok) (ext k.ok) ⟨⟨q2.env.vars,q2.env.free,by show σ'.env.loops ++ _=σ.env.loops ++ _; rw [h.env.loops],q2.env.wl,q2.env.words⟩,q2.steps,q2.most,q2.ifs⟩ h2
 rw [q1,andT_ok]
 simp only
 rw [r1,andT_ok]
 cases hs
 exact ⟨_,rfl,⟨⟨r2.env.vars,r2.env.free,h.env.loops,r2.env.wl,r2.env.words⟩,r2.steps,r2.most,r2.ifs⟩⟩
theorem forT_sub {p:Prg} {s:ByteArray} {l' l:List Kn} (hl:LeKs l' l) (kl':∀ k ∈ l',KOk k) (kl:∀ k ∈ l,KOk k) {fa' fa:TS→TR TS} (hr:RelT p fa' fa) (ga':GoodT p fa') (ga:GoodT p fa):RelT p (forT p s l' fa') (forT p s l fa):=by
 intro σ' σ τ o' o h hs
 have h0:=hl.nth 0
 have h1:=hl.nth 1
 have b1:=(nthK_ok kl 1).lt
 unfold forT at hs ⊢
 rw [takenT_sub h.env,h0.kind,h1.kind]
 split at hs
 ·cases hs
 rename_i hc
 have i0:(nthK l 0).is=true:=by
  cases q:(nthK l 0).is with
  | true=>rfl
  | false=>exact absurd (.inr (.inr (.inl q))) hc
 have i1:(nthK l 1).is=true:=by
  cases q:(nthK l 1).is with
  | true=>rfl
  | false=>exact absurd (.inr (.inr (.inr q))) hc
 obtain ⟨x0,y0⟩:=h0.is i0
 obtain ⟨x1,y1⟩:=h1.is i1
 split at hs
 ·cases hs
 rename_i ht
 rw [if_neg (by rw [x0,x1]; intro q; exact hc (by rw [i0,i1]; exact q)),if_neg ht,y0,y1]
 have sv:SubS p { σ' with env:={ σ'.env with vars:=setV σ'.env.vars s none } } { σ with env:={ σ.env with vars:=setV σ.env.vars s none } }:=by
  refine ⟨⟨fun t k w hv=>?_,fun t k w hv=>?_,h.env.loops,h.env.wl,h.env.words⟩,h.steps,h.most,h.ifs⟩
  ·have hv:setV σ.env.vars s none t=some (k,w):=hv
   show ∃ w',setV σ'.env.vars s none t=some (k,w')∧w' ≤ w
   unfold setV at hv ⊢
   split at hv
   ·cases hv
   ·rename_i c; rw [if_neg c]; exact h.env.vars t k w hv
  ·have hv:setV σ'.env.vars s none t=some (k,w):=hv
   unfold setV at hv
   split at hv
   ·cases hv
   ·exact h.env.free t k w hv
 have k0:∀ {σ:TS},TOk p σ→TOk p { σ with env:={ σ.env with vars:=setV σ.env.vars s none } }:=fun {σ} ok=>⟨ok.env.setV (fun k w h=>by cases h),ok.steps,ok.most⟩
 by_cases hle:(nthK l 0).val ≤ (nthK l 1).val
 ·exact iterT_sub (m:=(nthK l 1).val + 1) (fun n hn=>turnT_sub hr (by omega)) (fun n hn=>turnT_ok ga' (by omega)) (fun n hn=>turnT_ok ga (by omega)) _ _ (by omega) _ _ τ (k0 o') (k0 o) sv hs
 ·rw [show (nthK l 1).val + 1 - (nthK l 0).val=0 by omega,iterT] at hs ⊢
  cases hs
  exact ⟨_,rfl,sv⟩
theorem ifT_sub {p:Prg} {l' l:List Kn} (hl:LeKs l' l) {fa' fa fb' fb:TS→TR TS} (ra:RelT p fa' fa) (rb:RelT p fb' fb) (ga':GoodT p fa') (ga:GoodT p fa) (gb':GoodT p fb') (gb:GoodT p fb):RelT p (ifT l' fa' fb') (ifT l fa fb):=by
 intro σ' σ τ o' o h hs
 have h0:=hl.nth 0
 unfold ifT at hs ⊢
 rw [h0.kind]
 split at hs
 ·cases hs
 rename_i hc
 rw [if_neg hc]
 obtain ⟨σ1,h1,hs⟩:=andT_inv hs
 obtain ⟨σ2,h2,hs⟩:=andT_inv hs
 obtain ⟨σ1',q1,s1⟩:=ra { σ' with ifs:=σ'.ifs + 1 } { σ with ifs:=σ.ifs + 1 } σ1 ⟨o'.env,o'.steps,o'.most⟩ ⟨o.env,o.steps,o.most⟩ ⟨h.env,h.steps,h.most,by have:=h.ifs; show σ'.ifs + 1 ≤ σ.ifs + 1; omega⟩ h1
 have k1':=ga' { σ' with ifs:=σ'.ifs + 1 } _ ⟨o'.env,o'.steps,o'.most⟩ q1
 have k1:=ga { σ with ifs:=σ.ifs + 1 } _ ⟨o.env,o.steps,o.most⟩ h1
 obtain ⟨σ2',q2,s2⟩:=rb { σ1' with env:=σ'.env } { σ1 with env:=σ.env } σ2 ⟨o'.env,k1'.ok.steps,k1'.ok.most⟩ ⟨o.env,k1.ok.steps,k1.ok.most⟩ ⟨h.env,s1.steps,s1.most,s1.ifs⟩ h2
 have k2':=gb' { σ1' with env:=σ'.env } _ ⟨o'.env,k1'.ok.steps,k1'.ok.most⟩ q2
 have k2:=gb { σ1 with env:=σ.env } _ ⟨o.env,k1.ok.steps,k1.ok.most⟩ h2
 rw [q1,andT_ok,q2,andT_ok]
 cases hs
 refine ⟨_,rfl,⟨⟨fun t k w hv=>?_,fun t k w hv=>?_,h.env.loops,?_,fun i x' x hx' hx=>?_⟩,s2.steps,s2.most,h.ifs⟩⟩
 ·obtain ⟨⟨u,e0⟩,w1,w2,e1,e2,rfl⟩:=both_some hv
  obtain ⟨k0,w0⟩:=u
  obtain ⟨w0',f0,_⟩:=h.env.vars t _ _ e0
  obtain ⟨w1',f1,g1⟩:=s1.env.vars t _ _ e1
  obtain ⟨w2',f2,g2⟩:=s2.env.vars t _ _ e2
  exact ⟨_,both_of f0 f1 f2,by omega⟩
 ·obtain ⟨⟨u,e0⟩,_⟩:=both_some hv
  exact h.env.free t u.1 u.2 e0
 ·show (maxW _ _).length=(maxW _ _).length
  unfold maxW
  rw [List.length_zipWith,List.length_zipWith,s1.env.wl,s2.env.wl]
 ·obtain ⟨a',b',e1',e2',rfl⟩:=maxW_get hx'
  obtain ⟨a,b,e1,e2,rfl⟩:=maxW_get hx
  obtain ⟨m1,m2⟩:=s2.env.words i a' a e1' e1
  obtain ⟨n1,n2⟩:=s1.env.words i b' b e2' e2
  have hil:i < p.arrays.length:=by rw [← k2.ok.env.wlen]; exact (List.getElem?_eq_some_iff.1 e1).1
  have hd:=List.getElem?_eq_getElem hil
  have la:=(k2.ok.env.words i a _ e1 hd).1
  have lb:=(k1.ok.env.words i b _ e2 hd).1
  have hab:a.length=b.length:=by omega
  refine ⟨by rw [List.length_zipWith,List.length_zipWith,m1,n1],fun n=>?_⟩
  rw [zipmax_getD (by omega),zipmax_getD hab]
  have:=m2 n
  have:=n2 n
  omega
end Go.Ab
namespace Go.Ab
theorem drop_if {p:Prg} {l:List Kn} {fa' fa fb' fb:TS→TR TS} (ra:RelT p fa' fa) (rb:RelT p fb' fb) (ga':GoodT p fa') (ga:GoodT p fa) (gb':GoodT p fb') (gb:GoodT p fb) (b:Bool):RelT p (if b then fa' else fb') (ifT l fa fb):=by
 intro σ' σ τ o' o h hs
 unfold ifT at hs
 split at hs
 ·cases hs
 rename_i hc
 obtain ⟨σ1,h1,hs⟩:=andT_inv hs
 obtain ⟨σ2,h2,hs⟩:=andT_inv hs
 have k1:=ga { σ with ifs:=σ.ifs + 1 } _ ⟨o.env,o.steps,o.most⟩ h1
 have k2:=gb { σ1 with env:=σ.env } _ ⟨o.env,k1.ok.steps,k1.ok.most⟩ h2
 have hst1:σ.steps ≤ σ1.steps:=k1.steps
 have hst2:σ1.steps ≤ σ2.steps:=k2.steps
 have hm1:σ.most ≤ σ1.most:=k1.most
 have hm2:σ1.most ≤ σ2.most:=k2.most
 have hi1:σ1.ifs=σ.ifs + 1:=k1.ifs
 have hl1:σ1.env.loops=σ.env.loops:=k1.loops
 have hl2:σ2.env.loops=σ.env.loops:=k2.loops
 have q1:=h.steps
 have q2:=h.most
 have q3:=h.ifs
 have key:∀ (i:Nat) (a b:List Nat),σ2.env.words[i]?=some a→σ1.env.words[i]?=some b→a.length=b.length:=fun i a b ha hb=>by
  have hil:i < p.arrays.length:=by rw [← k2.ok.env.wlen]; exact (List.getElem?_eq_some_iff.1 ha).1
  have hd:=List.getElem?_eq_getElem hil
  have la:=(k2.ok.env.words i a _ ha hd).1
  have lb:=(k1.ok.env.words i b _ hb hd).1
  omega
 have wl:σ2.env.words.length=σ1.env.words.length:=k2.ok.env.wlen.trans k1.ok.env.wlen.symm
 cases hs
 cases b with
 | true =>
  obtain ⟨σ1',e1,s1⟩:=ra σ' { σ with ifs:=σ.ifs + 1 } σ1 o' ⟨o.env,o.steps,o.most⟩ ⟨h.env,q1,q2,by show σ'.ifs ≤ σ.ifs + 1; omega⟩ h1
  have k1':=ga' _ _ o' e1
  refine ⟨σ1',e1,⟨⟨fun t k w hv=>?_,s1.env.free,s1.env.loops.trans hl1,?_,fun i x' x hx' hx=>?_⟩,by have:=s1.steps; show σ1'.steps ≤ σ2.steps; omega,by have:=s1.most; show σ1'.most ≤ σ2.most; omega,by have:=k1'.ifs; show σ1'.ifs ≤ σ.ifs; omega⟩⟩
  ·obtain ⟨_,w1,w2,f1,f2,rfl⟩:=both_some hv
   obtain ⟨w1',g1,g2⟩:=s1.env.vars t _ _ f1
   exact ⟨w1',g1,by omega⟩
  ·show _=(maxW _ _).length
   unfold maxW; rw [List.length_zipWith,s1.env.wl]; omega
  ·obtain ⟨a,b,f1,f2,rfl⟩:=maxW_get hx
   obtain ⟨m1,m2⟩:=s1.env.words i x' b hx' f2
   have hab:=key i a b f1 f2
   refine ⟨by rw [List.length_zipWith]; omega,fun n=>?_⟩
   rw [zipmax_getD hab]
   have:=m2 n
   omega
 | false =>
  obtain ⟨σ2',e2,s2⟩:=rb σ' { σ1 with env:=σ.env } σ2 o' ⟨o.env,k1.ok.steps,k1.ok.most⟩ ⟨h.env,by show σ'.steps ≤ σ1.steps; omega,by show σ'.most ≤ σ1.most; omega,by show σ'.ifs ≤ σ1.ifs; omega⟩ h2
  have k2':=gb' _ _ o' e2
  refine ⟨σ2',e2,⟨⟨fun t k w hv=>?_,s2.env.free,s2.env.loops.trans hl2,?_,fun i x' x hx' hx=>?_⟩,s2.steps,s2.most,by have:=k2'.ifs; show σ2'.ifs ≤ σ.ifs; omega⟩⟩
  ·obtain ⟨_,w1,w2,f1,f2,rfl⟩:=both_some hv
   obtain ⟨w2',g1,g2⟩:=s2.env.vars t _ _ f2
   exact ⟨w2',g1,by omega⟩
  ·show _=(maxW _ _).length
   unfold maxW; rw [List.length_zipWith,s2.env.wl]; omega
  ·obtain ⟨a,b,f1,f2,rfl⟩:=maxW_get hx
   obtain ⟨m1,m2⟩:=s2.env.words i x' a hx' f1
   have hab:=key i a b f1 f2
   refine ⟨by rw [List.length_zipWith]; omega,fun n=>?_⟩
   rw [zipmax_getD hab]
   have:=m2 n
   omega
theorem drop_for {p:Prg} {s:ByteArray} {l:List Kn} {fa:TS→TR TS} (hlt:(nthK l 1).val < (nthK l 0).val):RelT p (fun σ=>.ok σ) (forT p s l fa):=by
 intro σ' σ τ o' o h hs
 unfold forT at hs
 split at hs
 ·cases hs
 split at hs
 ·cases hs
 rw [show (nthK l 1).val + 1 - (nthK l 0).val=0 by omega,iterT] at hs
 cases hs
 refine ⟨σ',rfl,⟨⟨fun t k w hv=>?_,h.env.free,h.env.loops,h.env.wl,h.env.words⟩,h.steps,h.most,h.ifs⟩⟩
 have hv:setV σ.env.vars s none t=some (k,w):=hv
 unfold setV at hv
 split at hv
 ·cases hv
 ·exact h.env.vars t k w hv
end Go.Ab
namespace Go.Ab
theorem stms_sub {p:Prg} (hp:PV p):∀ {l:List Stm} {lv:Nat},VSs l lv→(∀ x ∈ l,RelT p (stmtsT p (foldS x)) (stmtT p x))→RelT p (stmtsT p (foldSs l)) (stmtsT p l)
 | [],lv,hv,ih=>fun σ' σ τ o' o h hs=>by
  rw [stmtsT] at hs; cases hs
  exact ⟨σ',by rw [foldSs,stmtsT],h⟩
 | x :: xs,lv,hv,ih=>fun σ' σ τ o' o h hs=>by
  have hx:=VSs_all.1 hv x (by simp)
  have hxs:VSs xs lv:=VSs_all.2 fun y hy=>VSs_all.1 hv y (by simp [hy])
  rw [stmtsT] at hs
  obtain ⟨σ1,h1,h2⟩:=andT_inv hs
  obtain ⟨σ1',q1,q2⟩:=ih x (by simp) σ' σ σ1 o' o h h1
  have k':=stmtsT_ok hp (VS_fold x _ hx) _ _ o' q1
  have k:Keep p σ σ1:=stmtsT_ok hp (l:=[x]) (VSs_all.2 fun y hy=>by rw [List.mem_singleton] at hy; subst hy; exact hx) _ _ o (by rw [stmtsT_one']; exact h1)
  obtain ⟨τ',r1,r2⟩:=stms_sub hp hxs (fun y hy=>ih y (by simp [hy])) σ1' σ1 τ k'.ok k.ok q2 h2
  exact ⟨τ',by rw [foldSs,stmtsT_app,q1,andT_ok,r1],r2⟩
end Go.Ab
namespace Go.Ab
theorem nthC_map {l:List Exp} {i:Nat} (h:i < l.length):nthC (l.map constE) i=constE (nthE l i):=by
 unfold nthC nthE
 rw [List.getD_eq_getElem?_getD,List.getElem?_map,List.getD_eq_getElem?_getD,List.getElem?_eq_getElem h]; rfl
theorem forT_is {p:Prg} {s:ByteArray} {l:List Kn} {fa:TS→TR TS} {σ τ:TS} (hs:forT p s l fa σ=.ok τ):(nthK l 0).is=true∧(nthK l 1).is=true:=by
 unfold forT at hs
 split at hs
 ·cases hs
 rename_i hc
 refine ⟨?_,?_⟩
 ·cases q:(nthK l 0).is with
  | true=>rfl
  | false=>exact absurd (.inr (.inr (.inl q))) hc
 ·cases q:(nthK l 1).is with
  | true=>rfl
  | false=>exact absurd (.inr (.inr (.inr q))) hc
theorem stm_sub {p:Prg} (hp:PV p) (x:Stm):∀ lv,VS x lv→RelT p (stmtsT p (foldS x)) (stmtT p x):=by
 induction x using Stm.ind with
 | h k s e a b iha ihb =>
  intro lv hv σ' σ τ o' o h hs
  obtain ⟨v1,v2,v3,v4,v5,v6,v7,v8,v9,v10,v11⟩:=VS_mk.1 hv
  have ra:=stms_sub hp v10 fun x hx=>iha x hx _ (VSs_all.1 v10 x hx)
  have rb:=stms_sub hp v11 fun x hx=>ihb x hx _ (VSs_all.1 v11 x hx)
  have ga:=stmtsT_ok hp v10
  have gb:=stmtsT_ok hp v11
  have ga':=stmtsT_ok hp (VSs_fold v10)
  have gb':=stmtsT_ok hp (VSs_fold v11)
  rw [stmtT] at hs
  obtain ⟨σ1,h1,hs⟩:=andT_inv hs
  obtain ⟨⟨l,m⟩,h2,hs⟩:=andT_inv hs
  have sk:=h.skip h1
  obtain ⟨σ1',p1,s1⟩:=stepT_sub h h1
  obtain ⟨rfl,k1⟩:=stepT_ok o h1
  obtain ⟨rfl,k1'⟩:=stepT_ok o' p1
  have hw:∀ i:Nat,i < p.arrays.length→i < σ.env.words.length:=fun i hi=>by rw [o.env.wlen]; exact hi
  have vf:∀ y ∈ e.map foldE,VE y (lv + 1):=fun y hy=>by
   obtain ⟨z,hz,rfl⟩:=List.mem_map.1 hy
   exact VE_fold z _ (v9 z hz)
  obtain ⟨l',m',e1,e2,e3⟩:=exprsT_sub (fun x hx=>fold_typed h.env hw x _ (v9 x hx)) l m h2
  obtain ⟨kl,km,kn⟩:=exprsT_ok hp o.env v9 l m h2
  obtain ⟨kl',km',kn'⟩:=exprsT_ok hp o'.env vf l' m' e1
  have cs:=CTs_of (fun x hx=>const_typed x _ (vf x hx)) l' m' e1
  have hel:l'.length=e.length:=by rw [kn',List.length_map]
  have ek':TOk p { σ' with steps:=σ'.steps + 1,most:=max (σ'.most) m' }:=⟨k1'.ok.env,k1'.ok.steps,by have:=o'.most; show max σ'.most m' ≤ 60; omega⟩
  have ek:TOk p { σ with steps:=σ.steps + 1,most:=max (σ.most) m }:=⟨k1.ok.env,k1.ok.steps,by have:=o.most; show max σ.most m ≤ 60; omega⟩
  have sm:SubS p { σ' with steps:=σ'.steps + 1,most:=max (σ'.most) m' } { σ with steps:=σ.steps + 1,most:=max (σ.most) m }:=⟨s1.env,s1.steps,by have:=h.most; show max σ'.most m' ≤ max σ.most m; omega,s1.ifs⟩
  have sm0:SubS p σ' { σ with steps:=σ.steps + 1,most:=max (σ.most) m }:=⟨sk.env,sk.steps,by have:=h.most; show σ'.most ≤ max σ.most m; omega,sk.ifs⟩
  rw [foldS_mk]
  unfold foldStm
  split
  ·rename_i c
   obtain ⟨rfl,c2⟩:=c
   have hs:ifT l (stmtsT p a) (stmtsT p b) { σ with steps:=σ.steps + 1,most:=max (σ.most) m }=.ok τ:=hs
   have q:=drop_if ra rb ga' ga gb' gb (l:=l) (decide ((constE (nthE (e.map foldE) 0)).1=1)) σ' _ τ o' ek sm0 hs
   by_cases c1:(constE (nthE (e.map foldE) 0)).1=1
   ·rw [if_pos c1]; rw [decide_eq_true c1] at q; exact q
   ·rw [if_neg c1]; rw [decide_eq_false c1] at q; exact q
  ·rename_i c
   split
   ·rename_i d
    obtain ⟨rfl,d0,d1,d2⟩:=d
    have hs:forT p s l (stmtsT p a) { σ with steps:=σ.steps + 1,most:=max (σ.most) m }=.ok τ:=hs
    obtain ⟨i0,i1⟩:=forT_is hs
    have he:e.length=2:=v4
    obtain ⟨j0,w0⟩:=(e2.nth 0).is i0
    obtain ⟨j1,w1⟩:=(e2.nth 1).is i1
    have t0:=cs.nth 0
    have t1:=cs.nth 1
    rw [nthC_map (by rw [List.length_map]; omega)] at t0 t1
    have u0:=(t0.num d0).2.2.2 j0
    have u1:=(t1.num d1).2.2.2 j1
    obtain ⟨τ',r1,r2⟩:=drop_for (fa:=stmtsT p a) (p:=p) (s:=s) (l:=l) (by omega) σ' _ τ o' ek sm0 hs
    rw [stmtsT]
    exact ⟨τ',r1,r2⟩
   ·rename_i d
    rw [stmtsT_one',stmtT,p1,andT_ok,e1,andT_ok]
    have hs:stmt1 p k s l (stmtsT p a) (stmtsT p b) { σ with steps:=σ.steps + 1,most:=max (σ.most) m }=.ok τ:=hs
    show ∃ τ',stmt1 p k s l' (stmtsT p (foldSs a)) (stmtsT p (foldSs b)) { σ' with steps:=σ'.steps + 1,most:=max (σ'.most) m' }=.ok τ'∧SubS p τ' τ
    unfold stmt1 at hs ⊢
    split at hs
    ·rename_i d1
     rw [if_pos d1]
     exact setT_sub sm e2 hs
    rename_i d1
    rw [if_neg d1]
    split at hs
    ·rename_i d2
     rw [if_pos d2]
     exact storeT_sub sm e2 hs
    rename_i d2
    rw [if_neg d2]
    split at hs
    ·rename_i d3
     rw [if_pos d3]
     exact ifT_sub e2 ra rb ga' ga gb' gb _ _ τ ek' ek sm hs
    rename_i d3
    rw [if_neg d3]
    split at hs
    ·rename_i d4
     rw [if_pos d4]
     exact forT_sub e2 kl' kl ra ga' ga _ _ τ ek' ek sm hs
    rename_i d4
    rw [if_neg d4]
    split at hs
    ·cases hs
    rename_i d5
    cases hs
    have:=sm.ifs
    rw [if_neg (by omega)]
    exact ⟨_,rfl,sm⟩
theorem VT.fold {p:Prg} (v:VT p) (hb:p.v.bulk ≤ 20000000):VT p.fold:=⟨POk_fold v.ok v.body hb,VSs_fold v.body,v.ins,v.ars⟩
theorem SubS.refl {p:Prg} (v:VT p):SubS p (initT p) (initT p):=
 ⟨⟨fun s k w h=>⟨w,h,Nat.le_refl _⟩,fun s k w h=>(by cases h),rfl,rfl,fun i x' x h h'=>by rw [h] at h'; cases h'; exact ⟨rfl,fun n=>Nat.le_refl _⟩⟩,Nat.le_refl _,Nat.le_refl _,Nat.le_refl _⟩
theorem check_fold {p:Prg} (v:VT p) {σ:TS} (h:checkT p=.ok σ):∃ σ',checkT p.fold=.ok σ'∧σ'.most ≤ σ.most:=by
 obtain ⟨hu,hs⟩:=check_inv h
 have hp:=PV_of v hu
 have T:=TOk_init v.ins v.ars
 obtain ⟨τ,h1,h2⟩:=stms_sub hp v.body (fun x hx=>stm_sub hp x _ (VSs_all.1 v.body x hx)) (initT p) (initT p) σ T T (SubS.refl v) hs
 refine ⟨τ,?_,h2.most⟩
 unfold checkT
 rw [show unlikeT p.fold=unlikeT p from rfl,hu,if_pos rfl,stmtsT_body (p:=p) (p':=p.fold) rfl rfl]
 exact h1
end Go.Ab
namespace Go.Ab
theorem runs_body_of {p p':Prg}:∀ {l:List Stm},(∀ x ∈ l,runX p' x=runX p x)→runsX p' l=runsX p l
 | [],_=>by funext s; rw [runsX,runsX]
 | x :: xs,h=>by
  funext s
  rw [runsX,runsX,h x (by simp),runs_body_of fun y hy=>h y (by simp [hy])]
theorem val_body {p p':Prg} (ha:p'.arrays=p.arrays) {s:RS} (e:Exp):valX p' s e=valX p s e:=by
 induction e using Exp.ind with
 | h k o n x ks ih =>
  rw [valX_mk,valX_mk,List.map_congr_left ih]
  unfold valOf rdX arOf
  rw [ha]
theorem run_body {p p':Prg} (ha:p'.arrays=p.arrays) (x:Stm):runX p' x=runX p x:=by
 induction x using Stm.ind with
 | h k y e a b iha ihb =>
  funext s
  rw [runX_mk,runX_mk,runs_body_of iha,runs_body_of ihb,List.map_congr_left fun x _=>val_body ha x]
  unfold run1 arOf
  rw [ha]
theorem runs_body {p p':Prg} (ha:p'.arrays=p.arrays) (l:List Stm):runsX p' l=runsX p l:=runs_body_of fun x _=>run_body ha x
theorem res_fold {p:Prg} (v:VT p) {ls:List (List Nat)} (h:errI p ls=0):errI p.fold ls=0∧resX p.fold ls=resX p ls:=by
 unfold errI at h
 by_cases c:errT (checkT p)=0
 rotate_left
 ·rw [if_pos c] at h; exact absurd h c
 rw [if_neg (by simp [c])] at h
 have hf:fitB p ls=true:=by
  cases q:fitB p ls with
  | true=>rfl
  | false=>rw [q] at h; exact absurd h (by decide)
 obtain ⟨σ,hσ⟩:=errT_ok c checkT_nz
 obtain ⟨τ,hτ,_⟩:=check_fold v hσ
 obtain ⟨hu,hs⟩:=check_inv hσ
 have hp:=PV_of v hu
 have h1:errI p.fold ls=0:=by
  unfold errI
  rw [hτ,if_neg (by simp [errT]),show fitB p.fold ls=fitB p ls from rfl,if_pos hf]
 have h0:errI p ls=0:=by
  unfold errI
  rw [if_neg (by simp [c]),if_pos hf]
 refine ⟨h1,?_⟩
 unfold resX
 rw [if_pos h1,if_pos h0]
 unfold outX
 rw [runs_body (p:=p) (p':=p.fold) rfl]
 exact (stmts_fold hp v.body (initT p) σ (startX p.fold ls) (startX p ls) (TOk_init v.ins v.ars) (ag_start hp hf) EqS.refl hs).told
end Go.Ab
namespace Go.Ab.YtemlhjlceeiflaaDoor
section
variable {h:H} {K:Out→H→Prop}
theorem same05W {a b:List Nat} {av bv:V} (ha:WordsAt h av a) (hb:WordsAt h bv b) (hl:a.length ≤ 20000) (hK:K (.ret (.bool (decide (a=b)))) h):R 12 [av,bv] h K:=by
 obtain ⟨p1,p2,p3,p4⟩:=ha.out
 obtain ⟨o1,o2,o3,o4⟩:=hb.out
 refine run12 (Nat.le_of_ble_eq_true rfl) ?_
 by_cases hlen:(a.length:Int)=b.length
 ·simp -dsimp -implicitDefEqProofs only [↓STP,STQ,seval,ir12,p4,o4,hlen]
  have hlen':a.length=b.length:=by omega
  refine codeT_for (N:=a.length) (fun i=>⟨upd (upd (upd ρ0 0 av) 1 bv) 5 (I i),m0,0,[],h⟩) (fun i=>a.take i=b.take i) (by simp -dsimp -implicitDefEqProofs only [↓STP,STQ,seval,p3,o3] <;> rfl) rfl (fun i hlt htk=>?_) (fun htk=>?_) mono
  ·obtain ⟨ptr1,r1,r2⟩:=ha.idx hlt
   obtain ⟨ptr,q1,q2⟩:=hb.idx (i:=i) (by omega)
   by_cases he:(a[i]:Int)=((b[i]'(by omega):Nat):Int)
   ·simp -dsimp -implicitDefEqProofs only [↓STP,STQ,seval,p4,o4,Int.ofNat_lt,hlt,r1,r2,q1,q2,he,wi (show i < 9000000000000000000 by omega),p3,o3]
    rw [List.take_add_one,List.take_add_one,htk,List.getElem?_eq_getElem hlt,List.getElem?_eq_getElem (by omega)]
    have:a[i]=b[i]'(by omega):=by omega
    rw [this]
   ·simp -dsimp -implicitDefEqProofs only [↓STP,STQ,seval,p4,o4,Int.ofNat_lt,hlt,r1,r2,q1,q2,he]
    have:a ≠ b:=fun h=>he (by subst h; rfl)
    rw [decide_eq_false this] at hK
    exact hK
  ·simp -dsimp -implicitDefEqProofs only [↓STP,STQ,seval,p4,o4,Int.lt_irrefl]
   have:a=b:=by
    have e1:a.take a.length=a:=List.take_of_length_le (by omega)
    have e2:b.take a.length=b:=List.take_of_length_le (by omega)
    rw [← e1,← e2,htk]
   rw [decide_eq_true this] at hK
   exact hK
 ·simp -dsimp -implicitDefEqProofs only [↓STP,STQ,seval,ir12,p4,o4,hlen]
  have:a ≠ b:=fun h=>hlen (by subst h; rfl)
  rw [decide_eq_false this] at hK
  exact hK
end
end Go.Ab.YtemlhjlceeiflaaDoor
namespace Go.Ab
theorem WordsAt.shape {h:H} {v:V} {ws:List Nat} (a:WordsAt h v ws):v=.vec (Ws ws) .any∨∃ id,v=.ref id 0 ws.length 1:=by
 rcases a with a | ⟨id,_,b,_⟩
 ·exact .inl a
 ·exact .inr ⟨id,b⟩
theorem res_few {p:Prg} (v:VT p) {ls:List (List Nat)}:(resX p ls).length ≤ 20000:=by
 unfold resX
 split
 ·rename_i h
  unfold errI at h
  by_cases c:errT (checkT p)=0
  rotate_left
  ·rw [if_pos c] at h; exact absurd h c
  rw [if_neg (by simp [c])] at h
  have hf:fitB p ls=true:=by
   cases q:fitB p ls with
   | true=>rfl
   | false=>rw [q] at h; exact absurd h (by decide)
  obtain ⟨σ,hσ⟩:=errT_ok c checkT_nz
  obtain ⟨hu,hs⟩:=check_inv hσ
  have hp:=PV_of v hu
  have T:=TOk_init v.ins v.ars
  have a:=stmts_run hp v.body (initT p) σ (startX p ls) T (ag_start hp hf) hs
  have k:=stmtsT_ok hp v.body (initT p) σ T hs
  have h1:=a.few
  have h2:=k.ok.steps
  show (runsX p p.body (startX p ls)).told.length ≤ 20000
  omega
 ·exact Nat.zero_le _
namespace YtemlhjlceeiflaaDoor
theorem meaning31 {p:Prg} {ls:List (List Nat)} {K:Out→H→Prop} (ok:POk p) (hb:p.v.bulk ≤ 1048576) (hl:ls.length ≤ maxLen) (hw:WordsOk ls) (hK:∀ h',K (.ret (.bool true)) h'):R 4 [p.v,LV ls] h0 K:=by
 refine run4 (Nat.le_of_ble_eq_true rfl) ?_
 have hv0:p.v=V.agg [.vec (p.ins.map InD.v) .any,.vec (p.arrays.map ArD.v) .any,.vec (p.body.map Stm.v) .any]:=rfl
 have hv1:p.fold.v=V.agg [.vec (p.ins.map InD.v) .any,.vec (p.arrays.map ArD.v) .any,.vec ((foldSs p.body).map Stm.v) .any]:=rfl
 have hL:LV ls=.vec (ls.map fun l=>.vec (Ws l) .any) .any:=rfl
 simp -dsimp -implicitDefEqProofs only [↓STP,STQ,seval,ir4,hv0,hL]
 refine awake31 fun h=>?_
 simp -dsimp -implicitDefEqProofs only [↓STP,STQ,seval]
 rw [← hv0]
 refine few_spec ok (by omega) fun b hvp=>?_
 cases b with
 | false =>
  simp -dsimp -implicitDefEqProofs only [↓STP,STQ,seval]
  exact hK _
 | true =>
 simp -dsimp -implicitDefEqProofs only [↓STP,STQ,seval,hv0]
 rw [← hv0,← hL]
 refine few30 ok (by omega) hl hw fun b hvl=>?_
 cases b with
 | false =>
  simp -dsimp -implicitDefEqProofs only [↓STP,STQ,seval]
  exact hK _
 | true =>
 have v:=(hvp rfl).vt ok
 obtain ⟨_,l20,l200⟩:=hvl rfl
 have lok:LsOk ls:=⟨by omega,fun l hl=>⟨by have:=l200 l hl; omega,hw l hl⟩⟩
 simp -dsimp -implicitDefEqProofs only [↓STP,STQ,seval,hv0,hL]
 rw [← hv0,← hL]
 refine runI v lok fun h1 r1 u1 w1=>?_
 by_cases e:errI p ls=0
 rotate_left
 ·simp -dsimp -implicitDefEqProofs only [↓STP,STQ,seval,eq_false e]
  exact hK _
 obtain ⟨e2,er⟩:=res_fold v e
 rcases w1.shape with rfl | ⟨id1,rfl⟩
 ·simp -dsimp -implicitDefEqProofs only [↓STP,STQ,seval,eq_true e,hv0]
  rw [← hv0]
  refine foldG ok v.body (by omega) ?_
  simp -dsimp -implicitDefEqProofs only [↓STP,STQ,seval,hv1,hL]
  rw [← hv1,← hL]
  refine runI (v.fold (by omega)) lok fun h2 r2 u2 w2=>?_
  rcases w2.shape with rfl | ⟨id2,rfl⟩
  ·simp -dsimp -implicitDefEqProofs only [↓STP,STQ,seval,eq_true e2]
   refine same05W (w1.frame u2.nx u2.old) w2 (res_few v) ?_
   rw [decide_eq_true er.symm]
   simp -dsimp -implicitDefEqProofs only [↓STP,STQ,seval]
   exact hK _
  ·simp -dsimp -implicitDefEqProofs only [↓STP,STQ,seval,eq_true e2]
   refine same05W (w1.frame u2.nx u2.old) w2 (res_few v) ?_
   rw [decide_eq_true er.symm]
   simp -dsimp -implicitDefEqProofs only [↓STP,STQ,seval]
   exact hK _
 ·simp -dsimp -implicitDefEqProofs only [↓STP,STQ,seval,eq_true e,hv0]
  rw [← hv0]
  refine foldG ok v.body (by omega) ?_
  simp -dsimp -implicitDefEqProofs only [↓STP,STQ,seval,hv1,hL]
  rw [← hv1,← hL]
  refine runI (v.fold (by omega)) lok fun h2 r2 u2 w2=>?_
  rcases w2.shape with rfl | ⟨id2,rfl⟩
  ·simp -dsimp -implicitDefEqProofs only [↓STP,STQ,seval,eq_true e2]
   refine same05W (w1.frame u2.nx u2.old) w2 (res_few v) ?_
   rw [decide_eq_true er.symm]
   simp -dsimp -implicitDefEqProofs only [↓STP,STQ,seval]
   exact hK _
  ·simp -dsimp -implicitDefEqProofs only [↓STP,STQ,seval,eq_true e2]
   refine same05W (w1.frame u2.nx u2.old) w2 (res_few v) ?_
   rw [decide_eq_true er.symm]
   simp -dsimp -implicitDefEqProofs only [↓STP,STQ,seval]
   exact hK _
end YtemlhjlceeiflaaDoor
end Go.Ab
namespace Go.Ab
open Go.RowKit Go.ChangeShapes
section
variable {H':Type} {enc:TypeId × Value→H'} {P:Program} {W:World} {ts:List TypeId}
theorem law_callsG {G:List (Nat × List V)} {E:Env} (hcall:∀ n,CallOK P G (call E n)) (hwr:WR (k0 W) h0 W G) {f:FuncId} {vals:Array Value} {vs:List V} (hargs:ArgsOK (k0 W) W vs vals) (hr:Runs E f vs h0 (fun o _=>o=.ret (.bool true))) :
  Calls P f vals W fun e W'=>e=.returned (.bool true)∧Below W.heap.size W W':=by
 obtain ⟨n,hn⟩:=hr
 refine ((hcall n _ _ _ _ hn).2 (k0 W) W vals hwr hargs).mono fun e W' h=>?_
 obtain ⟨o,h',rfl,k',hwr,hold,x,b,fb,rfl,_,hx⟩:=h
 have hx':VR k' W' (.bool true) x:=hx
 cases hx'
 exact ⟨rfl,hold.misc.2.1,hold.misc.1,hold.misc.2.2,hold.keeps.size,fun b hb=>hold.same b hb (fun id o ho=>by simp [h0] at ho)⟩
theorem law_contractG {B:DataW H'→Nat} (hB:BulkOK B) {N:Nat} {G:List (Nat × List V)} {E:Env} (hcall:∀ n,CallOK P G (call E n)) (hwr:WR (k0 W) h0 W G) {f:FuncId} {fn:Func} {s:ChangeSpec} {apart fresh handsOn:Bool} {base:Nat} {args:Array Value} {ds gs:List (DataW H')} {before:List MemPlace} {tb:TypeId}
  (hl:laidOutB P=true) (hc:closedT P ts=true) (hts:(fn.params.toList.all fun t=>ts.contains t && P.readableRec t && decide (t < P.types.size))=true) (hres:fn.resultTypes=#[tb]) (htb:P.underlying tb=some .bool)
  (hvars:s.vars=[]) (hfn:∀ ds:List (DataW H'),ds.length=fn.params.toList.length→s.fn H' ds={ results:=[.lit (.bool true)],args:=ds })
  (hval:∀ (j:Nat) t v,fn.params[j]?=some t→args[j]?=some v→Value.okWide P W .any base t v)
  (hW:DataW.Whole enc P fn.params.toList s.vars apart W args.toList ds gs before)
  (hbulk:(ds.map B).sum ≤ N)
  (hrun:∀ vs,TyArgs P fn.params.toList vs→V.bulks vs ≤ N→Runs E f vs h0 (fun o _=>o=.ret (.bool true))) :
  Calls P f args W fun e W'=>∃ v,e=.returned v∧s.post enc P fn apart fresh handsOn false W args v W':=by
 have hW0:=hW
 obtain ⟨p,q,hA,hV,rfl,_,_⟩:=hW
 rw [List.all_eq_true] at hts
 have hts':∀ t ∈ fn.params.toList,ts.contains t=true∧P.readableRec t=true∧t < P.types.size:=fun t ht=>by
  have:=hts t ht
  simp only [Bool.and_eq_true,decide_eq_true_eq] at this
  exact ⟨this.1.1,this.1.2,this.2⟩
 rw [hvars] at hV
 obtain ⟨rfl,rfl⟩:gs=[]∧q=[]:=by
  cases gs with
  | nil=>exact ⟨rfl,hV⟩
  | cons=>exact hV.elim
 obtain ⟨us,u1,u2,u3,u4⟩:=args_VB hB (b0:=base) hc (fun t ht=>(hts' t ht).1) hA (fun j t v h1 h2=>hval j t v (by simpa using h1) (by simpa using h2))
 refine (law_callsG hcall hwr (vs:=us) ⟨by simpa using u1.symm,fun j u hj=>?_⟩ (hrun us u3 (Nat.le_trans u4 hbulk))).mono fun e W' h=>?_
 ·obtain ⟨x,a,b⟩:=u2 j u hj
  exact ⟨x,by simpa using a,b⟩
 obtain ⟨rfl,hb⟩:=h
 have hfn:=hfn ds (trodAll_len hA)
 refine ⟨_,rfl,ds,[],p ++ [],[],p,[],hW0,?_,?_,?_,hb.frame _,fun h=>by cases h⟩
 ·rw [List.append_nil,hfn,hres]
  exact trodAll_mk1 (shut_bool htb true)
 ·rw [List.append_nil,hfn]
  exact trodAll_below hl hb (fun t ht=>(hts' t ht).2) hA
 ·rw [List.append_nil,hfn,hvars]; rfl
def litX:V→Value
 | .int k n=>.int k n
 | .bool b=>.bool b
 | _=>.nilFunc
theorem glob_vr {g:Nat} {vs:List V} (hp:∀ v ∈ vs,(∃ k n,v=.int k n)∨∃ b,v=.bool b) (hc:∀ (j:Nat) (v:V),vs[j]?=some v→W.cell? ⟨g,j,none⟩=some (litX v)):VR (k0 W) W (.iptr vs) (.pointer (some ⟨g,0,none⟩)):=by
 refine .iptr vs ⟨g,0,none⟩ (fun j=>litX (vs.getD j .undef)) rfl (fun j v hj=>?_) (fun j v hj=>?_)
 ·have e:vs.getD j .undef=v:=by rw [List.getD_eq_getElem?_getD,hj]; rfl
  have h1:=hc j v hj
  have ha:(⟨g,0,none⟩:Addr).add j=⟨g,j,none⟩:=by simp [Addr.add]; try omega
  rw [ha]
  simp only [e]
  refine ⟨h1,cell_lim h1,?_⟩
  rcases hp v (List.mem_of_getElem? hj) with ⟨k,n,rfl⟩ | ⟨b,rfl⟩ <;> rfl
 ·have e:vs.getD j .undef=v:=by rw [List.getD_eq_getElem?_getD,hj]; rfl
  simp only [e]
  rcases hp v (List.mem_of_getElem? hj) with ⟨k,n,rfl⟩ | ⟨b,rfl⟩
  ·exact .int k n
  ·exact .bool b
theorem wrG {G:List (Nat × List V)} (h:∀ g cells,(g,cells) ∈ G→VR (k0 W) W (.iptr cells) (.pointer (some ⟨g,0,none⟩))):WR (k0 W) h0 W G:=⟨rfl,fun id o h=>by simp [h0] at h,fun id id' o o' h=>by simp [h0] at h,h⟩
end
end Go.Ab
