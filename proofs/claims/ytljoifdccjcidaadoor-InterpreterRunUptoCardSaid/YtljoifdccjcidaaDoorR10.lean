/- Part of a proof: The reference interpreter: Run. -/
import Derived.Test.YtljoifdccjcidaaDoorR9
import Derived.Test.YtljoifdccjcidaaDoorR8
import Derived.Lib.LaidTab
set_option linter.unusedVariables false
set_option linter.unusedSimpArgs false
namespace Go.Ab
namespace YtljoifdccjcidaaDoor
section
variable {h:H} {K:Out→H→Prop} {p:Prg}
theorem check30 (v:VT p) (li:p.ins.length ≤ 1000) (la:p.arrays.length ≤ 1000) {ls:List (List Nat)} (ok:LsOk ls) (hK:∀ h',UpH h h'→K (.ret (I (errI p ls))) h'):R 31 [p.v,LV ls] h K:=by
 refine run31 (Nat.le_of_ble_eq_true rfl) ?_
 have hv0:p.v=V.agg [.vec (p.ins.map InD.v) .any,.vec (p.arrays.map ArD.v) .any,.vec (p.body.map Stm.v) .any]:=rfl
 have hL:LV ls=.vec (ls.map fun l=>.vec (Ws l) .any) .any:=rfl
 unfold errI at hK
 simp -dsimp -implicitDefEqProofs only [↓STP,STQ,seval,ir31,hv0,hL]
 rw [← hv0]
 refine checkR v li la fun h1 u1=>?_
 by_cases c:errT (Zbk p)=0
 rotate_left
 ·rw [if_pos c] at hK
  simp -dsimp -implicitDefEqProofs only [↓STP,STQ,seval,eq_false c]
  exact hK h1 u1
 rw [if_neg (by simp [c])] at hK
 simp -dsimp -implicitDefEqProofs only [↓STP,STQ,seval,eq_true c,hv0,hL]
 rw [← hv0,← hL]
 refine fit30 v ok fun h2 u2=>?_
 cases f:fitB p ls with
 | true =>
  rw [f] at hK
  simp -dsimp -implicitDefEqProofs only [↓STP,STQ,seval]
  exact hK h2 (u1.trans u2)
 | false =>
  rw [f] at hK
  simp -dsimp -implicitDefEqProofs only [↓STP,STQ,seval]
  exact hK h2 (u1.trans u2)
theorem runR (v:VT p) (li:p.ins.length ≤ 1000) (la:p.arrays.length ≤ 1000) {ls:List (List Nat)} (ok:LsOk ls) (hK:∀ h' r,UpH h h'→WordsAt h' r (resX p ls)→K (.ret (.tuple [r,I (errI p ls)])) h'):R 14 [p.v,LV ls] h K:=by
 refine run14 (Nat.le_of_ble_eq_true rfl) ?_
 have hv0:p.v=V.agg [.vec (p.ins.map InD.v) .any,.vec (p.arrays.map ArD.v) .any,.vec (p.body.map Stm.v) .any]:=rfl
 have hL:LV ls=.vec (ls.map fun l=>.vec (Ws l) .any) .any:=rfl
 have hlen:=ok.len
 simp -dsimp -implicitDefEqProofs only [↓STP,STQ,seval,ir14,hv0,hL]
 rw [← hv0,← hL]
 refine check30 v li la ok fun h1 u1=>?_
 by_cases c:errI p ls=0
 rotate_left
 ·have:resX p ls=[]:=if_neg c
  rw [this] at hK
  simp -dsimp -implicitDefEqProofs only [↓STP,STQ,seval,eq_false c]
  exact hK h1 _ u1 (.inl rfl)
 have hres:resX p ls=outX p ls:=if_pos c
 rw [hres,c] at hK
 have hc:errT (Zbk p)=0:=by
  unfold errI at c
  by_cases q:errT (Zbk p)=0
  ·exact q
  ·rw [if_pos q] at c; exact c
 have hf:fitB p ls=true:=by
  unfold errI at c
  rw [if_neg (by simp [hc])] at c
  cases q:fitB p ls with
  | true=>rfl
  | false=>rw [q] at c; exact absurd c (by decide)
 obtain ⟨σ,hσ⟩:=errT_ok hc Zfy
 obtain ⟨hu,hs⟩:=Zk3 hσ
 have hp:=PV_of v hu
 obtain ⟨aE,haE⟩:=Zkp hf
 simp -dsimp -implicitDefEqProofs only [↓STP,STQ,seval,eq_true c,hv0,hL,List.length_map,Zig (n:=ls.length) (sz:=1) (bytes:=8) (by omega) (by decide) (by decide),Zgc,Zag]
 have hnd:((insD p.ins ls (atI0 ls)).map fun r=>r.1.name).Nodup:=by rw [Zci]; exact (List.nodup_append.1 hp.nm).1
 have haE:fitG p.ins ls (List.replicate ls.length 0)=some aE:=haE
 have B0:Bw h1.next h1 [] (List.replicate ls.length 0) ⟨h1.next,none,none,none,none,none,[],[]⟩ _:=Bw.zero
 refine Zal (fun c s'=>∃ j a h' acc L,j ≤ p.ins.length∧c=p.ins.length - j∧a.length=ls.length∧fitG (p.ins.drop j) ls a=some aE∧insD p.ins ls (atI0 ls)=acc ++ insD (p.ins.drop j) ls a∧Bw h1.next h1 (arrL acc) a L h'∧L.es=Zca acc∧L.x=h1.next ∧
  s'=⟨upd (upd (upd (upd (upd ρ0 1 (LV ls)) 2 (.lptr 0 3 0)) 7 (.ptr h1.next 0)) 8 (.ref (h1.next + 1) 0 ls.length 1)) 9 (I j),upd m0 0 (some [.vec (p.ins.map InD.v) .any,.vec (p.arrays.map ArD.v) .any,.vec (p.body.map Stm.v) .any]),1,[],h'⟩)
  (i:=p.ins.length) ⟨0,List.replicate ls.length 0,_,[],_,Nat.zero_le _,rfl,by simp,haE,rfl,B0,rfl,rfl,by simp -dsimp -implicitDefEqProofs only [↓STP,STQ,seval,LV] <;> rfl⟩ ?_ mono
 rintro cc s' ⟨j,a,h',acc,L,hj,rfl,hal,hr,hin,B,hes,hx,rfl⟩
 rcases Nat.lt_or_ge j p.ins.length with hi | hi
 ·have hget:=Za6 (f:=InD.v) hi
  have hdm:p.ins[j] ∈ p.ins:=List.getElem_mem hi
  have hdi:=v.ins _ hdm
  have w1:=wiM (show j < 9223372036854775807 by omega)
  have hdr:p.ins.drop j=p.ins[j] :: p.ins.drop (j + 1):=List.drop_eq_getElem_cons hi
  have hacc:acc.length ≤ p.ins.length:=by
   have:=congrArg List.length hin
   rw [List.length_append] at this
   have e2:=congrArg List.length (Zjh (l:=p.ins) (ls:=ls) (a:=atI0 ls))
   rw [List.length_map] at e2
   omega
  rw [hdr] at hr hin
  rw [fitG] at hr
  rw [insD] at hin
  generalize p.ins[j]=d at *
  split at hr
  rotate_left
  ·cases hr
  rename_i hok
  obtain ⟨hf,hkN,hwid⟩:=hok
  have hname:d.name ∉ acc.map fun r=>r.1.name:=by
   rw [hin,List.map_append,List.map_cons] at hnd
   exact fun hh=>(List.nodup_append.1 hnd).2.2 _ hh _ List.mem_cons_self rfl
  have hin2:insD p.ins ls (atI0 ls)=(acc ++ [(d,Zgw ls a d)]) ++ insD (p.ins.drop (j + 1)) ls (Zht a d):=by rw [hin,List.append_assoc]; rfl
  have hf1:=hdi.f1
  have hf2:=hdi.f2
  have efr:((frmD d:Nat):Int)=d.frm - 1:=by unfold frmD; omega
  have hfI:IntKind.i64.wrap (d.frm - 1)=((frmD d:Nat):Int):=by
   rw [efr,wrap_i64] <;> omega
  have hsz:Zbr d ≤ 64:=by have:=hdi.s2; unfold Zbr; omega
  have hs1:=hdi.s1
  have hs2:=hdi.s2
  have gl:=Zlc hf
  obtain ⟨okl,okw⟩:=ok.get (frmD d)
  have gt:=Zai B.t
  have hfa:frmD d < a.length:=by omega
  have ga:=Zef hfa
  have hfI':((frmD d:Nat):Int) < ((ls.length:Nat):Int):=by omega
  have wN:IntKind.i64.wrap (((a.getD (frmD d) 0:Nat):Int) + ((Zbr d:Nat):Int))=((a.getD (frmD d) 0 + Zbr d:Nat):Int):=by rw [wrap_i64] <;> omega
  have sd:=slc_part (xs:=Ws (ls.getD (frmD d) [])) (c:=.any) (i:=a.getD (frmD d) 0) (j:=a.getD (frmD d) 0 + Zbr d) (sz:=1) (k:=.i64) (k':=.i64) (Nat.le_add_right _ _) (by rw [Za7]; omega) Ws_cells (by simp)
  rw [Ws_take,Ws_drop,List.drop_take,Nat.add_sub_cancel_left] at sd
  have stw:=fun ρ m n' u=>Zbv (ρ:=ρ) (m:=m) (n:=n') (u:=u) (j:=frmD d) (v:=I ((a.getD (frmD d) 0 + Zbr d:Nat):Int)) gt (by rw [Zby]; omega) rfl rfl
  rw [Zhv] at stw
  have B2:=B.step (a':=Zht a d)
  unfold Zht at B2 hr hin2
  have hal2:(a.set (frmD d) (a.getD (frmD d) 0 + Zbr d)).length=ls.length:=by rw [List.length_set]; exact hal
  simp -dsimp -implicitDefEqProofs only [↓STP,STQ,seval,Int.ofNat_lt,hi,hget,Zam,Zae,LV,gl,hfI,List.length_map,eq_true hfI',Nat.mul_one,gt,ga]
  rw [← Zam]
  refine words30 hs1 ?_
  simp -dsimp -implicitDefEqProofs only [↓STP,STQ,seval,Zam,LV,gl,hfI,List.length_map,eq_true hfI',Nat.mul_one,gt,ga,wN,sd]
  rw [← Zam]
  refine words30 hs1 ?_
  simp -dsimp -implicitDefEqProofs only [↓STP,STQ,seval,Zam,LV,gl,hfI,List.length_map,eq_true hfI',Nat.mul_one,gt,ga,wN,stw]
  unfold Zgw at hin2 hwid
  generalize frmD d=f at *
  generalize hld:ls.getD f []=l at *
  generalize hkd:a.getD f 0=k0 at *
  generalize hN:Zbr d=N at *
  generalize hhs:h'.set (h1.next + 1) (.cells (Zau (a.set f (k0 + N))))=h2 at *
  have hN1:1 ≤ N:=by rw [← hN]; unfold Zbr; omega
  have hwl:((l.drop k0).take N).length=N:=by rw [List.length_take,List.length_drop]; omega
  by_cases hz:d.size=0
  ·have hz0:¬ (0:Int) < d.size:=by omega
   have hg0:(Ws ((l.drop k0).take N))[0]?=some (W (((l.drop k0).take N).getD 0 0)):=by
    rw [Zmn,List.getD_eq_getElem?_getD,List.getElem?_eq_getElem (by omega)]; rfl
   have hsl:L.es.length < 1000000:=by
    have:=congrArg List.length (rfl:(Zca acc).map (·.1)=_)
    have h9:=(scalL_keys (l:=acc)).length_le
    rw [List.length_map,List.length_map] at h9
    rw [hes]; omega
   have e1:Zca (acc ++ [(d,(l.drop k0).take N)])=Zca acc ++ [(d.name,((l.drop k0).take N).getD 0 0)]:=by rw [Zea]; simp only [Zca]; rw [if_pos hz]
   have e2:arrL (acc ++ [(d,(l.drop k0).take N)])=arrL acc:=by rw [Zgm]; simp only [arrL]; rw [if_pos hz,List.append_nil]
   simp -dsimp -implicitDefEqProofs only [↓STP,STQ,seval,eq_false hz0,hg0]
   rw [← hx]
   refine set30 B2.A hsl fun L2 h3 A2 F2 ⟨e3,kws⟩=>?_
   have hse:L2.es=Zca (acc ++ [(d,(l.drop k0).take N)]):=by rw [e3,e1,hes,Zcm (fun hh=>hname (scalL_keys.subset hh))]
   have A3:AtR (pV (arrL acc)) L2 (sV L2.es (arrL acc)) h3:=by
    rw [e3,← sV_set]; exact A2
   have B3:=B2.fr A3 F2 (by rw [kws]; exact B2.keys)
   simp -dsimp -implicitDefEqProofs only [↓STP,STQ,seval,w1]
   rw [hx]
   exact ⟨p.ins.length - (j + 1),by omega,j + 1,_,_,acc ++ [(d,(l.drop k0).take N)],L2,hi,rfl,hal2,hr,hin2,by rw [e2]; exact B3,hse,by rw [F2.x,hx],rfl⟩
  ·have hz0:(0:Int) < d.size:=by omega
   have hyn:d.name ∉ (arrL acc).map (·.1):=fun hh=>hname (arrL_keys.subset hh)
   have hwl2:L.ws.length < 1000000:=by
    have h9:=(arrL_keys (l:=acc)).length_le
    rw [← B2.keys,List.length_map,List.length_map] at h9
    omega
   obtain ⟨h3,h4,a1,a2,a3,g1,g2,g3,B3⟩:=B2.names (y:=d.name) (l:=(l.drop k0).take N) hyn hwl2
   have gx:=Zai B2.A.st.x
   rw [hx] at gx g1 g2 g3 B3
   unfold Rk.cs at gx g1 g2 g3
   have gx:h2.get h1.next=some [slV L.n L.es.length,slV L.v L.es.length,slV L.a L.ws.length,slV L.w L.ws.length,slV L.t 0]:=gx
   have ap:∀ (st:S) (q:Nat) (c:Cap),st.h=h3→appV st q (.vec [] .full) (.vec (Ws ((l.drop k0).take N)) c) 1 8 false true=some (.ref (h2.next + 1) 0 N 1,st.withH (h3.new (.cells (Ws ((l.drop k0).take N))))):=fun st q c hs=>by
    rw [app_newWs (by omega) (by omega),hs,a2,hwl]
   rw [hwl] at a3 B3
   have st3:∀ ρ m n' u,Zae ⟨ρ,m,n',u,h4⟩ (.ptr h1.next 2) (.ref h2.next 0 (L.ws.length + 1) 1) 1=some ⟨ρ,m,n',u,h4.set h1.next (.cells [slV L.n L.es.length,slV L.v L.es.length,.ref h2.next 0 (L.ws.length + 1) 1,slV L.w L.ws.length,slV L.t 0])⟩:=fun ρ m n' u=>Zbv (j:=2) g3 (show 2 < 5 by decide) rfl rfl
   have st4:∀ ρ m n' u,Zae ⟨ρ,m,n',u,h4.set h1.next (.cells [slV L.n L.es.length,slV L.v L.es.length,.ref h2.next 0 (L.ws.length + 1) 1,slV L.w L.ws.length,slV L.t 0])⟩ (.ptr h1.next 3) (.ref (h2.next + 2) 0 (L.ws.length + 1) 1) 1=some ⟨ρ,m,n',u,h4.set h1.next (.cells [slV L.n L.es.length,slV L.v L.es.length,.ref h2.next 0 (L.ws.length + 1) 1,.ref (h2.next + 2) 0 (L.ws.length + 1) 1,slV L.t 0])⟩:=fun ρ m n' u=>Zeu (j:=3) (cs:=[slV L.n L.es.length,slV L.v L.es.length,.ref h2.next 0 (L.ws.length + 1) 1,slV L.w L.ws.length,slV L.t 0]) (show 3 < 5 by decide) rfl rfl
   have e1:Zca (acc ++ [(d,(l.drop k0).take N)])=Zca acc:=by rw [Zea]; simp only [Zca]; rw [if_neg hz,List.append_nil]
   have e2:arrL (acc ++ [(d,(l.drop k0).take N)])=arrL acc ++ [(d.name,(l.drop k0).take N)]:=by rw [Zgm]; simp only [arrL]; rw [if_neg hz]
   simp -dsimp -implicitDefEqProofs only [↓STP,STQ,seval,eq_true hz0,gx,a1,g1,ap,g2,a3,g3,st3,st4,w1]
   exact ⟨p.ins.length - (j + 1),by omega,j + 1,_,_,acc ++ [(d,(l.drop k0).take N)],L.more h2.next (h2.next + 2) (h2.next + 1) d.name N,hi,rfl,hal2,hr,hin2,by rw [e2]; exact B3,by rw [e1]; exact hes,hx,rfl⟩
 ·have hj':j=p.ins.length:=by omega
  subst hj'
  rw [List.drop_length,insD,List.append_nil] at hin
  rw [← hin] at B hes
  simp -dsimp -implicitDefEqProofs only [↓STP,STQ,seval,Int.lt_irrefl,List.length_map]
  generalize hwd:arrL (insD p.ins ls (atI0 ls))=wd0 at *
  have hwl0:wd0.length ≤ p.ins.length:=by
   rw [← hwd]
   have h9:=(arrL_keys (l:=insD p.ins ls (atI0 ls))).length_le
   rw [Zci,List.length_map,List.length_map] at h9
   exact h9
  refine Zal (fun c s'=>∃ j h' L,j ≤ p.arrays.length∧c=p.arrays.length - j∧Bw h1.next h1 (wd0 ++ zerL (p.arrays.take j)) a L h'∧L.es=Zca (insD p.ins ls (atI0 ls))∧L.x=h1.next ∧
   s'=⟨upd (upd (upd ρ0 2 (.lptr 0 3 0)) 7 (.ptr h1.next 0)) 13 (I j),upd m0 0 (some [.vec (p.ins.map InD.v) .any,.vec (p.arrays.map ArD.v) .any,.vec (p.body.map Stm.v) .any]),1,[],h'⟩)
   (i:=p.arrays.length) ⟨0,h',L,Nat.zero_le _,rfl,by rw [List.take_zero,show zerL []=[] from rfl,List.append_nil]; exact B,hes,hx,by simp -dsimp -implicitDefEqProofs only [↓STP,STQ,seval,List.length_map] <;> rfl⟩ ?_ mono
  clear B hes hx
  rintro cc s' ⟨j,h',L,hj,rfl,B,hes,hx,rfl⟩
  rcases Nat.lt_or_ge j p.arrays.length with hi | hi
  ·have hget:=Za6 (f:=ArD.v) hi
   have hdm:p.arrays[j] ∈ p.arrays:=List.getElem_mem hi
   have hdi:=v.ars _ hdm
   have w1:=wiM (show j < 9223372036854775807 by omega)
   have htk:p.arrays.take (j + 1)=p.arrays.take j ++ [p.arrays[j]]:=by rw [List.take_add_one,List.getElem?_eq_getElem hi]; rfl
   have hnew:p.arrays[j].name ∉ (wd0 ++ zerL (p.arrays.take j)).map (·.1):=by
    have hnm:=hp.nm
    have e:p.arrays=p.arrays.take j ++ p.arrays[j] :: p.arrays.drop (j + 1):=by rw [← List.drop_eq_getElem_cons hi,List.take_append_drop]
    rw [List.map_append,List.mem_append]
    rintro (hh | hh)
    ·rw [← hwd] at hh
     have h3:=arrL_keys.subset hh
     rw [Zci] at h3
     exact (List.nodup_append.1 hnm).2.2 _ h3 _ (List.mem_map.2 ⟨_,hdm,rfl⟩) rfl
    ·have h2:=(List.nodup_append.1 hnm).2.1
     rw [e,List.map_append,List.map_cons] at h2
     rw [Zjr] at hh
     exact (List.nodup_append.1 h2).2.2 _ hh _ List.mem_cons_self rfl
   have hwl2:L.ws.length < 1000000:=by
    have h9:=congrArg List.length B.keys
    rw [List.length_map,List.length_map,List.length_append] at h9
    unfold zerL at h9
    rw [List.length_map,List.length_take] at h9
    omega
   generalize p.arrays[j]=d at *
   have hs1:=hdi.s1
   have hs2:=hdi.s2
   have hsN:d.size=((d.size.toNat:Nat):Int):=by omega
   obtain ⟨h3,h4,a1,a2,a3,g1,g2,g3,B3⟩:=B.names (y:=d.name) (l:=List.replicate d.size.toNat 0) hnew hwl2
   obtain ⟨h5,h6,b1,b2,q1,q2,q3,B4⟩:=B.block (y:=d.name) (l:=List.replicate d.size.toNat 0) hnew hwl2
   have gx:=Zai B.A.st.x
   rw [hx] at gx g1 g2 g3 B3 q1 q2 q3 B4
   unfold Rk.cs at gx g1 g2 g3 q1 q2 q3
   have gx:h'.get h1.next=some [slV L.n L.es.length,slV L.v L.es.length,slV L.a L.ws.length,slV L.w L.ws.length,slV L.t 0]:=gx
   have mk:mksN (I d.size) (I d.size) 1 8=some d.size.toNat:=by rw [hsN,Zig (by omega) (by decide) (by decide)]; rfl
   rw [List.length_replicate] at a3 B3 b2 B4
   have st3:∀ (g:H) (na:Nat),g.get h1.next=some [slV L.n L.es.length,slV L.v L.es.length,slV L.a L.ws.length,slV L.w L.ws.length,slV L.t 0]→∀ ρ m n' u,Zae ⟨ρ,m,n',u,g⟩ (.ptr h1.next 2) (.ref na 0 (L.ws.length + 1) 1) 1=some ⟨ρ,m,n',u,g.set h1.next (.cells [slV L.n L.es.length,slV L.v L.es.length,.ref na 0 (L.ws.length + 1) 1,slV L.w L.ws.length,slV L.t 0])⟩:=fun g na hg ρ m n' u=>Zbv (j:=2) hg (show 2 < 5 by decide) rfl rfl
   have st4:∀ (g:H) (na wn:Nat),∀ ρ m n' u,Zae ⟨ρ,m,n',u,g.set h1.next (.cells [slV L.n L.es.length,slV L.v L.es.length,.ref na 0 (L.ws.length + 1) 1,slV L.w L.ws.length,slV L.t 0])⟩ (.ptr h1.next 3) (.ref wn 0 (L.ws.length + 1) 1) 1=some ⟨ρ,m,n',u,g.set h1.next (.cells [slV L.n L.es.length,slV L.v L.es.length,.ref na 0 (L.ws.length + 1) 1,.ref wn 0 (L.ws.length + 1) 1,slV L.t 0])⟩:=fun g na wn ρ m n' u=>Zeu (j:=3) (cs:=[slV L.n L.es.length,slV L.v L.es.length,.ref na 0 (L.ws.length + 1) 1,slV L.w L.ws.length,slV L.t 0]) (show 3 < 5 by decide) rfl rfl
   have s1:=st3 h4 h'.next g3
   have s2:=st3 h6 (h'.next + 1) q3
   simp -dsimp -implicitDefEqProofs only [↓STP,STQ,seval,Int.ofNat_lt,hi,hget,List.length_map,ArD.v_cells,ArD.v_clen,gx,mk,Ws_zeros,a1,a2,a3,g1,g2,g3,b1,b2,q1,q2,q3,s1,s2,st4,w1]
   refine ⟨⟨p.arrays.length - (j + 1),by omega,j + 1,_,L.more h'.next (h'.next + 2) (h'.next + 1) d.name d.size.toNat,hi,rfl,?_,hes,hx,rfl⟩,⟨p.arrays.length - (j + 1),by omega,j + 1,_,L.more (h'.next + 1) (h'.next + 2) h'.next d.name d.size.toNat,hi,rfl,?_,hes,hx,rfl⟩⟩
   ·rw [htk,Zjq,← List.append_assoc]
    exact B3
   ·rw [htk,Zjq,← List.append_assoc]
    exact B4
  ·have hj':j=p.arrays.length:=by omega
   subst hj'
   rw [List.take_length] at B
   have A:=B.start (ls:=ls) (List.nodup_append.1 hp.nm).1 hes hwd.symm
   simp -dsimp -implicitDefEqProofs only [↓STP,STQ,seval,Int.lt_irrefl,List.length_map]
   rw [← hx]
   have hel:L.es.length ≤ 100000:=by
    rw [hes]
    have h9:=(scalL_keys (l:=insD p.ins ls (atI0 ls))).length_le
    rw [Zci,List.length_map,List.length_map] at h9
    omega
   refine stmts30 hp v.ok.lb v.body v.ok.body (Ze1 p) σ L (Zcc p ls) h' _ A (ag_start hp hf) (Zjn v.ins v.ars) (by show L.es.length ≤ 100000 + 0; omega) hs fun L6 h6 A6 F6 hb6=>?_
   have gx6:=Zai A6.st.x
   rw [F6.x,hx] at gx6
   unfold Rk.cs at gx6
   have u6:UpH h1 h6:=⟨by have:=F6.nx; have:=B.nx; omega,fun j hj=>by rw [F6.same j (by have:=B.nx; omega) (fun i hi=>by have:=(B.own i _ hi).1; omega)]; exact B.old j hj⟩
   have ho:outX p ls=(Za9 p p.body (Zcc p ls)).told:=rfl
   rw [ho] at hK
   have g6:=A6.st.t
   generalize (Za9 p p.body (Zcc p ls)).told=told at hK g6 gx6
   rw [hx]
   simp -dsimp -implicitDefEqProofs only [↓STP,STQ,seval,gx6]
   cases ht:L6.t with
   | none =>
    rw [ht] at g6
    have g6:Ws told=[]:=g6
    have e1:told=[]:=by unfold Ws at g6; exact List.map_eq_nil_iff.1 g6
    simp -dsimp -implicitDefEqProofs only [↓STP,STQ,seval,slV]
    exact hK h6 _ (u1.trans u6) (.inl (by rw [e1]; rfl))
   | some t =>
    rw [ht] at g6
    simp -dsimp -implicitDefEqProofs only [↓STP,STQ,seval,slV]
    exact hK h6 _ (u1.trans u6) (.inr ⟨t,A6.st.lt 5 t ht,rfl,Zai g6.2⟩)
end
end YtljoifdccjcidaaDoor
end Go.Ab
namespace Go.Ab
namespace YtljoifdccjcidaaDoor
section
variable {h:H} {K:Out→H→Prop}
theorem runR' {p:Prg} {ls:List (List Nat)} {vp vl:V} (hp:vp=p.v) (hl:vl=LV ls) (v:VT p) (li:p.ins.length ≤ 1000) (la:p.arrays.length ≤ 1000) (ok:LsOk ls) (hK:∀ h' r,UpH h h'→WordsAt h' r (resX p ls)→K (.ret (.tuple [r,I (errI p ls)])) h'):R 14 [vp,vl] h K:=by subst hp hl; exact runR v li la ok hK
theorem interp30 {p:Prg} {ls:List (List Nat)} (ok:POk p) (hb:p.v.bulk ≤ 1048576) (hl:ls.length ≤ maxLen) (hw:WordsOk ls) (hK:∀ h',K (.ret (.bool true)) h'):R 3 [p.v,LV ls] h K:=by
 refine run3 (Nat.le_of_ble_eq_true rfl) ?_
 have hv0:p.v=V.agg [.vec (p.ins.map InD.v) .any,.vec (p.arrays.map ArD.v) .any,.vec (p.body.map Stm.v) .any]:=rfl
 have hL:LV ls=.vec (ls.map fun l=>.vec (Ws l) .any) .any:=rfl
 simp -dsimp -implicitDefEqProofs only [↓STP,STQ,seval,ir3,hv0,hL]
 refine awake30 fun h1 u1=>?_
 simp -dsimp -implicitDefEqProofs only [↓STP,STQ,seval]
 rw [← hv0,← hL]
 refine few30L ok (by omega) hl hw fun b hvl=>?_
 cases b with
 | false =>
  simp -dsimp -implicitDefEqProofs only [↓STP,STQ,seval]
  exact hK _
 | true =>
 obtain ⟨vp,l20,l200,li,la⟩:=hvl rfl
 have v:=vp.vt ok
 have lok:LsOk ls:=⟨by omega,fun l hl=>⟨by have:=l200 l hl; omega,hw l hl⟩⟩
 simp -dsimp -implicitDefEqProofs only [↓STP,STQ,seval,hv0,hL]
 refine runI' (p:=p) (ls:=ls) rfl rfl v lok fun h3 r1 u3 w1=>?_
 obtain ⟨lf1,lf2⟩:=res_facts v (ls:=ls)
 rcases w1.shape with rfl | ⟨id1,rfl⟩
 all_goals
  simp -dsimp -implicitDefEqProofs only [↓STP,STQ,seval,hv0,hL]
  refine runR' (p:=p) (ls:=ls) rfl rfl v (by omega) (by omega) lok fun h4 r2 u4 w2=>?_
  have w1:=w1.frame u4.nx u4.old
  rcases w2.shape with rfl | ⟨id2,rfl⟩
  all_goals
   simp -dsimp -implicitDefEqProofs only [↓STP,STQ,seval,hv0,hL]
   refine same03W w1 w2 lf1 ?_
   simp -dsimp -implicitDefEqProofs only [↓STP,STQ,seval,hv0,hL]
   refine checkI' (p:=p) (ls:=ls) rfl rfl v lok fun h5 u5=>?_
   simp -dsimp -implicitDefEqProofs only [↓STP,STQ,seval,hv0,hL]
   exact hK _
end
end YtljoifdccjcidaaDoor
end Go.Ab
namespace Go.Ab
open Go.RowKit Go.ChangeShapes
section
variable {H':Type} {enc:TypeId × Value→H'} {P:Program} {W:World} {ts:List TypeId}
theorem law_callsG {G:List (Nat × List V)} {E:Env} (hcall:∀ n,Zb9 P G (call E n)) (hwr:WR (k0 W) h0 W G) {f:FuncId} {vals:Array Value} {vs:List V} (hargs:Zi3 (k0 W) W vs vals) (hr:Runs E f vs h0 (fun o _=>o=.ret (.bool true))) :
  Calls P f vals W fun e W'=>e=.returned (.bool true)∧Below W.heap.size W W':=by
 obtain ⟨n,hn⟩:=hr
 refine ((hcall n _ _ _ _ hn).2 (k0 W) W vals hwr hargs).mono fun e W' h=>?_
 obtain ⟨o,h',rfl,k',hwr,hold,x,b,fb,rfl,_,hx⟩:=h
 have hx':VR k' W' (.bool true) x:=hx
 cases hx'
 exact ⟨rfl,hold.misc.2.1,hold.misc.1,hold.misc.2.2,hold.keeps.size,fun b hb=>hold.same b hb (fun id o ho=>by simp [h0] at ho)⟩
theorem law_contractG {B:DataW H'→Nat} (hB:BulkOK B) {N:Nat} {G:List (Nat × List V)} {E:Env} (hcall:∀ n,Zb9 P G (call E n)) (hwr:WR (k0 W) h0 W G) {f:FuncId} {fn:Func} {s:ChangeSpec} {apart fresh handsOn:Bool} {base:Nat} {args:Array Value} {ds gs:List (DataW H')} {before:List MemPlace} {tb:TypeId}
  (hl:laidOutB P=true) (hc:Zhh P ts=true) (hts:(fn.params.toList.all fun t=>ts.contains t && P.readableRec t && decide (t < P.types.size))=true) (hres:fn.resultTypes=#[tb]) (htb:P.underlying tb=some .bool)
  (hvars:s.vars=[]) (hfn:∀ ds:List (DataW H'),ds.length=fn.params.toList.length→s.fn H' ds={ results:=[.lit (.bool true)],args:=ds })
  (hval:∀ (j:Nat) t v,fn.params[j]?=some t→args[j]?=some v→Value.okWide P W .any base t v)
  (hW:DataW.Whole enc P fn.params.toList s.vars apart W args.toList ds gs before)
  (hbulk:(ds.map B).sum ≤ N)
  (hrun:∀ vs,Zmo P fn.params.toList vs→V.bulks vs ≤ N→Runs E f vs h0 (fun o _=>o=.ret (.bool true))) :
  Calls P f args W fun e W'=>∃ v,e=.returned v∧s.post enc P fn apart fresh handsOn false W args v W':=by
 have hW0:=hW
 obtain ⟨p,q,hA,hV,rfl,_,_⟩:=hW
 rw [List.all_eq_true] at hts
 have hts':∀ t ∈ fn.params.toList,ts.contains t=true∧P.readableRec t=true∧t < P.types.size:=fun t ht=>by
  have:=hts t ht
  simp only [Bool.and_eq_true,decide_eq_true_eq] at this
  exact ⟨this.1.1,this.1.2,this.2⟩
 rw [hvars] at hV
 obtain ⟨rfl,rfl⟩:gs=[]∧q=[]:=by
  cases gs with
  | nil=>exact ⟨rfl,hV⟩
  | cons=>exact hV.elim
 obtain ⟨us,u1,u2,u3,u4⟩:=args_VB hB (b0:=base) hc (fun t ht=>(hts' t ht).1) hA (fun j t v h1 h2=>hval j t v (by simpa using h1) (by simpa using h2))
 refine (law_callsG hcall hwr (vs:=us) ⟨by simpa using u1.symm,fun j u hj=>?_⟩ (hrun us u3 (Nat.le_trans u4 hbulk))).mono fun e W' h=>?_
 ·obtain ⟨x,a,b⟩:=u2 j u hj
  exact ⟨x,by simpa using a,b⟩
 obtain ⟨rfl,hb⟩:=h
 have hfn:=hfn ds (Zjz hA)
 refine ⟨_,rfl,ds,[],p ++ [],[],p,[],hW0,?_,?_,?_,hb.frame _,fun h=>by cases h⟩
 ·rw [List.append_nil,hfn,hres]
  exact trodAll_mk1 (shut_bool htb true)
 ·rw [List.append_nil,hfn]
  exact Zhk hl hb (fun t ht=>(hts' t ht).2) hA
 ·rw [List.append_nil,hfn,hvars]; rfl
def litX:V→Value
 | .int k n=>.int k n
 | .bool b=>.bool b
 | _=>.nilFunc
theorem glob_vr {g:Nat} {vs:List V} (hp:∀ v ∈ vs,(∃ k n,v=.int k n)∨∃ b,v=.bool b) (hc:∀ (j:Nat) (v:V),vs[j]?=some v→W.cell? ⟨g,j,none⟩=some (litX v)):VR (k0 W) W (.iptr vs) (.pointer (some ⟨g,0,none⟩)):=by
 refine .iptr vs ⟨g,0,none⟩ (fun j=>litX (vs.getD j .undef)) rfl (fun j v hj=>?_) (fun j v hj=>?_)
 ·have e:vs.getD j .undef=v:=by rw [List.getD_eq_getElem?_getD,hj]; rfl
  have h1:=hc j v hj
  have ha:(⟨g,0,none⟩:Addr).add j=⟨g,j,none⟩:=by simp [Addr.add]; try omega
  rw [ha]
  simp only [e]
  refine ⟨h1,cell_lim h1,?_⟩
  rcases hp v (List.mem_of_getElem? hj) with ⟨k,n,rfl⟩ | ⟨b,rfl⟩ <;> rfl
 ·have e:vs.getD j .undef=v:=by rw [List.getD_eq_getElem?_getD,hj]; rfl
  simp only [e]
  rcases hp v (List.mem_of_getElem? hj) with ⟨k,n,rfl⟩ | ⟨b,rfl⟩
  ·exact .int k n
  ·exact .bool b
theorem wrG {G:List (Nat × List V)} (h:∀ g cells,(g,cells) ∈ G→VR (k0 W) W (.iptr cells) (.pointer (some ⟨g,0,none⟩))):WR (k0 W) h0 W G:=⟨rfl,fun id o h=>by simp [h0] at h,fun id id' o o' h=>by simp [h0] at h,h⟩
end
end Go.Ab
