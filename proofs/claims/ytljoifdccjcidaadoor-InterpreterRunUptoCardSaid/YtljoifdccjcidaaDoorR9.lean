/- Part of a proof: The chapter's small functions; its examples, as a run. -/
import Derived.Test.YtljoifdccjcidaaDoorR8
set_option linter.unusedVariables false
set_option linter.unusedSimpArgs false
namespace Go.Ab
theorem two_err {w:Int} {l:List Stm} {x y:Nat} (hc:errT (Zbk (twoP w l))=0) (hx:x < 2 ^ w.toNat) (hy:y < 2 ^ w.toNat):errI (twoP w l) [[x],[y]]=0:=by
 obtain ⟨σ,h⟩:=errT_ok hc Zfy
 rw [Zim h,(two_fit hx hy).1,if_pos rfl]
theorem two_res {w:Int} {l:List Stm} {x y:Nat} (hc:errT (Zbk (twoP w l))=0) (hx:x < 2 ^ w.toNat) (hy:y < 2 ^ w.toNat):resX (twoP w l) [[x],[y]]=(Za9 (twoP w l) l (Zcc (twoP w l) [[x],[y]])).told:=by
 unfold resX
 rw [if_pos (two_err hc hx hy)]; rfl
theorem ex_vt1:VT (twoP 4 [sOut exE]):=by
 have a:VE (Zcs nA) 4:=VE_nm isA (by decide)
 have b:VE (Zcs nB) 4:=VE_nm isB (by decide)
 have oa:=EOk_nm nA_size
 have ob:=EOk_nm nB_size
 refine two_vt (by decide) (by decide) (by simp) (VSs_all.2 fun x hx=>?_) fun x hx=>?_
 ·rw [List.mem_singleton] at hx; subst hx
  exact VS_out' (VE_sel' (VE_op' (by decide) (by decide) a b (by decide)) (VE_op' (by decide) (by decide) b a (by decide)) (VE_op' (by decide) (by decide) a b (by decide)) (by decide)) (by decide)
 ·rw [List.mem_singleton] at hx; subst hx
  exact SOk_out (EOk_sel (EOk_op (by decide) (by decide) oa ob) (EOk_op (by decide) (by decide) ob oa) (EOk_op (by decide) (by decide) oa ob))
theorem ex_vt2:VT (twoP 4 [sOut (Zcs nC)]):=by
 refine two_vt (by decide) (by decide) (by simp) (VSs_all.2 fun x hx=>?_) fun x hx=>?_
 ·rw [List.mem_singleton] at hx; subst hx
  exact VS_out' (VE_nm isC (by decide)) (by decide)
 ·rw [List.mem_singleton] at hx; subst hx
  exact SOk_out (EOk_nm nC_size)
theorem ex_vt3:VT (twoP 4 []):=two_vt (by decide) (by decide) (by simp) VSs_nil (by simp)
theorem ex_res1:resX (twoP 4 [sOut exE]) [[3],[9]]=[6]:=by
 obtain ⟨v1,v2,v3⟩:=two_vars (w:=4) (l:=[sOut exE]) (x:=3) (y:=9) (by decide) (by decide)
 rw [two_res Zkv (by decide) (by decide)]
 generalize Zcc (twoP 4 [sOut exE]) [[3],[9]]=s at *
 rw [Za9,Za9,run_out,v3,exE,val_sel,val_op,val_op,val_op,val_name,val_name,v1,v2]; rfl
theorem ex_err2:errI (twoP 4 [sOut exE]) [[3],[16]]=1:=by
 obtain ⟨σ,h⟩:=errT_ok Zkv Zfy
 rw [Zim h]; decide
theorem ex_err3:errI (twoP 4 [sOut (Zcs nC)]) [[3],[9]]=4:=by
 unfold errI
 rw [ex_check2,if_pos (by decide)]
namespace YtljoifdccjcidaaDoor
section
variable {h:H} {K:Out→H→Prop}
theorem nameL {s:ByteArray} (hK:K (.ret (Zcs s).v) h):R 17 [.str s] h K:=by
 refine run17 (Nat.le_of_ble_eq_true rfl) ?_
 simp -dsimp -implicitDefEqProofs only [↓STP,STQ,seval,ir17,Zae]
 rw [Zcs,Exp.v_mk] at hK
 exact hK
theorem opL {k:Int} {a b:Exp} (hK:K (.ret (eOp k a b).v) h):R 18 [I k,a.v,b.v] h K:=by
 refine run18 (Nat.le_of_ble_eq_true rfl) ?_
 obtain ⟨k1,o1,n1,s1,ks1⟩:=a
 obtain ⟨k2,o2,n2,s2,ks2⟩:=b
 simp -dsimp -implicitDefEqProofs only [↓STP,STQ,seval,ir18,Exp.v_mk,Zae]
 rw [eOp,Exp.v_mk] at hK
 simp only [List.map_cons,List.map_nil,Exp.v_mk] at hK
 exact hK
theorem outputL {a:Exp} (hK:K (.ret (sOut a).v) h):R 20 [a.v] h K:=by
 refine run20 (Nat.le_of_ble_eq_true rfl) ?_
 obtain ⟨k1,o1,n1,s1,ks1⟩:=a
 simp -dsimp -implicitDefEqProofs only [↓STP,STQ,seval,ir20,Exp.v_mk,Zae]
 rw [sOut,Stm.v_mk] at hK
 simp only [List.map_cons,List.map_nil,Exp.v_mk] at hK
 exact hK
theorem twoL {w:Int} {l:List Stm} (hK:K (.ret (twoP w l).v) h):R 19 [I w,.vec (l.map Stm.v) .any] h K:=by
 refine run19 (Nat.le_of_ble_eq_true rfl) ?_
 simp -dsimp -implicitDefEqProofs only [↓STP,STQ,seval,ir19,Zae]
 exact hK
theorem opL' {k:Int} {a b:Exp} {va vb:V} (ha:va=a.v) (hb:vb=b.v) (hK:K (.ret (eOp k a b).v) h):R 18 [I k,va,vb] h K:=by subst ha hb; exact opL hK
theorem outputL' {a:Exp} {va:V} (ha:va=a.v) (hK:K (.ret (sOut a).v) h):R 20 [va] h K:=by subst ha; exact outputL hK
theorem twoL' {w:Int} {l:List Stm} {vs:V} (hl:vs=.vec (l.map Stm.v) .any) (hK:K (.ret (twoP w l).v) h):R 19 [I w,vs] h K:=by subst hl; exact twoL hK
theorem runI' {p:Prg} {ls:List (List Nat)} {vp vl:V} (hp:vp=p.v) (hl:vl=LV ls) (v:VT p) (ok:LsOk ls) (hK:∀ h' r,UpH h h'→WordsAt h' r (resX p ls)→K (.ret (.tuple [r,I (errI p ls)])) h'):R 13 [vp,vl] h K:=by subst hp hl; exact runI v ok hK
theorem checkI' {p:Prg} {ls:List (List Nat)} {vp vl:V} (hp:vp=p.v) (hl:vl=LV ls) (v:VT p) (ok:LsOk ls) (hK:∀ h',UpH h h'→K (.ret (I (errI p ls))) h'):R 16 [vp,vl] h K:=by subst hp hl; exact checkI v ok hK
theorem hname {s:ByteArray}:(Zcs s).v=V.agg [I 2,I 0,W 0,.str s,.vec [] .any]:=by rw [Zcs,Exp.v_mk]; rfl
theorem hop {k:Int} {a b:Exp}:(eOp k a b).v=V.agg [I 4,I k,W 0,.str noName,.vec [a.v,b.v] .any]:=by rw [eOp,Exp.v_mk]; rfl
theorem hsel {c a b:Exp}:(eSel c a b).v=V.agg [I 6,I 0,W 0,.str noName,.vec [c.v,a.v,b.v] .any]:=by rw [eSel,Exp.v_mk]; rfl
theorem hnot {a:Exp}:(eNot a).v=V.agg [I 5,I 0,W 0,.str noName,.vec [a.v] .any]:=by rw [eNot,Exp.v_mk]; rfl
theorem hout {a:Exp}:(sOut a).v=V.agg [I 5,.str noName,.vec [a.v] .any,.vec [] .any,.vec [] .any]:=by rw [sOut,Stm.v_mk]; rfl
theorem htwo {w:Int} {l:List Stm}:(twoP w l).v=V.agg [.vec [.agg [.str nA,I 1,I w,I 0],.agg [.str nB,I 2,I w,I 0]] .any,.vec [] .any,.vec (l.map Stm.v) .any]:=rfl
theorem awake30 (hK:∀ h',UpH h h'→K (.ret (.bool true)) h'):R 11 [] h K:=by
 refine run11 (Nat.le_of_ble_eq_true rfl) ?_
 have l1:LsOk [[3],[9]]:=lok2 (by decide) (by decide)
 have l2:LsOk [[3],[16]]:=lok2 (by decide) (by decide)
 have l3:LsOk [[15],[0]]:=lok2 (by decide) (by decide)
 simp -dsimp -implicitDefEqProofs only [↓STP,STQ,seval,ir11]
 refine nameL ?_
 simp -dsimp -implicitDefEqProofs only [↓STP,STQ,seval,hname]
 refine nameL ?_
 simp -dsimp -implicitDefEqProofs only [↓STP,STQ,seval,hname,Zae]
 refine opL' (a:=Zcs nA) (b:=Zcs nB) hname.symm hname.symm ?_
 simp -dsimp -implicitDefEqProofs only [↓STP,STQ,seval,hop]
 refine opL' (a:=Zcs nB) (b:=Zcs nA) hname.symm hname.symm ?_
 simp -dsimp -implicitDefEqProofs only [↓STP,STQ,seval,hop]
 refine opL' (a:=Zcs nA) (b:=Zcs nB) hname.symm hname.symm ?_
 simp -dsimp -implicitDefEqProofs only [↓STP,STQ,seval,hop,Zae]
 refine outputL' (a:=exE) (by rw [exE,hsel,hop,hop,hop]; rfl) ?_
 simp -dsimp -implicitDefEqProofs only [↓STP,STQ,seval,hout]
 refine twoL' (l:=[sOut exE]) (by rw [List.map_cons,List.map_nil,hout]) ?_
 simp -dsimp -implicitDefEqProofs only [↓STP,STQ,seval,htwo]
 refine runI' (p:=twoP 4 [sOut exE]) (ls:=[[3],[9]]) (by rw [htwo]; rfl) rfl ex_vt1 l1 fun h1 r1 u1 w1=>?_
 rw [ex_res1] at w1
 rw [two_err Zkv (by decide) (by decide)]
 rcases w1.shape with rfl | ⟨id1,rfl⟩
 all_goals
  simp -dsimp -implicitDefEqProofs only [↓STP,STQ,seval]
  refine outputL' (a:=exE) (by rw [exE,hsel,hop,hop,hop]; rfl) ?_
  simp -dsimp -implicitDefEqProofs only [↓STP,STQ,seval,hout]
  refine twoL' (l:=[sOut exE]) (by rw [List.map_cons,List.map_nil,hout]) ?_
  simp -dsimp -implicitDefEqProofs only [↓STP,STQ,seval,htwo]
  refine runI' (p:=twoP 4 [sOut exE]) (ls:=[[3],[16]]) (by rw [htwo]; rfl) rfl ex_vt1 l2 fun h2 r2 u2 w2=>?_
  rw [ex_err2]
  simp -dsimp -implicitDefEqProofs only [↓STP,STQ,seval]
  refine nameL ?_
  simp -dsimp -implicitDefEqProofs only [↓STP,STQ,seval,hname]
  refine outputL' (a:=Zcs nC) hname.symm ?_
  simp -dsimp -implicitDefEqProofs only [↓STP,STQ,seval,hout]
  refine twoL' (l:=[sOut (Zcs nC)]) (by rw [List.map_cons,List.map_nil,hout]) ?_
  simp -dsimp -implicitDefEqProofs only [↓STP,STQ,seval,htwo]
  refine runI' (p:=twoP 4 [sOut (Zcs nC)]) (ls:=[[3],[9]]) (by rw [htwo]; rfl) rfl ex_vt2 l1 fun h3 r3 u3 w3=>?_
  rw [ex_err3]
  simp -dsimp -implicitDefEqProofs only [↓STP,STQ,seval]
  refine same03W (a:=[6]) (b:=[6]) ((w1.frame u2.nx u2.old).frame u3.nx u3.old) (.inl rfl) (by decide) ?_
  rw [decide_eq_true rfl]
  simp -dsimp -implicitDefEqProofs only [↓STP,STQ,seval]
  refine twoL' (l:=[]) rfl ?_
  simp -dsimp -implicitDefEqProofs only [↓STP,STQ,seval,htwo]
  refine checkI' (p:=twoP 4 []) (ls:=[[15],[0]]) (by rw [htwo]; rfl) rfl ex_vt3 l3 fun h4 u4=>?_
  rw [two_err ex_check3 (by decide) (by decide)]
  simp -dsimp -implicitDefEqProofs only [↓STP,STQ,seval]
  exact hK h4 (((u1.trans u2).trans u3).trans u4)
end
end YtljoifdccjcidaaDoor
end Go.Ab
namespace Go.Ab
theorem okE {p:Prg} {ls:List (List Nat)} (h:errI p ls=0):∃ σ,Zbk p=.ok σ∧fitB p ls=true:=by
 cases c:Zbk p with
 | error e =>
  have hne:=Zfy e c
  rw [errI_of_error c hne] at h
  exact absurd h hne
 | ok σ =>
  rw [Zim c] at h
  refine ⟨σ,rfl,?_⟩
  cases q:fitB p ls with
  | true=>rfl
  | false=>rw [q] at h; exact absurd h (by decide)
theorem res_facts {p:Prg} (v:VT p) {ls:List (List Nat)}:(resX p ls).length ≤ 20000∧∀ x ∈ resX p ls,x < 2 ^ max (mostT (Zbk p)) 1:=by
 unfold resX
 split
 ·rename_i h
  obtain ⟨σ,hσ,hf⟩:=okE h
  obtain ⟨hu,hs⟩:=Zk3 hσ
  have hp:=PV_of v hu
  have T:=Zjn v.ins v.ars
  have a:=Zj2 hp v.body (Ze1 p) σ (Zcc p ls) T (ag_start hp hf) hs
  have k:=Zbm hp v.body (Ze1 p) σ T hs
  have h1:=a.few
  have h2:=k.ok.steps
  refine ⟨?_,?_⟩
  ·show (Za9 p p.body (Zcc p ls)).told.length ≤ 20000
   omega
  ·rw [hσ]; exact a.told
 ·exact ⟨Nat.zero_le _,fun x hx=>by cases hx⟩
end Go.Ab
namespace Go.Ab
theorem wid_one:wid 1=1:=by
 unfold wid
 rw [Zdz (by decide),show (1:Nat) / 2=0 from rfl,Zf1]; rfl
def nmV (r:ByteArray × Kn):V:=.agg [.str r.1,I r.2.kind,I r.2.w,.bool r.2.is,W r.2.val]
def ixI (s:ByteArray) (l:List ByteArray):Int:=match l.findIdx? (fun a=>decide (a=s)) with
 | some i=>(i:Int)
 | none=>-1
theorem ix_hit {s:ByteArray} {l:List ByteArray} {j:Nat} (h:∀ a ∈ l.take j,a ≠ s) (hj:l[j]?=some s):ixI s l=j:=by
 have hlt:j < l.length:=by
  rcases Nat.lt_or_ge j l.length with h' | h'
  ·exact h'
  ·rw [List.getElem?_eq_none h'] at hj; cases hj
 have:l.findIdx? (fun a=>decide (a=s))=some j:=by
  rw [List.findIdx?_eq_some_iff_getElem]
  rw [List.getElem?_eq_getElem hlt] at hj
  refine ⟨hlt,by simpa using hj,fun i hi=>?_⟩
  have hm:l[i] ∈ l.take j:=by
   rw [List.mem_take_iff_getElem]
   exact ⟨i,by omega,rfl⟩
  simpa using h _ hm
 unfold ixI; rw [this]
theorem ix_miss {s:ByteArray} {l:List ByteArray} (h:∀ a ∈ l,a ≠ s):ixI s l=-1:=by
 have:l.findIdx? (fun a=>decide (a=s))=none:=by
  rw [List.findIdx?_eq_none_iff]
  intro a ha
  simpa using h a ha
 unfold ixI; rw [this]
theorem Zhl {s:ByteArray} {l:List ByteArray} {j:Nat} {a:ByteArray} (h:∀ a ∈ l.take j,a ≠ s) (hj:l[j]?=some a) (ha:a ≠ s):∀ a ∈ l.take (j + 1),a ≠ s:=by
 intro b hb
 rw [List.take_add_one,hj] at hb
 rcases List.mem_append.1 hb with hb | hb
 ·exact h b hb
 ·simp at hb; subst hb; exact ha
namespace YtljoifdccjcidaaDoor
section
variable {h:H} {K:Out→H→Prop} {p:Prg}
theorem width29 {n:Nat} (hn:n < 18446744073709551616) (hK:K (.ret (I (wid n))) h):R 38 [W n] h K:=by
 refine run38 (Nat.le_of_ble_eq_true rfl) ?_
 simp -dsimp -implicitDefEqProofs only [↓STP,STQ,seval,ir38]
 refine Zal (fun k st=>∃ m w:Nat,k=m∧m ≤ n∧wid n + 1=w + wid m∧st=⟨upd (upd ρ0 0 (W m)) 3 (I w),m0,0,[],h⟩) (i:=n) ⟨n,1,rfl,Nat.le_refl _,by omega,by simp -dsimp -implicitDefEqProofs only [↓STP,STQ,seval] <;> rfl⟩ ?_ mono
 rintro m st ⟨_,w,rfl,hm,hw,rfl⟩
 have hle:wid n ≤ 64:=wid_le (k:=64) (by omega) (by decide)
 have hp:=wid_pos m
 by_cases c:(1:Int) < (m:Int)
 ·have q1:IntKind.u64.wrap (Int.tdiv (m:Int) 2)=((m / 2:Nat):Int):=by
   rw [show Int.tdiv (m:Int) 2=((m / 2:Nat):Int) from rfl,Zaq] <;> omega
  have q2:IntKind.i64.wrap ((w:Int) + 1)=((w + 1:Nat):Int):=wi (by omega)
  have hb:wid m=wid (m / 2) + 1:=by
   unfold wid
   rw [Zdz (show m ≠ 0 by omega)]
   have:1 ≤ blen (m / 2):=by rw [Zdz (show m / 2 ≠ 0 by omega)]; omega
   omega
  simp -dsimp -implicitDefEqProofs only [↓STP,STQ,seval,eq_true c,q1,q2]
  exact ⟨m / 2,by omega,m / 2,w + 1,rfl,by omega,by omega,rfl⟩
 ·have h1:wid m=1:=by
   rcases (show m=0∨m=1 by omega) with rfl | rfl
   ·unfold wid; rw [Zf1]; rfl
   ·exact wid_one
  simp -dsimp -implicitDefEqProofs only [↓STP,STQ,seval,eq_false c]
  rw [show wid n=w by omega] at hK
  exact hK
theorem findR {l:List (ByteArray × Kn)} {s:ByteArray} (hl:l.length ≤ 9223372036854775807) (hK:K (.ret (I (ixI s (l.map (·.1))))) h):R 105 [.vec (l.map nmV) .any,.str s] h K:=by
 refine run105 (Nat.le_of_ble_eq_true rfl) ?_
 simp -dsimp -implicitDefEqProofs only [↓STP,STQ,seval,ir105]
 refine Zar (N:=l.length) (fun j=>⟨upd (upd (upd ρ0 0 (.vec (l.map nmV) .any)) 1 (.str s)) 5 (I j),m0,0,[],h⟩) (fun j=>∀ a ∈ (l.map (·.1)).take j,a ≠ s) (by simp -dsimp -implicitDefEqProofs only [↓STP,STQ,seval] <;> rfl) (by simp) (fun j hj pj=>?_) (fun pj=>?_) mono
 ·have g:(l.map nmV)[j]?=some (nmV l[j]):=by rw [List.getElem?_map,List.getElem?_eq_getElem hj]; rfl
  have g':(l.map (·.1))[j]?=some l[j].1:=by rw [List.getElem?_map,List.getElem?_eq_getElem hj]; rfl
  have lj:(j:Int) < (l.length:Int):=by omega
  by_cases c:l[j].1=s
  ·simp -dsimp -implicitDefEqProofs only [↓STP,STQ,seval,List.length_map,eq_true lj,g,nmV,c,binS,beqS,eq_self]
   rw [ix_hit pj (g'.trans (by rw [c]))] at hK
   exact hK
  ·simp -dsimp -implicitDefEqProofs only [↓STP,STQ,seval,List.length_map,eq_true lj,g,nmV,eq_false c,binS,beqS,wiM (show j < 9223372036854775807 by omega)]
   exact Zhl pj g' c
 ·have lj:¬ (l.length:Int) < (l.length:Int):=by omega
  simp -dsimp -implicitDefEqProofs only [↓STP,STQ,seval,List.length_map,eq_false lj]
  rw [ix_miss (by rw [List.take_of_length_le (by simp)] at pj; exact pj)] at hK
  exact hK
theorem inputR {s:ByteArray} (hl:p.ins.length ≤ 9223372036854775807) (hK:K (.ret (I (ixI s (p.ins.map InD.name)))) h):R 104 [p.v,.str s] h K:=by
 refine run104 (Nat.le_of_ble_eq_true rfl) ?_
 have hv0:p.v=V.agg [.vec (p.ins.map InD.v) .any,.vec (p.arrays.map ArD.v) .any,.vec (p.body.map Stm.v) .any]:=rfl
 simp -dsimp -implicitDefEqProofs only [↓STP,STQ,seval,ir104,hv0]
 refine Zar (N:=p.ins.length) (fun j=>⟨upd (upd (upd ρ0 1 (.str s)) 2 (.lptr 0 3 0)) 5 (I j),upd m0 0 (some [.vec (p.ins.map InD.v) .any,.vec (p.arrays.map ArD.v) .any,.vec (p.body.map Stm.v) .any]),1,[],h⟩) (fun j=>∀ a ∈ (p.ins.map InD.name).take j,a ≠ s) (by simp -dsimp -implicitDefEqProofs only [↓STP,STQ,seval] <;> rfl) (by simp) (fun j hj pj=>?_) (fun pj=>?_) mono
 ·have g:(p.ins.map InD.v)[j]?=some (InD.v p.ins[j]):=by rw [List.getElem?_map,List.getElem?_eq_getElem hj]; rfl
  have g':(p.ins.map InD.name)[j]?=some p.ins[j].name:=by rw [List.getElem?_map,List.getElem?_eq_getElem hj]; rfl
  have lj:(j:Int) < (p.ins.length:Int):=by omega
  by_cases c:p.ins[j].name=s
  ·simp -dsimp -implicitDefEqProofs only [↓STP,STQ,seval,List.length_map,eq_true lj,g,Zam,c,binS,beqS,eq_self]
   rw [ix_hit pj (g'.trans (by rw [c]))] at hK
   exact hK
  ·simp -dsimp -implicitDefEqProofs only [↓STP,STQ,seval,List.length_map,eq_true lj,g,Zam,eq_false c,binS,beqS,wiM (show j < 9223372036854775807 by omega)]
   exact Zhl pj g' c
 ·have lj:¬ (p.ins.length:Int) < (p.ins.length:Int):=by omega
  simp -dsimp -implicitDefEqProofs only [↓STP,STQ,seval,List.length_map,eq_false lj]
  rw [ix_miss (by rw [List.take_of_length_le (by simp)] at pj; exact pj)] at hK
  exact hK
theorem arrayR {s:ByteArray} (hl:p.arrays.length ≤ 9223372036854775807) (hK:K (.ret (I (ixI s (p.arrays.map ArD.name)))) h):R 98 [p.v,.str s] h K:=by
 refine run98 (Nat.le_of_ble_eq_true rfl) ?_
 have hv0:p.v=V.agg [.vec (p.ins.map InD.v) .any,.vec (p.arrays.map ArD.v) .any,.vec (p.body.map Stm.v) .any]:=rfl
 have av:∀ d:ArD,d.v=.agg [.str d.name,I d.size]:=fun d=>rfl
 simp -dsimp -implicitDefEqProofs only [↓STP,STQ,seval,ir98,hv0]
 refine Zar (N:=p.arrays.length) (fun j=>⟨upd (upd (upd ρ0 1 (.str s)) 2 (.lptr 0 3 0)) 5 (I j),upd m0 0 (some [.vec (p.ins.map InD.v) .any,.vec (p.arrays.map ArD.v) .any,.vec (p.body.map Stm.v) .any]),1,[],h⟩) (fun j=>∀ a ∈ (p.arrays.map ArD.name).take j,a ≠ s) (by simp -dsimp -implicitDefEqProofs only [↓STP,STQ,seval] <;> rfl) (by simp) (fun j hj pj=>?_) (fun pj=>?_) mono
 ·have g:(p.arrays.map ArD.v)[j]?=some (ArD.v p.arrays[j]):=by rw [List.getElem?_map,List.getElem?_eq_getElem hj]; rfl
  have g':(p.arrays.map ArD.name)[j]?=some p.arrays[j].name:=by rw [List.getElem?_map,List.getElem?_eq_getElem hj]; rfl
  have lj:(j:Int) < (p.arrays.length:Int):=by omega
  by_cases c:p.arrays[j].name=s
  ·simp -dsimp -implicitDefEqProofs only [↓STP,STQ,seval,List.length_map,eq_true lj,g,av,c,binS,beqS,eq_self]
   rw [ix_hit pj (g'.trans (by rw [c]))] at hK
   exact hK
  ·simp -dsimp -implicitDefEqProofs only [↓STP,STQ,seval,List.length_map,eq_true lj,g,av,eq_false c,binS,beqS,wiM (show j < 9223372036854775807 by omega)]
   exact Zhl pj g' c
 ·have lj:¬ (p.arrays.length:Int) < (p.arrays.length:Int):=by omega
  simp -dsimp -implicitDefEqProofs only [↓STP,STQ,seval,List.length_map,eq_false lj]
  rw [ix_miss (by rw [List.take_of_length_le (by simp)] at pj; exact pj)] at hK
  exact hK
theorem numberR {w:Nat} (hK:K (.ret (knum w).v) h):R 113 [I w] h K:=by
 refine run113 (Nat.le_of_ble_eq_true rfl) ?_
 simp -dsimp -implicitDefEqProofs only [↓STP,STQ,seval,ir113,Zae]
 exact hK
theorem exactR {n:Nat} (hn:n < 18446744073709551616) (hK:K (.ret (kcon n).v) h):R 108 [W n] h K:=by
 refine run108 (Nat.le_of_ble_eq_true rfl) ?_
 simp -dsimp -implicitDefEqProofs only [↓STP,STQ,seval,ir108]
 refine width29 hn ?_
 simp -dsimp -implicitDefEqProofs only [↓STP,STQ,seval,Zae]
 exact hK
theorem unknownR {k:Kn} (hK:K (.ret (Kn.mk k.kind k.w false 0).v) h):R 97 [k.v] h K:=by
 refine run97 (Nat.le_of_ble_eq_true rfl) ?_
 simp -dsimp -implicitDefEqProofs only [↓STP,STQ,seval,ir97,Zab,Zae]
 exact hK
theorem placeR {k:Kn} {size:Int} (hs:0 ≤ size) (hs2:size ≤ 9223372036854775807) (hv:k.val < 1152921504606846976) (hK:Ans (Zb6 k size) (fun n=>K (.ret (.tuple [I n,I 0])) h) (fun e=>K (.ret (.tuple [I 0,I e])) h)):R 99 [k.v,I size] h K:=by
 refine run99 (Nat.le_of_ble_eq_true rfl) ?_
 have w1:IntKind.u64.wrap size=size:=Zaq hs (by omega)
 have w2:IntKind.i64.wrap (k.val:Int)=(k.val:Int):=wrap_i64 (by omega) (by omega)
 unfold Zb6 at hK
 by_cases c:k.kind=1
 ·cases ci:k.is with
  | false =>
   rw [if_pos (.inr ci)] at hK
   simp -dsimp -implicitDefEqProofs only [↓STP,STQ,seval,ir99,Zab,eq_true c,ci]
   exact hK
  | true =>
   rw [if_neg (by simp [c,ci])] at hK
   by_cases cs:size ≤ (k.val:Int)
   ·rw [if_pos cs] at hK
    simp -dsimp -implicitDefEqProofs only [↓STP,STQ,seval,ir99,Zab,eq_true c,ci,w1,eq_true cs]
    exact hK
   ·rw [if_neg cs] at hK
    simp -dsimp -implicitDefEqProofs only [↓STP,STQ,seval,ir99,Zab,eq_true c,ci,w1,eq_false cs,w2]
    exact hK
 ·rw [if_pos (.inl c)] at hK
  simp -dsimp -implicitDefEqProofs only [↓STP,STQ,seval,ir99,Zab,eq_false c]
  exact hK
theorem Zjg {l:List (ByteArray × Kn)}:∀ e ∈ l.map nmV,e.cells.length=5:=by
 intro e he
 obtain ⟨r,_,rfl⟩:=List.mem_map.1 he
 rfl
theorem nm_elems {l:List (ByteArray × Kn)}:∀ e ∈ l.map nmV,e.cells.length=5∧mkEl true e.cells=e:=by
 intro e he
 obtain ⟨r,_,rfl⟩:=List.mem_map.1 he
 exact ⟨rfl,rfl⟩
theorem withoutR {l:List (ByteArray × Kn)} {s:ByteArray} (hl:l.length ≤ 1000000) (hK:K (.ret (.vec ((l.filter fun r=>decide (r.1 ≠ s)).map nmV) (.own 0))) h):R 96 [.vec (l.map nmV) .any,.str s] h K:=by
 refine run96 (Nat.le_of_ble_eq_true rfl) ?_
 simp -dsimp -implicitDefEqProofs only [↓STP,STQ,seval,ir96]
 refine Zar (N:=l.length) (fun j=>⟨upd (upd (upd (upd ρ0 0 (.vec (l.map nmV) .any)) 1 (.str s)) 5 (.vec (((l.take j).filter fun r=>decide (r.1 ≠ s)).map nmV) (.own 0))) 6 (I j),m0,1,[],h⟩) (fun j=>True) (by simp -dsimp -implicitDefEqProofs only [↓STP,STQ,seval] <;> rfl) trivial (fun j hj pj=>?_) (fun pj=>?_) mono
 ·have g:(l.map nmV)[j]?=some (nmV l[j]):=by rw [List.getElem?_map,List.getElem?_eq_getElem hj]; rfl
  have lj:(j:Int) < (l.length:Int):=by omega
  have hf:((l.take j).filter fun r=>decide (r.1 ≠ s)).length ≤ j:=Nat.le_trans (List.length_filter_le _ _) (by rw [List.length_take]; omega)
  have e:(l.take (j + 1)).filter (fun r=>decide (r.1 ≠ s))=(l.take j).filter (fun r=>decide (r.1 ≠ s)) ++ (if l[j].1=s then [] else [l[j]]):=by
   rw [List.take_add_one,List.getElem?_eq_getElem hj,List.filter_append]
   by_cases c:l[j].1=s
   ·simp [c]
   ·simp [c]
  rw [e]
  by_cases c:l[j].1=s
  ·simp -dsimp -implicitDefEqProofs only [↓STP,STQ,seval,List.length_map,eq_true lj,g,nmV,c,binS,bneS,beqS,eq_self,wi (show j < 9000000000000000000 by omega)]
  ·simp -dsimp -implicitDefEqProofs only [↓STP,STQ,seval,List.length_map,eq_true lj,g,nmV,eq_false c,binS,bneS,beqS,wi (show j < 9000000000000000000 by omega)]
   rw [Zd0 (sz:=5) (by simp) Zjg rfl (by decide) (by decide) (by rw [List.length_map]; omega)]
   simp -dsimp -implicitDefEqProofs only [↓STP,STQ,seval,wi (show j < 9000000000000000000 by omega)]
   rw [if_neg c,List.map_append]
   rfl
 ·have lj:¬ (l.length:Int) < (l.length:Int):=by omega
  simp -dsimp -implicitDefEqProofs only [↓STP,STQ,seval,List.length_map,eq_false lj]
  rw [List.take_length]
  exact hK
end
end YtljoifdccjcidaaDoor
end Go.Ab
namespace Go.Ab
structure Lr where
 x:Nat
 es:List (ByteArray × Kn)
 vc:Cap
 lc:Cap
 o:Option Nat
 wc:Cap
 rs:List (Nat × Nat)
def Lr.own (L:Lr):List Nat:=L.x :: (L.o.toList ++ L.rs.map (·.1))
def Lr.ov (L:Lr):V:=match L.o with
 | some id=>.ref id 0 L.rs.length 1
 | none=>.vec [] L.wc
def lps (σ:TE):List (ByteArray × Kn):=σ.loops.map fun r=>(r.1,kcon r.2)
def Lr.cs (p:Prg) (L:Lr) (σ:TS):List V:=[.vec (p.ins.map InD.v) .any,.vec (p.arrays.map ArD.v) .any,.vec (p.body.map Stm.v) .any,.vec (L.es.map nmV) L.vc,.vec ((lps σ.env).map nmV) L.lc,L.ov,I σ.steps,I σ.most,I σ.ifs]
structure Rt (p:Prg) (L:Lr) (σ:TS) (h:H):Prop where
 x:h.objs L.x=some (.cells (L.cs p σ))
 o:match L.o with
  | some id=>h.objs id=some (.cells (L.rs.map refV))
  | none=>L.rs=[]
 es:∀ s,Zaf s L.es=(σ.env.vars s).map fun r=>Kn.mk r.1 r.2 false 0
 len:L.rs.length=σ.env.words.length
 ws:∀ (i:Nat) (ws:List Nat),σ.env.words[i]?=some ws→∃ id,L.rs[i]?=some (id,ws.length)∧h.objs id=some (.cells (Zau ws))
 nd:L.own.Nodup
 lt:∀ id ∈ L.own,id < h.next
 vl:L.es.length ≤ σ.steps
 ll:σ.env.loops.length ≤ σ.steps
 cv:L.vc=.any∨L.vc=.full
 cl:L.lc=.any∨L.lc=.full
 cw:L.wc=.any∨L.wc=.full
structure Fw (L L':Lr) (h h':H):Prop where
 nx:h.next ≤ h'.next
 x:L'.x=L.x
 same:∀ id,id < h.next→id ∉ L.own→h'.objs id=h.objs id
 own:∀ id ∈ L'.own,id ∈ L.own∨h.next ≤ id
theorem Fw.refl (L:Lr) (h:H):Fw L L h h:=⟨Nat.le_refl _,rfl,fun _ _ _=>rfl,fun _ hi=>.inl hi⟩
theorem Fw.trans {L L' L'':Lr} {h h' h'':H} (a:Fw L L' h h') (b:Fw L' L'' h' h''):Fw L L'' h h'':=
 ⟨Nat.le_trans a.nx b.nx,b.x.trans a.x,fun id hl hn=>by
  rw [b.same id (Nat.lt_of_lt_of_le hl a.nx) (fun hi=>(a.own id hi).elim hn (fun hh=>absurd hl (Nat.not_lt.2 hh)))]
  exact a.same id hl hn,fun id hi=>(b.own id hi).elim (fun hh=>a.own id hh) (fun hh=>.inr (Nat.le_trans a.nx hh))⟩
theorem Lr.x_mem (L:Lr):L.x ∈ L.own:=by simp [Lr.own]
theorem Lr.o_mem {L:Lr} {id:Nat} (h:L.o=some id):id ∈ L.own:=by simp [Lr.own,h]
theorem Lr.r_mem {L:Lr} {r:Nat × Nat} (h:r ∈ L.rs):r.1 ∈ L.own:=by
 simp only [Lr.own,List.mem_cons,List.mem_append,List.mem_map]
 exact .inr (.inr ⟨r,h,rfl⟩)
theorem Rt.xo {p:Prg} {L:Lr} {σ:TS} {h:H} (A:Rt p L σ h) {id:Nat} (ho:L.o=some id):id ≠ L.x:=by
 have:=A.nd
 simp only [Lr.own,List.nodup_cons,List.mem_append,not_or,ho,Option.toList_some,List.mem_singleton] at this
 exact fun e=>this.1.1 e.symm
theorem Rt.xr {p:Prg} {L:Lr} {σ:TS} {h:H} (A:Rt p L σ h) {r:Nat × Nat} (hr:r ∈ L.rs):r.1 ≠ L.x:=by
 have:=A.nd
 simp only [Lr.own,List.nodup_cons,List.mem_append,not_or,List.mem_map] at this
 exact fun e=>this.1.2 ⟨r,hr,e⟩
theorem Rt.or {p:Prg} {L:Lr} {σ:TS} {h:H} (A:Rt p L σ h) {id:Nat} (ho:L.o=some id) {r:Nat × Nat} (hr:r ∈ L.rs):r.1 ≠ id:=by
 have:=A.nd
 simp only [Lr.own,List.nodup_cons,ho,Option.toList_some,List.cons_append,List.nil_append,List.mem_map] at this
 exact fun e=>this.2.1 ⟨r,hr,e⟩
theorem Rt.write {p:Prg} {L L':Lr} {σ σ':TS} {h:H} (A:Rt p L σ h) (hx:L'.x=L.x) (ho:L'.o=L.o) (hr:L'.rs=L.rs) (hw:σ'.env.words=σ.env.words)
  (es:∀ s,Zaf s L'.es=(σ'.env.vars s).map fun r=>Kn.mk r.1 r.2 false 0) (vl:L'.es.length ≤ σ'.steps) (ll:σ'.env.loops.length ≤ σ'.steps) (cv:L'.vc=.any∨L'.vc=.full) (cl:L'.lc=.any∨L'.lc=.full) (cw:L'.wc=.any∨L'.wc=.full) :
  Rt p L' σ' (h.set L.x (.cells (L'.cs p σ')))∧Fw L L' h (h.set L.x (.cells (L'.cs p σ'))):=by
 have hown:L'.own=L.own:=by unfold Lr.own; rw [hx,ho,hr]
 refine ⟨⟨by simp [Zaa,hx],?_,es,by rw [hr,hw]; exact A.len,fun i ws hi=>?_,by rw [hown]; exact A.nd,by rw [hown]; exact A.lt,vl,ll,cv,cl,cw⟩,⟨Nat.le_refl _,hx,fun id _ hn=>?_,fun id hi=>.inl (by rw [← hown]; exact hi)⟩⟩
 ·have h0:=A.o
  have hh:=fun id (e:L.o=some id)=>A.xo e
  rw [ho,hr]
  revert h0 hh
  cases L.o with
  | none=>intro h0 _; exact h0
  | some id=>intro h0 hh; show (h.set _ _).objs id=_; rw [Zaa,if_neg (hh id rfl)]; exact h0
 ·rw [hw] at hi
  obtain ⟨id,a,b⟩:=A.ws i ws hi
  refine ⟨id,by rw [hr]; exact a,?_⟩
  rw [Zaa,if_neg (A.xr (List.mem_of_getElem? a))]; exact b
 ·rw [Zaa,if_neg (fun e=>hn (by rw [e]; exact L.x_mem))]
theorem Rt.count {p:Prg} {L:Lr} {σ:TS} {h:H} (A:Rt p L σ h) (σ':TS) (he:σ'.env=σ.env) (hs:σ.steps ≤ σ'.steps):Rt p L σ' (h.set L.x (.cells (L.cs p σ')))∧Fw L L h (h.set L.x (.cells (L.cs p σ'))):=
 A.write rfl rfl rfl (by rw [he]) (by rw [he]; exact A.es) (Nat.le_trans A.vl hs) (by rw [he]; exact Nat.le_trans A.ll hs) A.cv A.cl A.cw
theorem Zkj {s:ByteArray} {l:List ByteArray}:(0 ≤ ixI s l) ↔ s ∈ l:=by
 unfold ixI
 cases h:l.findIdx? (fun a=>decide (a=s)) with
 | none =>
  rw [List.findIdx?_eq_none_iff] at h
  exact ⟨fun h'=>absurd h' (by decide),fun hm=>by have:=h s hm; simp at this⟩
 | some i =>
  obtain ⟨hi,h1,_⟩:=List.findIdx?_eq_some_iff_getElem.1 h
  exact ⟨fun _=>by have:l[i]=s:=of_decide_eq_true h1; rw [← this]; exact List.getElem_mem hi,fun _=>Int.natCast_nonneg i⟩
theorem ix_ins {p:Prg} {s:ByteArray}:(0 ≤ ixI s (p.ins.map InD.name)) ↔ (inOf p s).isSome=true:=by
 rw [Zkj,List.mem_map]
 unfold inOf
 rw [List.find?_isSome]
 exact ⟨fun ⟨d,h1,h2⟩=>⟨d,h1,by simpa using h2⟩,fun ⟨d,h1,h2⟩=>⟨d,h1,by simpa using h2⟩⟩
theorem ix_ars {p:Prg} {s:ByteArray}:ixI s (p.arrays.map ArD.name)=match arOf p s with | some i=>(i:Int) | none=>-1:=by
 unfold ixI arOf
 rw [List.findIdx?_map]
 rfl
theorem ix_find {s:ByteArray} {l:List (ByteArray × Kn)}:(0 ≤ ixI s (l.map (·.1))) ↔ (Zaf s l).isSome=true:=by
 rw [Zkj]
 induction l with
 | nil=>simp [Zaf]
 | cons a l ih =>
  obtain ⟨a,v⟩:=a
  simp only [List.map_cons,List.mem_cons,Zaf]
  by_cases h:a=s
  ·simp [h]
  ·rw [if_neg h]; rw [← ih]; exact ⟨fun h'=>h'.resolve_left (fun e=>h e.symm),fun h'=>.inr h'⟩
theorem ix_at {s:ByteArray} {l:List (ByteArray × Kn)} {k:Kn} (h:Zaf s l=some k):∃ i:Nat,ixI s (l.map (·.1))=i∧(l.map nmV)[i]?=some (nmV (s,k)):=by
 induction l with
 | nil=>simp [Zaf] at h
 | cons a l ih =>
  obtain ⟨a,v⟩:=a
  simp only [Zaf] at h
  by_cases c:a=s
  ·rw [if_pos c] at h; cases h
   exact ⟨0,by unfold ixI; simp [List.findIdx?_cons,c],by subst c; rfl⟩
  ·rw [if_neg c] at h
   obtain ⟨i,h1,h2⟩:=ih h
   refine ⟨i + 1,?_,h2⟩
   unfold ixI at h1 ⊢
   rw [List.map_cons,List.findIdx?_cons]
   simp only [c,decide_false,Bool.false_eq_true,if_false]
   revert h1
   cases List.findIdx? (fun a=>decide (a=s)) (l.map (·.1)) with
   | none=>intro h1; exact absurd h1 (by show ¬ (-1:Int)=_; omega)
   | some j=>intro h1; simp only [Option.map_some]; have:(j:Int)=i:=h1; show ((j + 1:Nat):Int)=_; omega
theorem findL_lps {s:ByteArray} {σ:TE}:Zaf s (lps σ)=(Zaf s σ.loops).map kcon:=by
 unfold lps
 induction σ.loops with
 | nil=>rfl
 | cons a l ih =>
  obtain ⟨a,v⟩:=a
  simp only [List.map_cons,Zaf]
  split
  ·rfl
  ·exact ih
theorem ix_in {p:Prg} {s:ByteArray} {d:InD} (h:inOf p s=some d):∃ i:Nat,ixI s (p.ins.map InD.name)=i∧(p.ins.map InD.v)[i]?=some d.v:=by
 unfold inOf at h
 unfold ixI
 rw [List.findIdx?_map]
 revert h
 induction p.ins with
 | nil=>intro h; cases h
 | cons a l ih =>
  intro h
  rw [List.find?_cons] at h
  by_cases c:a.name=s
  ·rw [decide_eq_true c] at h; cases h
   exact ⟨0,by simp [List.findIdx?_cons,c],rfl⟩
  ·rw [decide_eq_false c] at h
   obtain ⟨i,h1,h2⟩:=ih h
   refine ⟨i + 1,?_,h2⟩
   rw [List.findIdx?_cons]
   simp only [Function.comp,c,decide_false,Bool.false_eq_true,if_false]
   revert h1
   simp only [Function.comp_def]
   cases List.findIdx? (fun x:InD=>decide (x.name=s)) l with
   | none=>intro h1; exact absurd h1 (by show ¬ (-1:Int)=_; omega)
   | some j=>intro h1; simp only [Option.map_some]; have:(j:Int)=i:=h1; show ((j + 1:Nat):Int)=_; omega
namespace YtljoifdccjcidaaDoor
section
variable {h:H} {K:Out→H→Prop} {p:Prg} {L:Lr} {σ:TS}
theorem takenR {s:ByteArray} (okp:POk p) (A:Rt p L σ h) (hs:σ.steps ≤ 10000) (hK:K (.ret (.bool (Zdc p σ.env s))) h):R 95 [.ptr L.x 0,.str s] h K:=by
 refine run95 (Nat.le_of_ble_eq_true rfl) ?_
 have gx:=Zai A.x
 have hv0:V.agg [.vec (p.ins.map InD.v) .any,.vec (p.arrays.map ArD.v) .any,.vec (p.body.map Stm.v) .any]=p.v:=rfl
 have m1:p.ins.length ≤ 9223372036854775807:=by have:=okp.li; unfold maxLen at this; omega
 have m2:p.arrays.length ≤ 9223372036854775807:=by have:=okp.la; unfold maxLen at this; omega
 have m3:(lps σ.env).length ≤ 9223372036854775807:=by have:=A.ll; unfold lps; rw [List.length_map]; omega
 have i1:=@ix_ins p s
 have i2:=@Zkj s (p.arrays.map ArD.name)
 have i2':(arOf p s).isSome=true ↔ s ∈ p.arrays.map ArD.name:=by
  rw [← i2,ix_ars]
  cases arOf p s with
  | none=>exact ⟨fun h=>Bool.noConfusion h,fun h=>absurd h (show ¬ (0:Int) ≤ -1 by decide)⟩
  | some i=>exact ⟨fun _=>Int.natCast_nonneg i,fun _=>rfl⟩
 have i3:=@ix_find s (lps σ.env)
 rw [findL_lps,Option.isSome_map] at i3
 rw [← i2'] at i2
 unfold Zdc at hK
 simp -dsimp -implicitDefEqProofs only [↓STP,STQ,seval,ir95,gx,Lr.cs]
 rw [hv0]
 refine inputR m1 ?_
 cases c1:(inOf p s).isSome with
 | true =>
  simp -dsimp -implicitDefEqProofs only [↓STP,STQ,seval,eq_true (i1.2 c1)]
  rw [c1] at hK
  exact hK
 | false =>
  rw [c1] at hK i1
  simp -dsimp -implicitDefEqProofs only [↓STP,STQ,seval,eq_false (show ¬ 0 ≤ ixI s (p.ins.map InD.name) from fun h=>by have:=i1.1 h; cases this),gx,Lr.cs]
  rw [hv0]
  refine arrayR m2 ?_
  cases c2:(arOf p s).isSome with
  | true =>
   simp -dsimp -implicitDefEqProofs only [↓STP,STQ,seval,eq_true (i2.2 c2)]
   rw [c2] at hK
   exact hK
  | false =>
   rw [c2] at hK i2
   simp -dsimp -implicitDefEqProofs only [↓STP,STQ,seval,eq_false (show ¬ 0 ≤ ixI s (p.arrays.map ArD.name) from fun h=>by have:=i2.1 h; cases this),gx,Lr.cs]
   refine findR m3 ?_
   cases c3:(Zaf s σ.env.loops).isSome with
   | true =>
    simp -dsimp -implicitDefEqProofs only [↓STP,STQ,seval,eq_true (i3.2 c3)]
    rw [c3] at hK
    exact hK
   | false =>
    rw [c3] at hK i3
    simp -dsimp -implicitDefEqProofs only [↓STP,STQ,seval,eq_false (show ¬ 0 ≤ ixI s ((lps σ.env).map (·.1)) from fun h=>by have:=i3.1 h; cases this)]
    exact hK
theorem stepR (A:Rt p L σ h) (hs:σ.steps ≤ 10000) (hK:Ans (Zg7 σ) (fun σ'=>∀ h',Rt p L σ' h'→Fw L L h h'→K (.ret (I 0)) h') (fun e=>K (.ret (I e)) h)):R 93 [.ptr L.x 0] h K:=by
 refine run93 (Nat.le_of_ble_eq_true rfl) ?_
 have gx:=Zai A.x
 unfold Zg7 at hK
 by_cases c:10000 ≤ σ.steps
 ·have c':(10000:Int) ≤ (σ.steps:Int):=by omega
  rw [if_pos c] at hK
  simp -dsimp -implicitDefEqProofs only [↓STP,STQ,seval,ir93,gx,Lr.cs,eq_true c']
  exact hK
 ·have c':¬ (10000:Int) ≤ (σ.steps:Int):=by omega
  rw [if_neg c] at hK
  have w1:IntKind.i64.wrap ((σ.steps:Int) + 1)=((σ.steps + 1:Nat):Int):=by rw [wrap_i64] <;> omega
  simp -dsimp -implicitDefEqProofs only [↓STP,STQ,seval,ir93,gx,Lr.cs,eq_false c',w1,Zae]
  obtain ⟨A',F⟩:=A.count { σ with steps:=σ.steps + 1 } rfl (Nat.le_succ _)
  exact hK _ A' F
end
end YtljoifdccjcidaaDoor
end Go.Ab
namespace Go.Ab
theorem Zkk {p:Prg} {s:ByteArray} (h:inOf p s=none):¬ 0 ≤ ixI s (p.ins.map InD.name):=fun h'=>by
 have:=ix_ins.1 h'
 rw [h] at this; cases this
theorem Zdv {s:ByteArray} {l:List (ByteArray × Kn)} (h:Zaf s l=none):¬ 0 ≤ ixI s (l.map (·.1)):=fun h'=>by
 have:=ix_find.1 h'
 rw [h] at this; cases this
theorem Zdp {d:ArD}:d.v=.agg [.str d.name,I d.size]:=rfl
theorem Zgz (i:Nat):(0:Int) ≤ (i:Int):=Int.natCast_nonneg i
def zkn:Kn:=⟨0,0,false,0⟩
theorem Rt.outer {p:Prg} {L:Lr} {σ:TS} {h:H} (A:Rt p L σ h) {i:Nat} {ws:List Nat} (hi:σ.env.words[i]?=some ws) :
  ∃ o id,L.ov=.ref o 0 L.rs.length 1∧h.get o=some (L.rs.map refV)∧(L.rs.map refV)[i]?=some (.ref id 0 ws.length 1)∧i < L.rs.length∧h.get id=some (Zau ws):=by
 obtain ⟨id,a,b⟩:=A.ws i ws hi
 have hlt:i < L.rs.length:=by
  rcases Nat.lt_or_ge i L.rs.length with h' | h'
  ·exact h'
  ·rw [List.getElem?_eq_none h'] at a; cases a
 have h0:=A.o
 cases ho:L.o with
 | none =>
  rw [ho] at h0
  simp only at h0
  rw [h0] at hlt; exact absurd hlt (Nat.not_lt_zero _)
 | some o =>
  rw [ho] at h0
  refine ⟨o,id,by unfold Lr.ov; rw [ho],Zai h0,?_,hlt,Zai b⟩
  rw [List.getElem?_map,a]; rfl
namespace YtljoifdccjcidaaDoor
section
variable {h:H} {K:Out→H→Prop} {p:Prg} {L:Lr} {σ:TS}
theorem variableR {s:ByteArray} (okp:POk p) (hp:PV p) (A:Rt p L σ h) (hs:σ.steps ≤ 10000) (hK:Ans (Zkh p σ.env s) (fun k=>K (.ret (.tuple [k.v,I 0])) h) (fun e=>∀ k:Kn,K (.ret (.tuple [k.v,I e])) h)):R 110 [.ptr L.x 0,.str s] h K:=by
 refine run110 (Nat.le_of_ble_eq_true rfl) ?_
 have gx:=Zai A.x
 have hv0:V.agg [.vec (p.ins.map InD.v) .any,.vec (p.arrays.map ArD.v) .any,.vec (p.body.map Stm.v) .any]=p.v:=rfl
 have m1:p.ins.length ≤ 9223372036854775807:=by have:=okp.li; unfold maxLen at this; omega
 have m3:(lps σ.env).length ≤ 9223372036854775807:=by have:=A.ll; unfold lps; rw [List.length_map]; omega
 have m4:L.es.length ≤ 9223372036854775807:=by have:=A.vl; omega
 unfold Zkh at hK
 simp -dsimp -implicitDefEqProofs only [↓STP,STQ,seval,ir110,gx,Lr.cs]
 refine findR m3 ?_
 have e3:=@findL_lps s σ.env
 cases c1:Zaf s σ.env.loops with
 | some n =>
  rw [c1] at hK e3
  obtain ⟨i,h1,h2⟩:=ix_at e3
  rw [h1]
  simp -dsimp -implicitDefEqProofs only [↓STP,STQ,seval,eq_true (Zgz i),gx,Lr.cs,h2,nmV,Zae]
  exact hK
 | none =>
  rw [c1] at hK e3
  simp -dsimp -implicitDefEqProofs only [↓STP,STQ,seval,eq_false (Zdv e3),gx,Lr.cs]
  refine findR m4 ?_
  have e4:=A.es s
  cases c2:σ.env.vars s with
  | some r =>
   obtain ⟨k,w⟩:=r
   rw [c2] at hK e4
   obtain ⟨i,h1,h2⟩:=ix_at e4
   rw [h1]
   simp -dsimp -implicitDefEqProofs only [↓STP,STQ,seval,eq_true (Zgz i),gx,Lr.cs,h2,nmV,Zae]
   exact hK
  | none =>
   rw [c2] at hK e4
   simp -dsimp -implicitDefEqProofs only [↓STP,STQ,seval,eq_false (Zdv e4),gx,Lr.cs]
   rw [hv0]
   refine inputR m1 ?_
   cases c3:inOf p s with
   | none =>
    rw [c3] at hK
    simp -dsimp -implicitDefEqProofs only [↓STP,STQ,seval,eq_false (Zkk c3),Zae]
    exact hK zkn
   | some d =>
    rw [c3] at hK
    obtain ⟨i,h1,h2⟩:=ix_in c3
    rw [h1]
    have hd:=hp.ins d (Zcn c3).1
    simp only at hK
    by_cases cs:d.size=0
    ·rw [if_pos cs] at hK
     have hw:d.width=((d.width.toNat:Nat):Int):=by omega
     simp -dsimp -implicitDefEqProofs only [↓STP,STQ,seval,eq_true (Zgz i),gx,Lr.cs,h2,Zam,eq_true cs]
     rw [hw]
     refine numberR ?_
     simp -dsimp -implicitDefEqProofs only [↓STP,STQ,seval,Zae,Zab]
     exact hK
    ·rw [if_neg cs] at hK
     simp -dsimp -implicitDefEqProofs only [↓STP,STQ,seval,eq_true (Zgz i),gx,Lr.cs,h2,Zam,eq_false cs,Zae]
     exact hK zkn
theorem indexR {s:ByteArray} {k:Kn} (okp:POk p) (hp:PV p) (A:Rt p L σ h) (ok:EOkT p σ.env) (hv:KOk k) (hK:Ans (Zeh p σ.env s k) (fun k=>K (.ret (.tuple [k.v,I 0])) h) (fun e=>∀ k:Kn,K (.ret (.tuple [k.v,I e])) h)):R 111 [.ptr L.x 0,.str s,k.v] h K:=by
 refine run111 (Nat.le_of_ble_eq_true rfl) ?_
 have gx:=Zai A.x
 have hv0:V.agg [.vec (p.ins.map InD.v) .any,.vec (p.arrays.map ArD.v) .any,.vec (p.body.map Stm.v) .any]=p.v:=rfl
 have m1:p.ins.length ≤ 9223372036854775807:=by have:=okp.li; unfold maxLen at this; omega
 have m2:p.arrays.length ≤ 9223372036854775807:=by have:=okp.la; unfold maxLen at this; omega
 unfold Zeh at hK
 simp -dsimp -implicitDefEqProofs only [↓STP,STQ,seval,ir111,Zab,gx,Lr.cs]
 rw [hv0]
 refine inputR m1 ?_
 simp -dsimp -implicitDefEqProofs only [↓STP,STQ,seval,gx,Lr.cs,hv0.symm,eq_self]
 rw [hv0]
 refine arrayR m2 ?_
 have e2:=@ix_ars p s
 cases c2:arOf p s with
 | some i =>
  rw [c2] at e2 hK
  simp only at e2 hK
  rw [e2]
  obtain ⟨d,hd,hn,hg⟩:=Zcq c2
  rw [hg] at hK
  have hds:=hp.ars d (List.mem_of_getElem? hd)
  have hdv:(p.arrays.map ArD.v)[i]?=some d.v:=by rw [List.getElem?_map,hd]; rfl
  have hwl:i < σ.env.words.length:=by
   rw [ok.wlen]
   rcases Nat.lt_or_ge i p.arrays.length with h' | h'
   ·exact h'
   ·rw [List.getElem?_eq_none h'] at hd; cases hd
  have hws:=List.getElem?_eq_getElem hwl
  generalize σ.env.words[i]=ws at hws
  have hlen:=(ok.words i ws d hws hd).1
  simp -dsimp -implicitDefEqProofs only [↓STP,STQ,seval,eq_true (Zgz i),gx,Lr.cs,hdv,Zdp]
  rw [show (V.agg [I k.kind,I k.w,.bool k.is,W k.val])=k.v from rfl]
  refine placeR (by omega) (by omega) hv.lt ?_
  cases hpl:Zb6 k d.size with
  | error e =>
   rw [hpl] at hK
   simp only [Zbq,Zgn] at hK ⊢
   have he:e ≠ 0:=by
    unfold Zb6 at hpl
    split at hpl
    ·cases hpl; decide
    ·split at hpl
     ·cases hpl; decide
     ·cases hpl
   simp -dsimp -implicitDefEqProofs only [↓STP,STQ,seval,eq_false he,Zae]
   exact hK zkn
  | ok n =>
   rw [hpl] at hK
   simp only [Zda,Zat] at hK ⊢
   have hn:n < ws.length:=by
    unfold Zb6 at hpl
    split at hpl
    ·cases hpl
    ·split at hpl
     ·cases hpl
     ·cases hpl; omega
   obtain ⟨o,id,o1,o2,o3,o4,o5⟩:=A.outer hws
   have hnI:((n:Nat):Int) < ((ws.length:Nat):Int):=by omega
   have hiI:((i:Nat):Int) < ((L.rs.length:Nat):Int):=by omega
   simp -dsimp -implicitDefEqProofs only [↓STP,STQ,seval,gx,Lr.cs,o1,o2,o3,o5,eq_true hiI,Zcv hn,eq_true hnI,Nat.mul_one]
   refine numberR ?_
   simp -dsimp -implicitDefEqProofs only [↓STP,STQ,seval,Zae,Zab]
   have hgw:σ.env.words.getD i []=ws:=by rw [List.getD_eq_getElem?_getD,hws]; rfl
   rw [hgw] at hK
   exact hK
 | none =>
  rw [c2] at e2 hK
  simp only at e2 hK
  rw [e2]
  cases c1:inOf p s with
  | none =>
   rw [c1] at hK
   have hneg:ixI s (p.ins.map InD.name) < 0:=by have:=Zkk c1; omega
   simp -dsimp -implicitDefEqProofs only [↓STP,STQ,seval,eq_true hneg,Zae]
   exact hK zkn
  | some d =>
   rw [c1] at hK
   obtain ⟨i,h1,h2⟩:=ix_in c1
   rw [h1]
   have hd:=hp.ins d (Zcn c1).1
   have hneg:¬ (i:Int) < 0:=by omega
   simp only at hK
   by_cases cs:d.size=0
   ·rw [if_pos cs] at hK
    simp -dsimp -implicitDefEqProofs only [↓STP,STQ,seval,eq_false hneg,gx,Lr.cs,h2,Zam,eq_true cs,Zae]
    exact hK zkn
   ·rw [if_neg cs] at hK
    have hw:d.width=((d.width.toNat:Nat):Int):=by omega
    simp -dsimp -implicitDefEqProofs only [↓STP,STQ,seval,eq_false hneg,gx,Lr.cs,h2,Zam,eq_false cs,Zae]
    rw [show (V.agg [I k.kind,I k.w,.bool k.is,W k.val])=k.v from rfl]
    refine placeR (by omega) (by omega) hv.lt ?_
    cases hpl:Zb6 k d.size with
    | error e =>
     rw [hpl] at hK
     simp only [Zbq,Zgn] at hK ⊢
     simp -dsimp -implicitDefEqProofs only [↓STP,STQ,seval,gx,Lr.cs,h2,Zam]
     rw [hw]
     refine numberR ?_
     simp -dsimp -implicitDefEqProofs only [↓STP,STQ,seval,Zae,Zab]
     exact hK (knum d.width.toNat)
    | ok n =>
     rw [hpl] at hK
     simp only [Zda,Zat] at hK ⊢
     simp -dsimp -implicitDefEqProofs only [↓STP,STQ,seval,gx,Lr.cs,h2,Zam]
     rw [hw]
     refine numberR ?_
     simp -dsimp -implicitDefEqProofs only [↓STP,STQ,seval,Zae,Zab]
     exact hK
theorem opR {o:Int} {a b:Kn} (o1:1 ≤ o) (o2:o ≤ 7) (ha:KOk a) (hb:KOk b)
  (hK:Ans (opK o a b) (fun r=>∀ v:Nat,(r.w ≤ 60→v=r.val)→K (.ret (.tuple [({ r with val:=v }:Kn).v,I 0])) h) (fun e=>∀ k:Kn,K (.ret (.tuple [k.v,I e])) h)):R 112 [I o,a.v,b.v] h K:=by
 refine run112 (Nat.le_of_ble_eq_true rfl) ?_
 have oo:o=1∨o=2∨o=3∨o=4∨o=5∨o=6∨o=7:=by omega
 have hal:=ha.lt
 have hbl:=hb.lt
 have haw:=ha.w
 have hbw:=hb.w
 have hm:(if (b.w:Int) > (a.w:Int) then (b.w:Int) else (a.w:Int))=((max a.w b.w:Nat):Int):=by split <;> omega
 have w1:IntKind.i64.wrap (((max a.w b.w:Nat):Int) + 1)=((max a.w b.w + 1:Nat):Int):=by rw [wrap_i64] <;> omega
 have w2:IntKind.i64.wrap ((a.w:Int) + (b.w:Int))=((a.w + b.w:Nat):Int):=by rw [wrap_i64] <;> omega
 have w3:=wuadd (show a.val + b.val < 18446744073709551616 by omega)
 have w4:IntKind.u64.wrap ((a.val:Int) * (b.val:Int))=((a.val * b.val % 18446744073709551616:Nat):Int):=by rw [Zmp,← Int.natCast_mul]; exact (Int.natCast_emod _ _).symm
 have pm:a.w + b.w ≤ 60→a.val * b.val % 18446744073709551616=a.val * b.val:=fun hw=>by
  have h1:a.val * b.val < 2 ^ (a.w + b.w):=by rw [Nat.pow_add]; exact Nat.mul_lt_mul'' ha.val hb.val
  have h2:2 ^ (a.w + b.w) ≤ 2 ^ 60:=Nat.pow_le_pow_right (by decide) hw
  exact Nat.mod_eq_of_lt (by omega)
 have ka:=ha.kind
 have kb:=hb.kind
 have t12:¬ (1:Int)=2:=by decide
 unfold opK at hK
 rcases oo with rfl | rfl | rfl | rfl | rfl | rfl | rfl
 ·rw [show Zbt 1=1 from by decide] at hK
  rcases ka with ka | ka
  rotate_left
  ·rw [if_pos (.inl (by rw [ka]; decide))] at hK
   simp -dsimp -implicitDefEqProofs only [↓STP,STQ,seval,ir112,Zab,ka,Zae]
   exact hK zkn
  rcases kb with kb | kb
  rotate_left
  ·rw [if_pos (.inr (by rw [kb]; decide))] at hK
   simp -dsimp -implicitDefEqProofs only [↓STP,STQ,seval,ir112,Zab,ka,kb,Zae]
   exact hK zkn
  rw [if_neg (by simp [ka,kb]),if_pos rfl] at hK
  cases ca:a.is <;> cases cb:b.is <;> rw [ca,cb] at hK
  ·simp -dsimp -implicitDefEqProofs only [↓STP,STQ,seval,ir112,Zab,ka,kb,Zae,ca,cb,Zbf,hm,w1]
   exact hK 0 (fun _=>rfl)
  ·simp -dsimp -implicitDefEqProofs only [↓STP,STQ,seval,ir112,Zab,ka,kb,Zae,ca,cb,Zbf,hm,w1]
   exact hK 0 (fun _=>rfl)
  ·simp -dsimp -implicitDefEqProofs only [↓STP,STQ,seval,ir112,Zab,ka,kb,Zae,ca,cb,Zbf,hm,w1]
   exact hK 0 (fun _=>rfl)
  ·by_cases c60:((max a.w b.w + 1:Nat):Int) ≤ 60
   ·simp -dsimp -implicitDefEqProofs only [↓STP,STQ,seval,ir112,Zab,ka,kb,Zae,ca,cb,Zbf,hm,w1,eq_true c60,w3]
    exact hK _ (fun hw=>rfl)
   ·simp -dsimp -implicitDefEqProofs only [↓STP,STQ,seval,ir112,Zab,ka,kb,Zae,ca,cb,Zbf,hm,w1,eq_false c60]
    exact hK 0 (fun hw=>absurd (show max a.w b.w + 1 ≤ 60 from hw) (by omega))
 ·rw [show Zbt 2=1 from by decide] at hK
  rcases ka with ka | ka
  rotate_left
  ·rw [if_pos (.inl (by rw [ka]; decide))] at hK
   simp -dsimp -implicitDefEqProofs only [↓STP,STQ,seval,ir112,Zab,ka,Zae]
   exact hK zkn
  rcases kb with kb | kb
  rotate_left
  ·rw [if_pos (.inr (by rw [kb]; decide))] at hK
   simp -dsimp -implicitDefEqProofs only [↓STP,STQ,seval,ir112,Zab,ka,kb,Zae]
   exact hK zkn
  rw [if_neg (by simp [ka,kb]),if_neg (by decide),if_pos rfl] at hK
  cases ca:a.is <;> cases cb:b.is <;> rw [ca,cb] at hK
  ·simp -dsimp -implicitDefEqProofs only [↓STP,STQ,seval,ir112,Zab,ka,kb,Zae,ca,cb,Zbf]
   exact hK 0 (fun _=>rfl)
  ·simp -dsimp -implicitDefEqProofs only [↓STP,STQ,seval,ir112,Zab,ka,kb,Zae,ca,cb,Zbf]
   exact hK 0 (fun _=>rfl)
  ·simp -dsimp -implicitDefEqProofs only [↓STP,STQ,seval,ir112,Zab,ka,kb,Zae,ca,cb,Zbf]
   exact hK 0 (fun _=>rfl)
  ·have c60:(a.w:Int) ≤ 60:=by omega
   by_cases c:(b.val:Int) ≤ (a.val:Int)
   ·have w5:IntKind.u64.wrap ((a.val:Int) - (b.val:Int))=((a.val - b.val:Nat):Int):=by rw [Zaq] <;> omega
    simp -dsimp -implicitDefEqProofs only [↓STP,STQ,seval,ir112,Zab,ka,kb,Zae,ca,cb,eq_true c60,eq_true c,w5]
    exact hK _ (fun _=>rfl)
   ·simp -dsimp -implicitDefEqProofs only [↓STP,STQ,seval,ir112,Zab,ka,kb,Zae,ca,cb,eq_true c60,eq_false c]
    exact hK 0 (fun _=>by show 0=a.val - b.val; omega)
 ·rw [show Zbt 3=1 from by decide] at hK
  rcases ka with ka | ka
  rotate_left
  ·rw [if_pos (.inl (by rw [ka]; decide))] at hK
   simp -dsimp -implicitDefEqProofs only [↓STP,STQ,seval,ir112,Zab,ka,Zae]
   exact hK zkn
  rcases kb with kb | kb
  rotate_left
  ·rw [if_pos (.inr (by rw [kb]; decide))] at hK
   simp -dsimp -implicitDefEqProofs only [↓STP,STQ,seval,ir112,Zab,ka,kb,Zae]
   exact hK zkn
  rw [if_neg (by simp [ka,kb]),if_neg (by decide),if_neg (by decide),if_pos rfl] at hK
  cases ca:a.is <;> cases cb:b.is <;> rw [ca,cb] at hK
  ·simp -dsimp -implicitDefEqProofs only [↓STP,STQ,seval,ir112,Zab,ka,kb,Zae,ca,cb,w2]
   exact hK 0 (fun _=>rfl)
  ·simp -dsimp -implicitDefEqProofs only [↓STP,STQ,seval,ir112,Zab,ka,kb,Zae,ca,cb,w2]
   exact hK 0 (fun _=>rfl)
  ·simp -dsimp -implicitDefEqProofs only [↓STP,STQ,seval,ir112,Zab,ka,kb,Zae,ca,cb,w2]
   exact hK 0 (fun _=>rfl)
  ·by_cases c60:((a.w + b.w:Nat):Int) ≤ 60
   ·simp -dsimp -implicitDefEqProofs only [↓STP,STQ,seval,ir112,Zab,ka,kb,Zae,ca,cb,w2,eq_true c60,w4]
    exact hK _ (fun hw=>pm hw)
   ·simp -dsimp -implicitDefEqProofs only [↓STP,STQ,seval,ir112,Zab,ka,kb,Zae,ca,cb,w2,eq_false c60]
    exact hK 0 (fun hw=>absurd (show a.w + b.w ≤ 60 from hw) (by omega))
 ·rw [show Zbt 4=1 from by decide] at hK
  rcases ka with ka | ka
  rotate_left
  ·rw [if_pos (.inl (by rw [ka]; decide))] at hK
   simp -dsimp -implicitDefEqProofs only [↓STP,STQ,seval,ir112,Zab,ka,Zae]
   exact hK zkn
  rcases kb with kb | kb
  rotate_left
  ·rw [if_pos (.inr (by rw [kb]; decide))] at hK
   simp -dsimp -implicitDefEqProofs only [↓STP,STQ,seval,ir112,Zab,ka,kb,Zae]
   exact hK zkn
  rw [if_neg (by simp [ka,kb]),if_neg (by decide),if_neg (by decide),if_neg (by decide)] at hK
  cases ca:a.is <;> cases cb:b.is
  all_goals
   simp -dsimp -implicitDefEqProofs only [↓STP,STQ,seval,ir112,Zab,ka,kb,Zae,ca,cb]
   exact hK 0 (fun _=>rfl)
 ·rw [show Zbt 5=1 from by decide] at hK
  rcases ka with ka | ka
  rotate_left
  ·rw [if_pos (.inl (by rw [ka]; decide))] at hK
   simp -dsimp -implicitDefEqProofs only [↓STP,STQ,seval,ir112,Zab,ka,Zae]
   exact hK zkn
  rcases kb with kb | kb
  rotate_left
  ·rw [if_pos (.inr (by rw [kb]; decide))] at hK
   simp -dsimp -implicitDefEqProofs only [↓STP,STQ,seval,ir112,Zab,ka,kb,Zae]
   exact hK zkn
  rw [if_neg (by simp [ka,kb]),if_neg (by decide),if_neg (by decide),if_neg (by decide)] at hK
  cases ca:a.is <;> cases cb:b.is
  all_goals
   simp -dsimp -implicitDefEqProofs only [↓STP,STQ,seval,ir112,Zab,ka,kb,Zae,ca,cb]
   exact hK 0 (fun _=>rfl)
 ·rw [show Zbt 6=2 from by decide] at hK
  rcases ka with ka | ka
  ·rw [if_pos (.inl (by rw [ka]; decide))] at hK
   simp -dsimp -implicitDefEqProofs only [↓STP,STQ,seval,ir112,Zab,ka,Zae]
   exact hK zkn
  rcases kb with kb | kb
  ·rw [if_pos (.inr (by rw [kb]; decide))] at hK
   simp -dsimp -implicitDefEqProofs only [↓STP,STQ,seval,ir112,Zab,ka,kb,Zae]
   exact hK zkn
  rw [if_neg (by simp [ka,kb]),if_neg (by decide),if_neg (by decide),if_neg (by decide)] at hK
  cases ca:a.is <;> cases cb:b.is
  all_goals
   simp -dsimp -implicitDefEqProofs only [↓STP,STQ,seval,ir112,Zab,ka,kb,Zae,ca,cb]
   exact hK 0 (fun _=>rfl)
 ·rw [show Zbt 7=2 from by decide] at hK
  rcases ka with ka | ka
  ·rw [if_pos (.inl (by rw [ka]; decide))] at hK
   simp -dsimp -implicitDefEqProofs only [↓STP,STQ,seval,ir112,Zab,ka,Zae]
   exact hK zkn
  rcases kb with kb | kb
  ·rw [if_pos (.inr (by rw [kb]; decide))] at hK
   simp -dsimp -implicitDefEqProofs only [↓STP,STQ,seval,ir112,Zab,ka,kb,Zae]
   exact hK zkn
  rw [if_neg (by simp [ka,kb]),if_neg (by decide),if_neg (by decide),if_neg (by decide)] at hK
  cases ca:a.is <;> cases cb:b.is
  all_goals
   simp -dsimp -implicitDefEqProofs only [↓STP,STQ,seval,ir112,Zab,ka,kb,Zae,ca,cb]
   exact hK 0 (fun _=>rfl)
end
end YtljoifdccjcidaaDoor
end Go.Ab
namespace Go.Ab
namespace YtljoifdccjcidaaDoor
section
variable {K:Out→H→Prop} {p:Prg} {L:Lr}
theorem madeR {σ:TS} {h:H} {k o:Int} {n:Nat} {s:ByteArray} {ks:List Exp} {l:List Kn} {lv:Nat} (okp:POk p) (hp:PV p) (A:Rt p L σ h) (okt:TOk p σ) (hv:VE (.mk k o n s ks) lv) (hll:l.length=ks.length) (hkl:∀ k ∈ l,KOk k)
  (hK:Ans (Zgt p σ.env k o n s l) (fun r=>∀ v:Nat,(r.w ≤ 60→v=r.val)→K (.ret (.tuple [({ r with val:=v }:Kn).v,I 0])) h) (fun e=>∀ k:Kn,K (.ret (.tuple [k.v,I e])) h)) :
  R 109 [.ptr L.x 0,(Exp.mk k o n s ks).v,.vec (l.map Kn.v) .any] h K:=by
 obtain ⟨v1,v2,v3,v4,v5,v6,v7,v8,v9⟩:=VE_mk.1 hv
 have hn':n < 1152921504606846976:=by omega
 have okn:=fun i=>Zbl hkl i
 have hkk:k=1∨k=2∨k=3∨k=4∨k=5∨k=6:=by
  unfold Zbs at v2
  repeat' split at v2
  all_goals omega
 refine run109 (Nat.le_of_ble_eq_true rfl) ?_
 have t12:¬ (1:Int)=2:=by decide
 unfold Zgt at hK
 rcases hkk with rfl | rfl | rfl | rfl | rfl | rfl
 ·rw [if_pos rfl] at hK
  simp -dsimp -implicitDefEqProofs only [↓STP,STQ,seval,Exp.v_mk,ir109]
  refine exactR (by omega) ?_
  simp -dsimp -implicitDefEqProofs only [↓STP,STQ,seval,Zae,Zab]
  exact hK _ (fun _=>rfl)
 ·rw [if_neg (by decide),if_pos rfl] at hK
  simp -dsimp -implicitDefEqProofs only [↓STP,STQ,seval,Exp.v_mk,ir109]
  refine variableR okp hp A okt.steps ?_
  refine Zc2 hK (fun k hk=>?_) (fun e he k=>?_)
  ·simp -dsimp -implicitDefEqProofs only [↓STP,STQ,seval,Zae,Zab]
   exact hk _ (fun _=>rfl)
  ·simp -dsimp -implicitDefEqProofs only [↓STP,STQ,seval,Zae,Zab]
   exact he k
 ·rw [if_neg (by decide),if_neg (by decide),if_pos rfl] at hK
  have hl1:l.length=1:=by rw [hll]; have:Zbs 3=1:=rfl; omega
  have g0:=Zbj (l:=l) (i:=0) (by omega)
  simp -dsimp -implicitDefEqProofs only [↓STP,STQ,seval,Exp.v_mk,ir109,g0,Kn.v_clen,Kn.v_mkEl]
  refine indexR okp hp A okt.env (okn 0) ?_
  refine Zc2 hK (fun k hk=>?_) (fun e he k=>?_)
  ·simp -dsimp -implicitDefEqProofs only [↓STP,STQ,seval,Zae,Zab]
   exact hk _ (fun _=>rfl)
  ·simp -dsimp -implicitDefEqProofs only [↓STP,STQ,seval,Zae,Zab]
   exact he k
 ·rw [if_neg (by decide),if_neg (by decide),if_neg (by decide),if_pos rfl] at hK
  have hl1:l.length=2:=by rw [hll]; have:Zbs 4=2:=rfl; omega
  have g0:=Zbj (l:=l) (i:=0) (by omega)
  have g1:=Zbj (l:=l) (i:=1) (by omega)
  obtain ⟨o1,o2⟩:=v5 rfl
  simp -dsimp -implicitDefEqProofs only [↓STP,STQ,seval,Exp.v_mk,ir109,g0,g1,Kn.v_clen,Kn.v_mkEl]
  refine opR o1 o2 (okn 0) (okn 1) ?_
  refine Zc2 hK (fun k hk v hv=>?_) (fun e he k=>?_)
  ·simp -dsimp -implicitDefEqProofs only [↓STP,STQ,seval,Zae,Zab]
   exact hk v hv
  ·simp -dsimp -implicitDefEqProofs only [↓STP,STQ,seval,Zae,Zab]
   exact he k
 ·rw [if_neg (by decide),if_neg (by decide),if_neg (by decide),if_neg (by decide),if_pos rfl] at hK
  have hl1:l.length=1:=by rw [hll]; have:Zbs 5=1:=rfl; omega
  have g0:=Zbj (l:=l) (i:=0) (by omega)
  by_cases c:(nthK l 0).kind=2
  ·rw [if_neg (by simp [c])] at hK
   simp -dsimp -implicitDefEqProofs only [↓STP,STQ,seval,Exp.v_mk,ir109,g0,Kn.v_clen,Kn.v_mkEl,Zab,eq_true c,Zae]
   exact hK 0 (fun _=>rfl)
  ·rw [if_pos c] at hK
   simp -dsimp -implicitDefEqProofs only [↓STP,STQ,seval,Exp.v_mk,ir109,g0,Kn.v_clen,Kn.v_mkEl,Zab,eq_false c,Zae]
   exact hK zkn
 ·rw [if_neg (by decide),if_neg (by decide),if_neg (by decide),if_neg (by decide),if_neg (by decide)] at hK
  have hl1:l.length=3:=by rw [hll]; have:Zbs 6=3:=rfl; omega
  have g0:=Zbj (l:=l) (i:=0) (by omega)
  have g1:=Zbj (l:=l) (i:=1) (by omega)
  have g2:=Zbj (l:=l) (i:=2) (by omega)
  have hmx:(if ((nthK l 2).w:Int) > ((nthK l 1).w:Int) then ((nthK l 2).w:Int) else ((nthK l 1).w:Int))=((max (nthK l 1).w (nthK l 2).w:Nat):Int):=by split <;> omega
  by_cases c:(nthK l 0).kind=2
  ·by_cases c2:(nthK l 1).kind=(nthK l 2).kind
   ·rw [if_neg (by simp [c,c2])] at hK
    simp -dsimp -implicitDefEqProofs only [↓STP,STQ,seval,Exp.v_mk,ir109,g0,g1,g2,Kn.v_clen,Kn.v_mkEl,Zab,eq_true c,eq_true c2,Zbf,hmx,Zae]
    exact hK 0 (fun _=>rfl)
   ·rw [if_pos (.inr (fun e=>c2 e.symm))] at hK
    simp -dsimp -implicitDefEqProofs only [↓STP,STQ,seval,Exp.v_mk,ir109,g0,g1,g2,Kn.v_clen,Kn.v_mkEl,Zab,eq_true c,eq_false c2,Zae]
    exact hK zkn
  ·rw [if_pos (.inl c)] at hK
   simp -dsimp -implicitDefEqProofs only [↓STP,STQ,seval,Exp.v_mk,ir109,g0,g1,g2,Kn.v_clen,Kn.v_mkEl,Zab,eq_false c,Zae]
   exact hK zkn
def SpR (p:Prg) (L:Lr) (e:Exp):Prop:=∀ (σ:TS) (h:H) (K:Out→H→Prop),Rt p L σ h→TOk p σ →
 Ans (Zcj p σ.env e) (fun r=>∀ h',Rt p L { σ with most:=max σ.most r.2 } h'→Fw L L h h'→K (.ret (.tuple [r.1.v,I 0])) h') (fun er=>er ≠ 0→∀ h' (k:Kn),Fw L L h h'→K (.ret (.tuple [k.v,I er])) h') →
 R 103 [.ptr L.x 0,e.v] h K
theorem allR_of {l:List Exp} {lv:Nat} (hp:PV p) (hl:l.length ≤ 4) (ih:∀ x ∈ l,SpR p L x) (hv:∀ x ∈ l,VE x lv) (nz:∀ x ∈ l,∀ σ,Nz (Zcj p σ x)) {σ:TS} {h:H} (A:Rt p L σ h) (ok:TOk p σ)
  (hK:Ans (Za4 p σ.env l) (fun r=>∀ h',Rt p L { σ with most:=max σ.most r.2 } h'→Fw L L h h'→K (.ret (.tuple [.vec (r.1.map Kn.v) .any,I 0])) h') (fun er=>er ≠ 0→∀ h',Fw L L h h'→K (.ret (.tuple [.vec [] .any,I er])) h')) :
  R 94 [.ptr L.x 0,.vec (l.map Exp.v) .any] h K:=by
 refine run94 (Nat.le_of_ble_eq_true rfl) ?_
 simp -dsimp -implicitDefEqProofs only [↓STP,STQ,seval,ir94,List.length_map]
 refine Zal (fun k s=>∃ j acc m h',j ≤ l.length∧k=l.length - j∧Za4 p σ.env (l.take j)=.ok (acc,m)∧acc.length=j∧m ≤ 60∧Rt p L { σ with most:=max σ.most m } h'∧Fw L L h h' ∧
  s=⟨upd (upd (upd (upd ρ0 0 (.ptr L.x 0)) 1 (.vec (l.map Exp.v) .any)) 6 (.vec (acc.map Kn.v) (.own 0))) 7 (I j),m0,1,[],h'⟩) (i:=l.length) ⟨0,[],0,h,Nat.zero_le _,rfl,rfl,rfl,by decide,by rw [Nat.max_eq_left (Nat.zero_le _)]; exact A,Fw.refl _ _,by simp -dsimp -implicitDefEqProofs only [↓STP,STQ,seval] <;> rfl⟩ ?_ mono
 rintro k s ⟨j,acc,m,h',hj,rfl,hr,hac,hm,A',F',rfl⟩
 rcases Nat.lt_or_ge j l.length with hi | hi
 ·have hget:=Za6 (f:=Exp.v) hi
  have hx:=ih _ (List.getElem_mem hi)
  have hvx:=hv _ (List.getElem_mem hi)
  have hnz:=nz _ (List.getElem_mem hi) σ.env
  have w1:=wiM (show j < 9223372036854775807 by omega)
  have htk:=Zks hi hr
  have hok:=Zgj hp ok.env l[j] lv hvx
  generalize l[j]=x at *
  simp -dsimp -implicitDefEqProofs only [↓STP,STQ,seval,List.length_map,Int.ofNat_lt,hi,hget,storeE,Exp.v_outs,Exp.v_clen,Exp.v_tk,Exp.v_ag,Exp.v_out,eq_self]
  refine hx _ _ _ A' (ok.most' hm) ?_
  rw [Zhx]
  cases hex:Zcj p σ.env x with
  | error er =>
   rw [hex] at htk
   rw [Zkt htk,Zbq] at hK
   rw [Zbq]
   intro hne h'' k F''
   simp -dsimp -implicitDefEqProofs only [↓STP,STQ,seval,Zab,Zae,eq_false hne]
   exact hK hne _ (F'.trans F'')
  | ok r =>
   obtain ⟨a,ma⟩:=r
   rw [hex] at htk
   rw [Zda]
   intro h'' A'' F''
   obtain ⟨ka,hma⟩:=hok a ma hex
   simp -dsimp -implicitDefEqProofs only [↓STP,STQ,seval,Zab,Zae]
   rw [Zd0 (sz:=4) (by simp) Zl5 rfl (by decide) (by decide) (by rw [List.length_map]; omega)]
   simp -dsimp -implicitDefEqProofs only [↓STP,STQ,seval,w1,mkEl,V.cells]
   refine ⟨l.length - (j + 1),by omega,j + 1,acc ++ [a],max m ma,h'',hi,rfl,htk,by simp [hac],by omega,?_,F'.trans F'',?_⟩
   ·have e:({ σ with most:=max σ.most (max m ma) }:TS)={ ({ σ with most:=max σ.most m }:TS) with most:=max (max σ.most m) ma }:=by rw [Nat.max_assoc]
    rw [e]; exact A''
   ·rw [List.map_append]; rfl
 ·have hj':j=l.length:=by omega
  subst hj'
  rw [List.take_length] at hr
  rw [hr,Zda] at hK
  simp -dsimp -implicitDefEqProofs only [↓STP,STQ,seval,List.length_map,Int.lt_irrefl]
  exact hK _ A' F'
theorem exprR (okp:POk p) (hp:PV p) (e:Exp):∀ lv,VE e lv→EOk e→SpR p L e:=by
 induction e using Exp.ind with
 | h k o n s ks ih =>
  intro lv hv ok σ h K A okt hK
  obtain ⟨v1,v2,v3,v4,v5,v6,v7,v8,v9⟩:=VE_mk.1 hv
  obtain ⟨hk,ho,hn,hs,hl,hks⟩:=Zi2 ok
  have hl3:=kids4 v2
  refine run103 (Nat.le_of_ble_eq_true rfl) ?_
  simp -dsimp -implicitDefEqProofs only [↓STP,STQ,seval,Exp.v_mk,ir103]
  rw [Zcj] at hK
  refine allR_of hp (by omega) (fun x hx=>ih x hx _ (v9 x hx) (hks x hx)) v9 (fun x _ _=>Zjl x) A okt ?_
  cases h1:Za4 p σ.env ks with
  | error er =>
   rw [h1] at hK
   intro hne h' F'
   simp -dsimp -implicitDefEqProofs only [↓STP,STQ,seval,Zae,eq_false hne]
   exact hK hne _ zkn F'
  | ok lm =>
   obtain ⟨l,m⟩:=lm
   rw [h1,Zat] at hK
   simp only at hK
   intro h' A' F'
   obtain ⟨hkl,hm,hll⟩:=Zb7 hp okt.env v9 l m h1
   have hmm:max σ.most m ≤ 60:=(okt.most' hm).most
   simp -dsimp -implicitDefEqProofs only [↓STP,STQ,seval]
   rw [show V.agg [I k,I o,W n,.str s,.vec (ks.map Exp.v) .any]=(Exp.mk k o n s ks).v from Exp.v_mk.symm]
   refine madeR okp hp A' (okt.most' hm) hv hll hkl ?_
   rw [Zhx]
   have gx:=Zai A'.x
   have nzm:=@madeT_nz p σ.env k o n s l
   have hmd:=fun r (e:Zgt p σ.env k o n s l=.ok r)=>madeT_ok hp okt.env v7 hkl e
   cases h2:Zgt p σ.env k o n s l with
   | error er =>
    rw [h2] at hK nzm
    have hne:=nzm er rfl
    intro q
    simp -dsimp -implicitDefEqProofs only [↓STP,STQ,seval,Zab,Zae,eq_false hne]
    exact hK hne _ zkn F'
   | ok r =>
    rw [h2,Zat] at hK
    intro v hv
    have hr:=hmd r h2
    unfold Zgr at hK
    by_cases c:r.kind=1
    ·rw [if_pos c] at hK
     by_cases d:60 < r.w
     ·have d':(60:Int) < (r.w:Int):=by omega
      rw [if_pos d] at hK
      simp -dsimp -implicitDefEqProofs only [↓STP,STQ,seval,Zab,Zae,eq_true c,eq_true d']
      exact hK (by decide) _ zkn F'
     ·have d':¬ (60:Int) < (r.w:Int):=by omega
      rw [if_neg d] at hK
      have hvv:v=r.val:=hv (by omega)
      subst hvv
      have hm2:(if (r.w:Int) > ((max σ.most m:Nat):Int) then (r.w:Int) else ((max σ.most m:Nat):Int))=((max (max σ.most m) r.w:Nat):Int):=by split <;> omega
      simp -dsimp -implicitDefEqProofs only [↓STP,STQ,seval,Zab,Zae,eq_true c,eq_false d',gx,Lr.cs,Zbf,hm2]
      obtain ⟨A2,F2⟩:=A'.count { σ with most:=max (max σ.most m) r.w } rfl (Nat.le_refl _)
      have A3:Rt p L { σ with most:=max σ.most (max m r.w) } (h'.set L.x (.cells (L.cs p { σ with most:=max (max σ.most m) r.w }))):=by
       rw [← Nat.max_assoc]; exact A2
      exact hK _ A3 (F'.trans F2)
    ·rw [if_neg c] at hK
     have hvv:v=r.val:=hv (by have:=(hr.other c).w; omega)
     subst hvv
     simp -dsimp -implicitDefEqProofs only [↓STP,STQ,seval,Zab,Zae,eq_false c]
     exact hK _ A' F'
end
end YtljoifdccjcidaaDoor
end Go.Ab
namespace Go.Ab
theorem Zfu {s t:ByteArray}:∀ {l:List (ByteArray × Kn)},Zaf t (l.filter fun r=>decide (r.1 ≠ s))=if t=s then none else Zaf t l
 | []=>by simp [Zaf]
 | (a,v) :: l=>by
  have ih:=@Zfu s t l
  by_cases c:a=s
  ·rw [List.filter_cons_of_neg (by simp [c]),ih]
   simp only [Zaf]
   by_cases d:t=s
   ·rw [if_pos d,if_pos d]
   ·rw [if_neg d,if_neg d,if_neg (fun e=>d (by rw [← c,e]))]
  ·rw [List.filter_cons_of_pos (by simp [c])]
   simp only [Zaf]
   rw [ih]
   by_cases d:a=t
   ·rw [if_pos d,if_pos d,if_neg (fun e=>c (d.trans e))]
   ·rw [if_neg d,if_neg d]
theorem vec_outs {xs:List V} {c:Cap} (h:c=.any∨c=.full):(V.vec xs c).outS=some (V.vec xs c):=by
 rcases h with rfl | rfl <;> rfl
namespace YtljoifdccjcidaaDoor
section
variable {K:Out→H→Prop} {p:Prg}
def EndR (p:Prg) (L:Lr) (h:H) (K:Out→H→Prop) (r:TR TS):Prop:=
 Ans r (fun σ'=>∀ L' h',Rt p L' σ' h'→Fw L L' h h'→K (.ret (I 0)) h') (fun e=>e ≠ 0→∀ L' h',Fw L L' h h'→K (.ret (I e)) h')
def SqSs (p:Prg) (a:List Stm) (lv:Nat):Prop:=∀ (L:Lr) (σ:TS) (h:H) (K:Out→H→Prop),Rt p L σ h→TOk p σ→σ.ifs ≤ lv→EndR p L h K (Zaj p a σ) →
 R 74 [.ptr L.x 0,.vec (a.map Stm.v) .any] h K
theorem loopR {k:Int} {s:ByteArray} {e:List Exp} {a b:List Stm} {l:List Kn} {lv:Nat} (okp:POk p) (hp:PV p) (ha:SqSs p a lv) (good:Zbz p (Zaj p a)) {L:Lr} {σ:TS} {h:H} (A:Rt p L σ h) (ok:TOk p σ) (hifs:σ.ifs ≤ lv)
  (hl:∀ k ∈ l,KOk k) (hK:EndR p L h K (forT p s l (Zaj p a) σ)):R 101 [.ptr L.x 0,(Stm.mk k s e a b).v,(nthK l 0).v,(nthK l 1).v] h K:=by
 have ok0:=Zbl hl 0
 have ok1:=Zbl hl 1
 unfold forT at hK
 generalize nthK l 0=k0 at *
 generalize nthK l 1=k1 at *
 refine run101 (Nat.le_of_ble_eq_true rfl) ?_
 by_cases c0:k0.kind=1
 rotate_left
 ·rw [if_pos (.inl c0)] at hK
  simp -dsimp -implicitDefEqProofs only [↓STP,STQ,seval,ir101,Zab,Stm.v_mk,eq_false c0]
  exact hK (by decide) _ _ (Fw.refl _ _)
 by_cases c1:k1.kind=1
 rotate_left
 ·rw [if_pos (.inr (.inl c1))] at hK
  simp -dsimp -implicitDefEqProofs only [↓STP,STQ,seval,ir101,Zab,Stm.v_mk,eq_true c0,eq_false c1]
  exact hK (by decide) _ _ (Fw.refl _ _)
 cases i0:k0.is with
 | false =>
  rw [if_pos (.inr (.inr (.inl i0)))] at hK
  simp -dsimp -implicitDefEqProofs only [↓STP,STQ,seval,ir101,Zab,Stm.v_mk,eq_true c0,eq_true c1,i0]
  exact hK (by decide) _ _ (Fw.refl _ _)
 | true =>
 cases i1:k1.is with
 | false =>
  rw [if_pos (.inr (.inr (.inr i1)))] at hK
  simp -dsimp -implicitDefEqProofs only [↓STP,STQ,seval,ir101,Zab,Stm.v_mk,eq_true c0,eq_true c1,i0,i1]
  exact hK (by decide) _ _ (Fw.refl _ _)
 | true =>
 rw [if_neg (by simp [c0,c1,i0,i1])] at hK
 simp -dsimp -implicitDefEqProofs only [↓STP,STQ,seval,ir101,Zab,Stm.v_mk,eq_true c0,eq_true c1,i0,i1]
 refine takenR okp A ok.steps ?_
 cases ht:Zdc p σ.env s with
 | true =>
  rw [ht,if_pos rfl] at hK
  simp -dsimp -implicitDefEqProofs only [↓STP,STQ,seval]
  exact hK (by decide) _ _ (Fw.refl _ _)
 | false =>
 rw [ht,if_neg (by decide)] at hK
 have gx:=Zai A.x
 have m4:L.es.length ≤ 1000000:=by have:=A.vl; have:=ok.steps; omega
 simp -dsimp -implicitDefEqProofs only [↓STP,STQ,seval,gx,Lr.cs]
 refine withoutR m4 ?_
 simp -dsimp -implicitDefEqProofs only [↓STP,STQ,seval,gx,Lr.cs,Zae]
 obtain ⟨A1,F1⟩:=A.write (L':={ L with es:=L.es.filter fun r=>decide (r.1 ≠ s),vc:=.any }) (σ':={ σ with env:={ σ.env with vars:=setV σ.env.vars s none } }) rfl rfl rfl rfl
  (fun t=>by
   show Zaf t (L.es.filter _)=(setV σ.env.vars s none t).map _
   rw [Zfu,A.es]; unfold setV
   by_cases c:t=s
   ·rw [if_pos c,if_pos c]; rfl
   ·rw [if_neg c,if_neg c]) (Nat.le_trans (List.length_filter_le _ _) A.vl) A.ll (.inl rfl) A.cl A.cw
 have ok1':TOk p { σ with env:={ σ.env with vars:=setV σ.env.vars s none } }:=⟨ok.env.setV (fun k w h=>by cases h),ok.steps,ok.most⟩
 have hv1:=ok1.lt
 have hv0:=ok0.lt
 refine Zal (fun c s'=>∃ n τ L' h',c=k1.val + 1 - n∧n ≤ 1152921504606846976∧Rt p L' τ h'∧TOk p τ∧τ.ifs=σ.ifs∧Fw L L' h h' ∧
  EndR p L h K (Zcw (Zfd s (Zaj p a)) (k1.val + 1 - n) n τ) ∧
  s'=⟨upd (upd (upd (upd ρ0 0 (.ptr L.x 0)) 5 (.lptr 0 5 0)) 7 (.lptr 1 4 0)) 9 (W n),upd (upd m0 0 (some [I k,.str s,.vec (e.map Exp.v) .any,.vec (a.map Stm.v) .any,.vec (b.map Stm.v) .any])) 1 (some [I k1.kind,I k1.w,.bool true,W k1.val]),2,[],h'⟩)
  (i:=k1.val + 1 - k0.val) ⟨k0.val,_,_,_,rfl,by omega,A1,ok1',rfl,F1,hK,by simp -dsimp -implicitDefEqProofs only [↓STP,STQ,seval] <;> rfl⟩ ?_ mono
 rintro c s' ⟨n,τ,L',h',rfl,hn,A',okτ,hτi,F',hK',rfl⟩
 by_cases hle:n ≤ k1.val
 rotate_left
 ·have hle':¬ ((n:Nat):Int) ≤ ((k1.val:Nat):Int):=by omega
  rw [show k1.val + 1 - n=0 by omega,Zcw] at hK'
  simp -dsimp -implicitDefEqProofs only [↓STP,STQ,seval,eq_false hle']
  exact hK' _ _ A' F'
 ·have hle':((n:Nat):Int) ≤ ((k1.val:Nat):Int):=by omega
  simp -dsimp -implicitDefEqProofs only [↓STP,STQ,seval,eq_true hle']
  rw [show k1.val + 1 - n=(k1.val + 1 - (n + 1)) + 1 by omega,Zcw] at hK'
  unfold Zfd at hK'
  rw [← F'.x]
  refine stepR A' okτ.steps ?_
  unfold Zg7 at hK' ⊢
  by_cases hst:10000 ≤ τ.steps
  ·rw [if_pos hst]
   rw [if_pos hst] at hK'
   simp -dsimp -implicitDefEqProofs only [↓STP,STQ,seval]
   exact hK' (by decide) _ _ F'
  ·rw [if_neg hst]
   rw [if_neg hst] at hK'
   simp only [Zat] at hK'
   rw [Zda]
   intro h2 A2 F2
   have gx2:=Zai A2.x
   have clo:=vec_outs (xs:=(lps τ.env).map nmV) A2.cl
   have ll2:(lps τ.env).length ≤ 10000:=by have:=A'.ll; have:=okτ.steps; unfold lps; rw [List.length_map]; omega
   simp -dsimp -implicitDefEqProofs only [↓STP,STQ,seval,gx2,Lr.cs,clo]
   rw [app_full (sz:=5) (by simp) nm_elems (by decide) (by decide) (by rw [List.length_map]; show 0 + _ ≤ _; omega)]
   obtain ⟨A3,F3⟩:=A2.write (L':={ L' with lc:=.any }) (σ':={ τ with steps:=τ.steps + 1,env:={ τ.env with loops:=τ.env.loops ++ [(s,n)] } }) rfl rfl rfl rfl A2.es A2.vl
    (by show (τ.env.loops ++ [(s,n)]).length ≤ τ.steps + 1; have:=A'.ll; simp; omega) A2.cv (.inl rfl) A2.cw
   have hl3:(lps { τ.env with loops:=τ.env.loops ++ [(s,n)] }).map nmV=(lps τ.env).map nmV ++ [nmV (s,kcon n)]:=by unfold lps; rw [List.map_append,List.map_append]; rfl
   have hcs:Lr.cs p { L' with lc:=.any } { τ with steps:=τ.steps + 1,env:={ τ.env with loops:=τ.env.loops ++ [(s,n)] } }=[.vec (p.ins.map InD.v) .any,.vec (p.arrays.map ArD.v) .any,.vec (p.body.map Stm.v) .any,.vec (L'.es.map nmV) L'.vc,.vec ((lps τ.env).map nmV ++ [nmV (s,kcon n)]) .any,L'.ov,I (τ.steps + 1:Nat),I τ.most,I τ.ifs]:=by
    rw [← hl3]; rfl
   rw [hcs] at A3 F3
   have ok3:TOk p { τ with steps:=τ.steps + 1,env:={ τ.env with loops:=τ.env.loops ++ [(s,n)] } }:=⟨⟨okτ.env.vars,fun t m hm=>by
    have hm:(t,m) ∈ τ.env.loops ++ [(s,n)]:=hm
    rcases List.mem_append.1 hm with hm | hm
    ·exact okτ.env.loops t m hm
    ·rw [List.mem_singleton] at hm; cases hm; omega,okτ.env.wlen,okτ.env.words⟩,by show τ.steps + 1 ≤ 10000; omega,okτ.most⟩
   by_cases hz:((lps τ.env).map nmV).length=0
   case' pos =>
    have hz':(lps τ.env).map nmV=[]:=List.eq_nil_of_length_eq_zero hz
    rw [if_pos hz]
    simp -dsimp -implicitDefEqProofs only [↓STP,STQ,seval]
    refine exactR (by omega) ?_
    simp -dsimp -implicitDefEqProofs only [↓STP,STQ,seval,Zab]
    rw [app1_full (sz:=5) (by simp) rfl (by decide) (by decide) (by decide)]
    simp -dsimp -implicitDefEqProofs only [↓STP,STQ,seval,gx2,Lr.cs,Zae,mkEl,V.cells]
    rw [show V.vec [V.agg [.str s,I (kcon n).kind,I (kcon n).w,.bool (kcon n).is,W (kcon n).val]] .any=V.vec ((lps τ.env).map nmV ++ [V.agg [.str s,I (kcon n).kind,I (kcon n).w,.bool (kcon n).is,W (kcon n).val]]) .any from by rw [hz']; rfl]
   case' neg =>
    rw [if_neg hz]
    simp -dsimp -implicitDefEqProofs only [↓STP,STQ,seval]
    refine exactR (by omega) ?_
    simp -dsimp -implicitDefEqProofs only [↓STP,STQ,seval,Zab]
    rw [Zd0 (sz:=5) (by simp) (by simpa using Zjg) rfl (by decide) (by decide) (by simp; omega)]
    simp -dsimp -implicitDefEqProofs only [↓STP,STQ,seval,gx2,Lr.cs,Zae,mkEl,V.cells]
   all_goals
    refine ha { L' with lc:=.any } _ _ _ A3 ok3 (by show τ.ifs ≤ lv; omega) ?_
    cases hr:Zaj p a { τ with steps:=τ.steps + 1,env:={ τ.env with loops:=τ.env.loops ++ [(s,n)] } } with
    | error er =>
     rw [hr] at hK'
     intro hne L4 h4 F4
     simp -dsimp -implicitDefEqProofs only [↓STP,STQ,seval,eq_false hne]
     exact hK' hne _ _ (((F'.trans F2).trans F3).trans F4)
    | ok σ4 =>
     rw [hr] at hK'
     simp only [Zat] at hK'
     have kp:=good _ _ ok3 hr
     intro L4 h4 A4 F4
     have gx4:=Zai A4.x
     rw [F4.x] at gx4
     simp only at gx4
     have st4:τ.steps + 1 ≤ σ4.steps:=kp.steps
     have hx4:L4.x=L'.x:=F4.x
     obtain ⟨A5,F5⟩:=A4.write (L':={ L4 with lc:=L'.lc,x:=L'.x }) (σ':={ σ4 with env:={ σ4.env with loops:=τ.env.loops } }) hx4.symm rfl rfl rfl A4.es A4.vl
      (by show τ.env.loops.length ≤ σ4.steps; have:=A'.ll; omega) A4.cv A2.cl A4.cw
     simp -dsimp -implicitDefEqProofs only [↓STP,STQ,seval,gx4,Lr.cs,clo,Zae,wuaddM (show n < 18446744073709551615 by omega)]
     rw [hx4] at A5 F5
     refine ⟨k1.val + 1 - (n + 1),by omega,n + 1,{ σ4 with env:={ σ4.env with loops:=τ.env.loops } },{ L4 with lc:=L'.lc,x:=L'.x },_,rfl,by omega,A5,⟨⟨kp.ok.env.vars,okτ.env.loops,kp.ok.env.wlen,kp.ok.env.words⟩,kp.ok.steps,kp.ok.most⟩,kp.ifs.trans hτi,(((F'.trans F2).trans F3).trans F4).trans F5,hK',?_⟩
     rw [F'.x]; rfl
end
end YtljoifdccjcidaaDoor
end Go.Ab
namespace Go.Ab
def ovO (o:Option Nat) (k:Nat):V:=match o with
 | some id=>.ref id 0 k 1
 | none=>.vec [] .any
def ovL (o:Option Nat) (k:Nat):V:=match o with
 | some id=>.ref id 0 k 1
 | none=>.vec [] (.own 0)
def ovN (o:Option Nat):Nat:=match o with
 | some _=>0
 | none=>1
structure Cp (wss:List (List Nat)) (h h':H) (o:Option Nat) (rs:List (Nat × Nat)):Prop where
 len:rs.length=wss.length
 ho:match o with
  | some id=>h'.objs id=some (.cells (rs.map refV))
  | none=>rs=[]
 ws:∀ (i:Nat) (ws:List Nat),wss[i]?=some ws→∃ id,rs[i]?=some (id,ws.length)∧h'.objs id=some (.cells (Zau ws))
 nd:(o.toList ++ rs.map (·.1)).Nodup
 ge:∀ id ∈ o.toList ++ rs.map (·.1),h.next ≤ id∧id < h'.next
 old:∀ id,id < h.next→h'.objs id=h.objs id
 nx:h.next ≤ h'.next
theorem Cp.nil {h:H}:Cp [] h h none []:=⟨rfl,rfl,by simp,by simp,by simp,fun _ _=>rfl,Nat.le_refl _⟩
theorem Zb2 {h:H} {id j:Nat} {o:O}:(h.move id o).objs j=if j=h.next then some o else if j=id then none else h.objs j:=by
 simp only [H.move,upd]
theorem Zif {h:H} {id:Nat} {o:O}:(h.move id o).next=h.next + 1:=rfl
def growH (h:H) (o:Option Nat) (rs:List (Nat × Nat)) (ws:List Nat):H:=match o with
 | some id=>(h.new (.cells (Zau ws))).move id (.cells ((rs ++ [(h.next,ws.length)]).map refV))
 | none=>(h.new (.cells (Zau ws))).new (.cells ((rs ++ [(h.next,ws.length)]).map refV))
theorem Cp.grow {wss:List (List Nat)} {h h':H} {o:Option Nat} {rs:List (Nat × Nat)} (c:Cp wss h h' o rs) (ws:List Nat):Cp (wss ++ [ws]) h (growH h' o rs ws) (some (h'.next + 1)) (rs ++ [(h'.next,ws.length)]):=by
 have hr:∀ r ∈ rs,h.next ≤ r.1∧r.1 < h'.next:=fun r hr=>c.ge r.1 (List.mem_append_right _ (List.mem_map.2 ⟨r,hr,rfl⟩))
 have hnx:(growH h' o rs ws).next=h'.next + 2:=by unfold growH; cases o <;> rfl
 have hobj:∀ j,(growH h' o rs ws).objs j=if j=h'.next + 1 then some (.cells ((rs ++ [(h'.next,ws.length)]).map refV)) else if o=some j∧j ≠ h'.next then none else if j=h'.next then some (.cells (Zau ws)) else h'.objs j:=by
  intro j
  have:=c.nx
  unfold growH
  cases ho:o with
  | none=>simp only [Zac,Zag]; simp
  | some id =>
   have hid:=c.ge id (by rw [ho]; simp)
   rw [Zb2,Zac]
   show (if j=h'.next + 1 then some (O.cells ((rs ++ [(h'.next,ws.length)]).map refV)) else if j=id then none else if j=h'.next then some (O.cells (Zau ws)) else h'.objs j)=_
   by_cases c1:j=h'.next + 1
   ·rw [if_pos c1,if_pos c1]
   ·rw [if_neg c1,if_neg c1]
    by_cases c2:j=id
    ·rw [if_pos c2,if_pos ⟨by rw [c2],by omega⟩]
    ·rw [if_neg c2,if_neg (show ¬ (some id=some j∧j ≠ h'.next) from fun e=>c2 (Option.some.inj e.1).symm)]
 have hne:∀ r ∈ rs,o ≠ some r.1:=fun r hr e=>by
  have hd:=c.nd
  rw [e] at hd
  simp only [Option.toList_some,List.cons_append,List.nil_append,List.nodup_cons,List.mem_map] at hd
  exact hd.1 ⟨r,hr,rfl⟩
 refine ⟨by simp [c.len],?_,fun i w hi=>?_,?_,fun id hid=>?_,fun id hid=>?_,by rw [hnx]; have:=c.nx; omega⟩
 ·show (growH h' o rs ws).objs (h'.next + 1)=_
  rw [hobj,if_pos rfl]
 ·rcases Nat.lt_or_ge i wss.length with hl | hl
  ·rw [List.getElem?_append_left hl] at hi
   obtain ⟨id,a,b⟩:=c.ws i w hi
   have hm:=List.mem_of_getElem? a
   have hh:=hr _ hm
   simp only at hh
   refine ⟨id,by rw [List.getElem?_append_left (by rw [c.len]; exact hl)]; exact a,?_⟩
   rw [hobj,if_neg (by omega),if_neg (fun e=>hne _ hm e.1),if_neg (by omega)]
   exact b
  ·rw [List.getElem?_append_right hl] at hi
   have h0:i - wss.length=0:=by
    rcases Nat.eq_zero_or_pos (i - wss.length) with h0 | h0
    ·exact h0
    ·rw [List.getElem?_eq_none (by simp; omega)] at hi; cases hi
   rw [h0] at hi
   cases hi
   refine ⟨h'.next,by rw [List.getElem?_append_right (by rw [c.len]; exact hl),c.len,h0]; rfl,?_⟩
   rw [hobj,if_neg (by omega),if_neg (fun e=>e.2 rfl),if_pos rfl]
 ·have hd:=c.nd
  rw [List.nodup_append] at hd
  simp only [Option.toList_some,List.cons_append,List.nil_append,List.map_append,List.map_cons,List.map_nil,List.nodup_cons,List.mem_append,List.mem_map,List.mem_singleton,not_or,List.nodup_append]
  refine ⟨⟨fun ⟨r,h1,h2⟩=>?_,by omega⟩,hd.2.1,by simp,fun a ⟨r,h1,h2⟩ b hb=>?_⟩
  ·have:=hr r h1; omega
  ·have:=hr r h1; omega
 ·rw [hnx]
  have:=c.nx
  simp only [Option.toList_some,List.cons_append,List.nil_append,List.map_append,List.map_cons,List.map_nil,List.mem_cons,List.mem_append,List.mem_map,List.not_mem_nil,or_false] at hid
  rcases hid with rfl | ⟨r,h1,rfl⟩ | rfl
  ·omega
  ·have:=hr r h1; omega
  ·omega
 ·have h1:=c.nx
  rw [hobj,if_neg (by omega),if_neg (fun e=>by
   have:=c.ge id (by rw [e.1]; simp)
   omega),if_neg (by omega)]
  exact c.old id hid
theorem app_o1 {st:S} {s s' a b:Nat} {c:Cap} (hs:s' ∉ st.u):appV st s (.vec [] (.own s')) (.vec [.ref a 0 b 1] c) 1 24 false true=some (.ref st.h.next 0 1 1,st.withH (st.h.new (.cells [.ref a 0 b 1]))):=by
 simp [appV,lenV,flat,V.cells,hs,most]
theorem app_o2 {st:S} {s id k a b:Nat} {c:Cap} {cs:List V} (hg:st.h.get id=some cs) (hl:cs.length=k) (hk:k ≤ 4294967295):appV st s (.ref id 0 k 1) (.vec [.ref a 0 b 1] c) 1 24 false true=some (.ref st.h.next 0 (k + 1) 1,st.withH (st.h.move id (.cells (cs ++ [.ref a 0 b 1])))):=by
 have h1:k + 1 ≤ most:=by unfold most; omega
 simp [appV,lenV,flat,V.cells,hg,hl,h1]
namespace YtljoifdccjcidaaDoor
section
variable {K:Out→H→Prop}
theorem copiedR {wss:List (List Nat)} {h:H} {o:Option Nat} {rs:List (Nat × Nat)} (len:rs.length=wss.length) (hlen:wss.length ≤ 4294967295)
  (ho:match o with
   | some id=>h.objs id=some (.cells (rs.map refV))∧id < h.next
   | none=>rs=[])
  (ws:∀ (i:Nat) (ws:List Nat),wss[i]?=some ws→∃ id,rs[i]?=some (id,ws.length)∧h.objs id=some (.cells (Zau ws))∧id < h.next)
  (pos:∀ ws ∈ wss,0 < ws.length∧ws.length ≤ 1000000)
  (hK:∀ h' o' rs',Cp wss h h' o' rs'→K (.ret (ovO o' rs'.length)) h') :
  R 106 [ovO o rs.length] h K:=by
 refine run106 (Nat.le_of_ble_eq_true rfl) ?_
 cases o with
 | none =>
  simp only at ho
  subst ho
  have hw:wss=[]:=List.eq_nil_of_length_eq_zero len.symm
  subst hw
  have e0:ovO none ([]:List (Nat × Nat)).length=.vec [] .any:=rfl
  rw [e0]
  simp -dsimp -implicitDefEqProofs only [↓STP,STQ,seval,ir106]
  refine Zal (fun k s=>s=⟨upd (upd (upd ρ0 0 (.vec [] .any)) 3 (.vec [] (.own 0))) 4 (I 0),m0,1,[],h⟩) (i:=0) (by simp -dsimp -implicitDefEqProofs only [↓STP,STQ,seval] <;> rfl) ?_ mono
  rintro k s rfl
  simp -dsimp -implicitDefEqProofs only [↓STP,STQ,seval,Int.lt_irrefl]
  exact hK h none [] Cp.nil
 | some id =>
 obtain ⟨ho1,ho2⟩:=ho
 have e0:ovO (some id) rs.length=.ref id 0 rs.length 1:=rfl
 rw [e0]
 simp -dsimp -implicitDefEqProofs only [↓STP,STQ,seval,ir106]
 refine Zal (fun k s=>∃ j o' rs' h',j ≤ wss.length∧k=wss.length - j∧Cp (wss.take j) h h' o' rs'∧(o'=none ↔ j=0) ∧
  s=⟨upd (upd (upd ρ0 0 (.ref id 0 rs.length 1)) 3 (ovL o' j)) 4 (I j),m0,ovN o',[],h'⟩) (i:=wss.length) ⟨0,none,[],h,Nat.zero_le _,rfl,Cp.nil,by simp,by simp -dsimp -implicitDefEqProofs only [↓STP,STQ,seval,ovL,ovN] <;> rfl⟩ ?_ mono
 rintro k s ⟨j,o',rs',h',hj,rfl,c,hoj,rfl⟩
 rcases Nat.lt_or_ge j wss.length with hi | hi
 ·have hw:=List.getElem?_eq_getElem hi
  have hm:=List.getElem_mem hi
  have htk:wss.take (j + 1)=wss.take j ++ [wss[j]]:=by rw [List.take_add_one,hw]; rfl
  obtain ⟨p1,p2⟩:=pos _ hm
  generalize wss[j]=w at *
  obtain ⟨id0,a1,a2,a3⟩:=ws j w hw
  have g0:h'.get id=some (rs.map refV):=Zai ((c.old id ho2).trans ho1)
  have g1:h'.get id0=some (Zau w):=Zai ((c.old id0 a3).trans a2)
  have g2:(rs.map refV)[j]?=some (.ref id0 0 w.length 1):=by rw [List.getElem?_map,a1]; rfl
  have lj:((j:Nat):Int) < ((rs.length:Nat):Int):=by omega
  have hrl:rs'.length=j:=by rw [c.len,List.length_take]; omega
  have an:=fun (st:S) (q:st.h=h') (s:Nat)=>app_new (st:=st) (s:=s) (by rw [q]; exact g1) Zby p1 (by omega)
  have c':=c.grow w
  rw [← htk] at c'
  have w1:=wi (show j < 9000000000000000000 by omega)
  cases o' with
  | none =>
   have hj0:j=0:=hoj.1 rfl
   have hr0:rs'=[]:=c.ho
   simp -dsimp -implicitDefEqProofs only [↓STP,STQ,seval,ovL,ovN,eq_true lj,g0,g2,Nat.mul_one]
   rw [app_new g1 Zby p1 (by omega)]
   simp -dsimp -implicitDefEqProofs only [↓STP,STQ,seval]
   rw [app_o1 (by simp)]
   simp -dsimp -implicitDefEqProofs only [↓STP,STQ,seval,w1]
   refine ⟨wss.length - (j + 1),by omega,j + 1,some (h'.next + 1),_,_,hi,rfl,c',by simp,?_⟩
   subst hr0
   subst hj0
   rfl
  | some oid =>
   have hob:h'.objs oid=some (.cells (rs'.map refV)):=c.ho
   have hlt:=(c.ge oid (by simp)).2
   simp -dsimp -implicitDefEqProofs only [↓STP,STQ,seval,ovL,ovN,eq_true lj,g0,g2,Nat.mul_one]
   rw [app_new g1 Zby p1 (by omega)]
   simp -dsimp -implicitDefEqProofs only [↓STP,STQ,seval]
   rw [app_o2 (cs:=rs'.map refV) (Zai (by show (h'.new _).objs oid=_; rw [Zac,if_neg (by omega)]; exact hob)) (by rw [List.length_map]; exact hrl) (by omega)]
   simp -dsimp -implicitDefEqProofs only [↓STP,STQ,seval,w1]
   refine ⟨wss.length - (j + 1),by omega,j + 1,some (h'.next + 1),_,_,hi,rfl,c',by simp,?_⟩
   unfold growH
   rw [List.map_append]
   rfl
 ·have hj':j=wss.length:=by omega
  subst hj'
  rw [List.take_length] at c
  have lj:¬ ((wss.length:Nat):Int) < ((rs.length:Nat):Int):=by omega
  have hh:=hK h' o' rs' c
  rw [c.len] at hh
  cases o' with
  | none =>
   simp -dsimp -implicitDefEqProofs only [↓STP,STQ,seval,ovL,ovN,eq_false lj]
   exact hh
  | some oid =>
   simp -dsimp -implicitDefEqProofs only [↓STP,STQ,seval,ovL,ovN,eq_false lj]
   exact hh
end
end YtljoifdccjcidaaDoor
end Go.Ab
namespace Go.Ab
def Zi5 (a b:Option Kn):Option Kn:=match a,b with
 | some x,some y=>if x.kind=y.kind then some ⟨x.kind,max x.w y.w,false,0⟩ else none
 | _,_=>none
def Zdq (l a b:List (ByteArray × Kn)):List (ByteArray × Kn):=l.filterMap fun r=>(Zi5 (Zaf r.1 a) (Zaf r.1 b)).map fun k=>(r.1,k)
theorem Zmc {a b:List (ByteArray × Kn)} {s:ByteArray}:∀ {l:List (ByteArray × Kn)},Zaf s (Zdq l a b)=match Zaf s l with | some _=>Zi5 (Zaf s a) (Zaf s b) | none=>none
 | []=>rfl
 | (t,v) :: l=>by
  have ih:=@Zmc a b s l
  have e:Zdq ((t,v) :: l) a b=(match Zi5 (Zaf t a) (Zaf t b) with | some k=>[(t,k)] | none=>[]) ++ Zdq l a b:=by
   unfold Zdq
   rw [List.filterMap_cons]
   cases Zi5 (Zaf t a) (Zaf t b) <;> rfl
  have e1:Zaf s ((t,v) :: l)=if t=s then some v else Zaf s l:=rfl
  rw [e,e1]
  by_cases c:t=s
  ·subst c
   rw [if_pos rfl]
   cases hb:Zi5 (Zaf t a) (Zaf t b) with
   | some k=>simp [Zaf]
   | none =>
    simp only [List.nil_append]
    rw [ih,hb]; cases Zaf t l <;> rfl
  ·rw [if_neg c]
   cases hb:Zi5 (Zaf t a) (Zaf t b) with
   | some k=>simp only [List.cons_append,List.nil_append,Zaf]; rw [if_neg c]; exact ih
   | none=>simp only [List.nil_append]; exact ih
theorem bothE_len {l a b:List (ByteArray × Kn)}:(Zdq l a b).length ≤ l.length:=List.length_filterMap_le _ _
theorem bothE_take {l a b:List (ByteArray × Kn)} {j:Nat} (h:j < l.length):Zdq (l.take (j + 1)) a b=Zdq (l.take j) a b ++ ((Zi5 (Zaf l[j].1 a) (Zaf l[j].1 b)).map fun k=>(l[j].1,k)).toList:=by
 unfold Zdq
 rw [List.take_add_one,List.getElem?_eq_getElem h,List.filterMap_append]
 congr 1
namespace YtljoifdccjcidaaDoor
section
variable {K:Out→H→Prop} {h:H}
theorem bothR {l a b:List (ByteArray × Kn)} (hl:l.length ≤ 1000000) (ha:a.length ≤ 1000000) (hb:b.length ≤ 1000000) (hK:K (.ret (.vec ((Zdq l a b).map nmV) .any)) h) :
  R 107 [.vec (l.map nmV) .any,.vec (a.map nmV) .any,.vec (b.map nmV) .any] h K:=by
 refine run107 (Nat.le_of_ble_eq_true rfl) ?_
 simp -dsimp -implicitDefEqProofs only [↓STP,STQ,seval,ir107]
 refine Zar (N:=l.length) (fun j=>⟨upd (upd (upd (upd (upd ρ0 0 (.vec (l.map nmV) .any)) 1 (.vec (a.map nmV) .any)) 2 (.vec (b.map nmV) .any)) 7 (.vec ((Zdq (l.take j) a b).map nmV) (.own 0))) 8 (I j),m0,1,[],h⟩) (fun j=>True) (by simp -dsimp -implicitDefEqProofs only [↓STP,STQ,seval] <;> rfl) trivial (fun j hj pj=>?_) (fun pj=>?_) mono
 ·have g:(l.map nmV)[j]?=some (nmV l[j]):=by rw [List.getElem?_map,List.getElem?_eq_getElem hj]; rfl
  have lj:(j:Int) < (l.length:Int):=by omega
  have e:=bothE_take (a:=a) (b:=b) hj
  have hlen:=@bothE_len (l.take j) a b
  rw [List.length_take] at hlen
  rw [e]
  generalize l[j]=r at *
  obtain ⟨s,kv⟩:=r
  simp only at *
  have w1:=wi (show j < 9000000000000000000 by omega)
  have m1:a.length ≤ 9223372036854775807:=by omega
  have m2:b.length ≤ 9223372036854775807:=by omega
  simp -dsimp -implicitDefEqProofs only [↓STP,STQ,seval,List.length_map,eq_true lj,g,nmV]
  refine findR m1 ?_
  simp -dsimp -implicitDefEqProofs only [↓STP,STQ,seval,g,nmV,eq_self]
  refine findR m2 ?_
  cases ca:Zaf s a with
  | none =>
   have hr:Zi5 none (Zaf s b)=none:=rfl
   rw [hr]
   simp -dsimp -implicitDefEqProofs only [↓STP,STQ,seval,eq_false (Zdv ca),w1]
   simp only [Option.map_none,Option.toList_none,List.append_nil]
  | some x =>
   obtain ⟨ix,x1,x2⟩:=ix_at ca
   rw [x1]
   cases cb:Zaf s b with
   | none =>
    have hr:Zi5 (some x) none=none:=rfl
    rw [hr]
    simp -dsimp -implicitDefEqProofs only [↓STP,STQ,seval,eq_true (Zgz ix),eq_false (Zdv cb),w1]
    simp only [Option.map_none,Option.toList_none,List.append_nil]
   | some y =>
    obtain ⟨iy,y1,y2⟩:=ix_at cb
    rw [y1]
    by_cases ck:x.kind=y.kind
    ·have hr:Zi5 (some x) (some y)=some ⟨x.kind,max x.w y.w,false,0⟩:=if_pos ck
     have hmx:(if (y.w:Int) > (x.w:Int) then (y.w:Int) else (x.w:Int))=((max x.w y.w:Nat):Int):=by split <;> omega
     rw [hr]
     simp -dsimp -implicitDefEqProofs only [↓STP,STQ,seval,eq_true (Zgz ix),eq_true (Zgz iy),x2,y2,g,nmV,eq_true ck,Zbf,hmx]
     rw [Zd0 (sz:=5) (by simp) (by simpa [nmV] using Zjg) rfl (by decide) (by decide) (by rw [List.length_map]; omega)]
     simp -dsimp -implicitDefEqProofs only [↓STP,STQ,seval,w1,mkEl,V.cells]
     simp only [Option.map_some,Option.toList_some,List.map_append]
     rfl
    ·have hr:Zi5 (some x) (some y)=none:=if_neg ck
     rw [hr]
     simp -dsimp -implicitDefEqProofs only [↓STP,STQ,seval,eq_true (Zgz ix),eq_true (Zgz iy),x2,y2,g,nmV,eq_false ck,w1]
     simp only [Option.map_none,Option.toList_none,List.append_nil]
 ·have lj:¬ (l.length:Int) < (l.length:Int):=by omega
  simp -dsimp -implicitDefEqProofs only [↓STP,STQ,seval,List.length_map,eq_false lj]
  rw [List.take_length]
  exact hK
end
end YtljoifdccjcidaaDoor
end Go.Ab
namespace Go.Ab
def cpC (n s:Nat):Cap:=if n=0 then .full else .own s
def cpA (n:Nat):Cap:=if n=0 then .full else .any
theorem cp_outs {xs:List V} {n s:Nat}:(V.vec xs (cpC n s)).outS=some (V.vec xs (cpA n)):=by
 unfold cpC cpA; split <;> rfl
theorem cpA_or (n:Nat):cpA n=.any∨cpA n=.full:=by unfold cpA; split; exact .inr rfl; exact .inl rfl
theorem app_copy {st:S} {s:Nat} {xs:List V} {c2:Cap} (hy:∀ e ∈ xs,e.cells.length=5∧mkEl true e.cells=e) (hl:xs.length ≤ 4294967296) :
  appV st s (.vec [] .full) (.vec xs c2) 5 48 true false=some (.vec xs (cpC xs.length s),st):=by
 rw [app_full (sz:=5) (by simp) hy (by decide) (by decide) (by simpa using hl)]
 unfold cpC
 split
 ·rename_i h; rw [List.eq_nil_of_length_eq_zero h]
 ·rw [List.nil_append]
theorem Lr.ov_out {L:Lr}:L.ov.out=some (ovO L.o L.rs.length):=by
 unfold Lr.ov ovO; cases L.o <;> rfl
theorem Rt.frame {p:Prg} {L:Lr} {σ:TS} {h h':H} (A:Rt p L σ h) (hn:h.next ≤ h'.next) (e:∀ id ∈ L.own,h'.objs id=h.objs id):Rt p L σ h':=by
 refine ⟨(e _ L.x_mem).trans A.x,?_,A.es,A.len,fun i ws hi=>?_,A.nd,fun id hid=>Nat.lt_of_lt_of_le (A.lt id hid) hn,A.vl,A.ll,A.cv,A.cl,A.cw⟩
 ·have h0:=A.o
  have hm:=fun id (q:L.o=some id)=>e id (L.o_mem q)
  revert h0 hm
  cases L.o with
  | none=>intro h0 _; exact h0
  | some id=>intro h0 hm; exact (hm id rfl).trans h0
 ·obtain ⟨id,a,b⟩:=A.ws i ws hi
  exact ⟨id,a,(e id (L.r_mem (List.mem_of_getElem? a))).trans b⟩
theorem Rt.setWord {p:Prg} {L:Lr} {σ:TS} {h:H} (A:Rt p L σ h) {i id n:Nat} {ws ws':List Nat} (hi:σ.env.words[i]?=some ws) (hid:L.rs[i]?=some (id,n)) (hl:ws'.length=ws.length) :
  Rt p L { σ with env:={ σ.env with words:=σ.env.words.set i ws' } } (h.set id (.cells (Zau ws')))∧Fw L L h (h.set id (.cells (Zau ws'))):=by
 have hm:=List.mem_of_getElem? hid
 have nx:=A.xr hm
 simp only at nx
 have hlt:i < σ.env.words.length:=by
  rcases Nat.lt_or_ge i σ.env.words.length with h' | h'
  ·exact h'
  ·rw [List.getElem?_eq_none h'] at hi; cases hi
 refine ⟨⟨?_,?_,A.es,by rw [A.len]; simp,fun j w hj=>?_,A.nd,A.lt,A.vl,A.ll,A.cv,A.cl,A.cw⟩,⟨Nat.le_refl _,rfl,fun j _ hn=>?_,fun j hj=>.inl hj⟩⟩
 ·rw [Zaa,if_neg nx.symm]; exact A.x
 ·have h0:=A.o
  have hne:=fun o (q:L.o=some o)=>A.or q hm
  revert h0 hne
  cases L.o with
  | none=>intro h0 _; exact h0
  | some o=>intro h0 hne; show (h.set _ _).objs o=_; rw [Zaa,if_neg (fun q=>hne o rfl q.symm)]; exact h0
 ·have hj:(σ.env.words.set i ws')[j]?=some w:=hj
  rw [List.getElem?_set] at hj
  by_cases c:i=j
  ·subst c
   rw [if_pos rfl,if_pos hlt] at hj
   cases hj
   obtain ⟨id',a,b⟩:=A.ws i ws hi
   rw [hid] at a
   cases a
   exact ⟨id,by rw [hid,hl],by rw [Zaa,if_pos rfl]⟩
  ·rw [if_neg c] at hj
   obtain ⟨id',a,b⟩:=A.ws j w hj
   have hne:id' ≠ id:=fun q=>by
    have hd:=A.nd
    simp only [Lr.own,List.nodup_cons,List.nodup_append] at hd
    have hd:=hd.2.2.1
    exact c (Zhd (f:=fun r:Nat × Nat=>r.1) hd hid a q.symm)
   exact ⟨id',a,by rw [Zaa,if_neg hne]; exact b⟩
 ·rw [Zaa,if_neg (fun e=>hn (by rw [e]; exact L.r_mem hm))]
theorem Rt.swap {p:Prg} {L L1:Lr} {σ σ1:TS} {h h1 h3:H} {o:Option Nat} {rs:List (Nat × Nat)} (A:Rt p L σ h) (A1:Rt p L1 σ1 h3) (hx:L1.x=L.x) (c:Cp σ.env.words h h1 o rs) (keep:∀ id,h.next ≤ id→id < h1.next→h3.objs id=h1.objs id) (hn:h1.next ≤ h3.next)
  (hlp:σ1.env.loops=σ.env.loops) (hst:σ.steps ≤ σ1.steps) {vc:Cap} (hvc:vc=.any∨vc=.full) :
  Rt p { L1 with x:=L.x,es:=L.es,vc:=vc,o:=o,wc:=.any,rs:=rs } { σ1 with env:=σ.env } (h3.set L.x (.cells (Lr.cs p { L1 with x:=L.x,es:=L.es,vc:=vc,o:=o,wc:=.any,rs:=rs } { σ1 with env:=σ.env }))):=by
 have hxl:=A.lt _ L.x_mem
 have far:∀ id ∈ o.toList ++ rs.map (·.1),id ≠ L.x:=fun id hid e=>by have:=c.ge id hid; omega
 refine ⟨by rw [Zaa,if_pos rfl],?_,A.es,c.len,fun i ws hi=>?_,?_,fun id hid=>?_,Nat.le_trans A.vl hst,Nat.le_trans A.ll hst,hvc,A1.cl,.inl rfl⟩
 ·have h0:=c.ho
  have hg:=c.ge
  revert h0 hg far
  cases o with
  | none=>intro far h0 _; exact h0
  | some id =>
   intro far h0 hg
   have hq:=hg id (by simp)
   show (h3.set _ _).objs id=_
   rw [Zaa,if_neg (far id (by simp)),keep id hq.1 hq.2]
   exact h0
 ·obtain ⟨id,a,b⟩:=c.ws i ws hi
  have hm:id ∈ o.toList ++ rs.map (·.1):=List.mem_append_right _ (List.mem_map.2 ⟨_,List.mem_of_getElem? a,rfl⟩)
  have hq:=c.ge id hm
  refine ⟨id,a,?_⟩
  rw [Zaa,if_neg (far id hm),keep id hq.1 hq.2]
  exact b
 ·show (L.x :: (o.toList ++ rs.map (·.1))).Nodup
  rw [List.nodup_cons]
  exact ⟨fun hm=>far _ hm rfl,c.nd⟩
 ·have hid:id ∈ L.x :: (o.toList ++ rs.map (·.1)):=hid
  rw [Zax]
  rcases List.mem_cons.1 hid with rfl | hid
  ·have:=c.nx; omega
  ·have:=c.ge id hid; omega
def mixW (a b:List (List Nat)) (i:Nat):List (List Nat):=(maxW a b).take i ++ a.drop i
theorem mix_zero {a b:List (List Nat)}:mixW a b 0=a:=by simp [mixW]
theorem mix_all {a b:List (List Nat)} (h:a.length=b.length):mixW a b a.length=maxW a b:=by
 unfold mixW
 rw [List.drop_length,List.append_nil,List.take_of_length_le (by unfold maxW; rw [List.length_zipWith]; omega)]
theorem mix_get {a b:List (List Nat)} (h:a.length=b.length) {i:Nat} (hi:i < a.length):(mixW a b i)[i]?=some a[i]:=by
 unfold mixW
 rw [List.getElem?_append_right (by rw [List.length_take]; omega),List.length_take,show i - min i (maxW a b).length=0 by unfold maxW; rw [List.length_zipWith]; omega,List.getElem?_drop,Nat.add_zero,List.getElem?_eq_getElem hi]
theorem mix_set {a b:List (List Nat)} (h:a.length=b.length) {i:Nat} (hi:i < a.length) (hb:i < b.length):(mixW a b i).set i (List.zipWith max a[i] b[i])=mixW a b (i + 1):=by
 have hl:(maxW a b).length=a.length:=by unfold maxW; rw [List.length_zipWith]; omega
 unfold mixW
 rw [List.set_append_right _ _ (by rw [List.length_take]; omega),List.length_take,show i - min i (maxW a b).length=0 by omega,List.take_add_one,List.drop_eq_getElem_cons hi,List.set_cons_zero,
  List.getElem?_eq_getElem (by omega)]
 have:(maxW a b)[i]'(by omega)=List.zipWith max a[i] b[i]:=by unfold maxW; rw [List.getElem_zipWith]
 simp [this]
end Go.Ab
namespace Go.Ab
def slV (o:Option Nat) (n:Nat):V:=match o with
 | some id=>.ref id 0 n 1
 | none=>.vec [] .full
def SlAt (h:H) (o:Option Nat) (cs:List V):Prop:=match o with
 | some id=>cs ≠ []∧h.objs id=some (.cells cs)
 | none=>cs=[]
theorem SlAt.obj {h:H} {o:Option Nat} {cs:List V} (a:SlAt h o cs) (hne:cs ≠ []):∃ id,o=some id∧h.objs id=some (.cells cs):=by
 cases o with
 | some id=>exact ⟨id,rfl,a.2⟩
 | none=>exact absurd a hne
theorem SlAt.keep {h h':H} {o:Option Nat} {cs:List V} (a:SlAt h o cs) (e:∀ id,o=some id→h'.objs id=h.objs id):SlAt h' o cs:=by
 cases o with
 | some id=>exact ⟨a.1,by rw [e id rfl]; exact a.2⟩
 | none=>exact a
theorem slV_out {o:Option Nat} {n:Nat}:(slV o n).cells=[slV o n]∧(slV o n).outS=some (slV o n):=by cases o <;> exact ⟨rfl,rfl⟩
theorem Zj7 {h:H} {o:Option Nat} {cs:List V} {el:V} {bytes n:Nat} (a:SlAt h o cs) (hn:cs.length=n) (hel:el.cells=[el]) (hb:bytes ≤ 4096) (hl:n < 1000000) :
  ∃ h':H,(∀ (st:S) (s:Nat) (ag:Bool) (c2:Cap),st.h=h→appV st s (slV o n) (.vec [el] c2) 1 bytes ag true=some (.ref h.next 0 (n + 1) 1,st.withH h')) ∧
   SlAt h' (some h.next) (cs ++ [el])∧h'.next=h.next + 1∧∀ i,i < h.next→o ≠ some i→h'.objs i=h.objs i:=by
 subst hn
 cases o with
 | none =>
  have a:cs=[]:=a
  subst a
  refine ⟨h.new (.cells [el]),fun st s ag c2 hs=>?_,⟨by simp,by rw [Zac,if_pos rfl]; rfl⟩,rfl,fun i hi _=>by rw [Zac,if_neg (Nat.ne_of_lt hi)]⟩
  subst hs
  simp only [slV,appV,lenV,flat,hel,List.length_cons,List.length_nil,List.flatMap_cons,List.flatMap_nil,List.append_nil,Nat.zero_add,Nat.one_mul]
  rw [if_pos ⟨trivial,by decide,hb⟩,if_pos (by decide)]
 | some id =>
  have hg:=Zai a.2
  refine ⟨h.move id (.cells (cs ++ [el])),fun st s ag c2 hs=>?_,⟨by simp,by rw [Zb2,if_pos rfl]⟩,rfl,fun i hi hne=>by rw [Zb2,if_neg (Nat.ne_of_lt hi),if_neg (fun e=>hne (by rw [e]))]⟩
  subst hs
  simp only [slV,appV,lenV,flat,hel,hg,List.length_cons,List.length_nil,List.flatMap_cons,List.flatMap_nil,List.append_nil,Nat.zero_add,Nat.one_mul,Nat.mul_one]
  rw [if_pos ⟨trivial,by decide,hb⟩,if_pos ⟨trivial,trivial,by unfold most; omega,by decide⟩]
structure Rk where
 x:Nat
 n:Option Nat
 v:Option Nat
 a:Option Nat
 w:Option Nat
 t:Option Nat
 es:List (ByteArray × Nat)
 ws:List (ByteArray × Nat × Nat)
def Rk.slot (L:Rk):Nat→Option Nat
 | 0=>some L.x
 | 1=>L.n
 | 2=>L.v
 | 3=>L.a
 | 4=>L.w
 | 5=>L.t
 | k + 6=>(L.ws[k]?).map fun r=>r.2.1
def Rk.cs (L:Rk) (k:Nat):List V:=[slV L.n L.es.length,slV L.v L.es.length,slV L.a L.ws.length,slV L.w L.ws.length,slV L.t k]
def nmL (l:List (ByteArray × Nat)):List V:=l.map fun r=>.str r.1
def vlL (l:List (ByteArray × Nat)):List V:=l.map fun r=>W r.2
def anL (l:List (ByteArray × Nat × Nat)):List V:=l.map fun r=>.str r.1
def wdL (l:List (ByteArray × Nat × Nat)):List V:=l.map fun r=>refV r.2
structure StR (L:Rk) (told:List Nat) (h:H):Prop where
 x:h.objs L.x=some (.cells (L.cs told.length))
 n:SlAt h L.n (nmL L.es)
 v:SlAt h L.v (vlL L.es)
 a:SlAt h L.a (anL L.ws)
 w:SlAt h L.w (wdL L.ws)
 t:SlAt h L.t (Ws told)
 esn:(L.es.map (·.1)).Nodup
 wsn:(L.ws.map (·.1)).Nodup
 el:L.es.length ≤ 1000000
 wl:L.ws.length ≤ 1000000
 nd:∀ i j id,L.slot i=some id→L.slot j=some id→i=j
 lt:∀ i id,L.slot i=some id→id < h.next
structure AtR (p:Prg) (L:Rk) (s:RS) (h:H):Prop where
 st:StR L s.told h
 es:∀ y,Zaf y L.es=s.vars y
 ars:∀ (i:Nat) (d:ArD),p.arrays[i]?=some d→∃ id ws,s.words[i]?=some ws∧Zaf d.name L.ws=some (id,ws.length)∧h.objs id=some (.cells (Ws ws))
 inw:∀ (y:ByteArray) (d:InD),inOf p y=some d→d.size ≠ 0→∃ id,Zaf y L.ws=some (id,(s.inw y).length)∧h.objs id=some (.cells (Ws (s.inw y)))
structure FrR (L L':Rk) (h h':H):Prop where
 nx:h.next ≤ h'.next
 x:L'.x=L.x
 same:∀ id,id < h.next→(∀ i,L.slot i ≠ some id)→h'.objs id=h.objs id
 own:∀ i id,L'.slot i=some id→(∃ j,L.slot j=some id)∨h.next ≤ id
theorem FrR.refl (L:Rk) (h:H):FrR L L h h:=⟨Nat.le_refl _,rfl,fun _ _ _=>rfl,fun i _ hi=>.inl ⟨i,hi⟩⟩
theorem FrR.trans {L L' L'':Rk} {h h' h'':H} (a:FrR L L' h h') (b:FrR L' L'' h' h''):FrR L L'' h h'':=
 ⟨Nat.le_trans a.nx b.nx,b.x.trans a.x,fun id hl hn=>by
  rw [b.same id (Nat.lt_of_lt_of_le hl a.nx) (fun i hi=>(a.own i id hi).elim (fun ⟨j,hj⟩=>hn j hj) (fun hh=>absurd hl (Nat.not_lt.2 hh)))]
  exact a.same id hl hn,fun i id hi=>(b.own i id hi).elim (fun ⟨j,hh⟩=>a.own j id hh) (fun hh=>.inr (Nat.le_trans a.nx hh))⟩
theorem Zgh {α:Type} {y:ByteArray} {v:α}:∀ {l:List (ByteArray × α)},Zaf y l=some v→∃ j:Nat,l[j]?=some (y,v)
 | (a,b) :: l,h=>by
  simp only [Zaf] at h
  by_cases c:a=y
  ·rw [if_pos c] at h; cases h
   exact ⟨0,by rw [← c]; rfl⟩
  ·rw [if_neg c] at h
   obtain ⟨j,hj⟩:=Zgh h
   exact ⟨j + 1,hj⟩
theorem StR.ws_slot {L:Rk} {told:List Nat} {h:H} (A:StR L told h) {y:ByteArray} {id n:Nat} (hf:Zaf y L.ws=some (id,n)):∃ j,L.slot (j + 6)=some id∧L.ws[j]?=some (y,id,n):=by
 obtain ⟨j,hj⟩:=Zgh hf
 exact ⟨j,by simp [Rk.slot,hj],hj⟩
theorem AtR.index {p:Prg} {σ:TE} {L:Rk} {s:RS} {h:H} (A:AtR p L s h) (ag:AgE p σ s) (ok:EOkT p σ) {x:ByteArray} {k r:Kn} {v:Nat} (hv:VFit k v) (ht:Zeh p σ x k=.ok r) :
  ∃ id len,Zaf x L.ws=some (id,len)∧v < len∧∃ ws,h.get id=some (Ws ws)∧ws.length=len∧ws[v]?=some (rdX p s x v):=by
 obtain ⟨_,hh⟩:=ag.index ok hv ht
 rcases hh with ⟨j,d,e1,e2,e3,e4,e5,e6⟩ | ⟨d,e1,e2,e3,e4,e5⟩
 ·obtain ⟨id,ws,f1,f2,f3⟩:=A.ars j d e2
  have g:s.words.getD j []=ws:=by rw [List.getD_eq_getElem?_getD,f1]; rfl
  rw [e3] at f2
  rw [g] at e6
  refine ⟨id,ws.length,f2,e6,ws,Zai f3,rfl,?_⟩
  unfold rdX
  rw [e1]
  simp only
  rw [g,List.getD_eq_getElem?_getD,List.getElem?_eq_getElem e6]; rfl
 ·obtain ⟨id,f1,f2⟩:=A.inw x d e2 e3
  refine ⟨id,_,f1,e5,s.inw x,Zai f2,rfl,?_⟩
  unfold rdX
  rw [e1]
  simp only
  rw [List.getD_eq_getElem?_getD,List.getElem?_eq_getElem e5]; rfl
theorem StR.var {L:Rk} {told:List Nat} {h:H} (A:StR L told h) {y:ByteArray} {j:Nat} {v:Nat} (hj:L.es[j]?=some (y,v)) :
  ∃ i1 i2,L.n=some i1∧L.v=some i2∧h.get i1=some (nmL L.es)∧h.get i2=some (vlL L.es)∧(vlL L.es)[j]?=some (W v)∧j < L.es.length:=by
 have hlt:j < L.es.length:=(List.getElem?_eq_some_iff.1 hj).1
 have hne:L.es ≠ []:=fun e=>by rw [e] at hlt; exact absurd hlt (Nat.not_lt_zero _)
 obtain ⟨i1,h1,h2⟩:=A.n.obj (by unfold nmL; simpa using hne)
 obtain ⟨i2,h3,h4⟩:=A.v.obj (by unfold vlL; simpa using hne)
 exact ⟨i1,i2,h1,h3,Zai h2,Zai h4,by unfold vlL; rw [List.getElem?_map,hj]; rfl,hlt⟩
theorem StR.arr {L:Rk} {told:List Nat} {h:H} (A:StR L told h) {y:ByteArray} {j id n:Nat} (hj:L.ws[j]?=some (y,id,n)) :
  ∃ i1 i2,L.a=some i1∧L.w=some i2∧h.get i1=some (anL L.ws)∧h.get i2=some (wdL L.ws)∧(wdL L.ws)[j]?=some (.ref id 0 n 1)∧j < L.ws.length:=by
 have hlt:j < L.ws.length:=(List.getElem?_eq_some_iff.1 hj).1
 have hne:L.ws ≠ []:=fun e=>by rw [e] at hlt; exact absurd hlt (Nat.not_lt_zero _)
 obtain ⟨i1,h1,h2⟩:=A.a.obj (by unfold anL; simpa using hne)
 obtain ⟨i2,h3,h4⟩:=A.w.obj (by unfold wdL; simpa using hne)
 exact ⟨i1,i2,h1,h3,Zai h2,Zai h4,by unfold wdL; rw [List.getElem?_map,hj]; rfl,hlt⟩
def NmAt (h:H) (v:V) (ns:List ByteArray):Prop:=(ns=[]∧v=.vec [] .any)∨(∃ id,v=.ref id 0 ns.length 1∧h.get id=some (ns.map .str))
namespace YtljoifdccjcidaaDoor
section
variable {h:H} {K:Out→H→Prop} {p:Prg}
theorem find30 {v:V} {ns:List ByteArray} {s:ByteArray} (hv:NmAt h v ns) (hl:ns.length ≤ 1000000) (h1:∀ j:Nat,ns[j]?=some s→K (.ret (I j)) h) (h2:s ∉ ns→K (.ret (I (-1))) h) :
  R 47 [v,.str s] h K:=by
 refine run47 (Nat.le_of_ble_eq_true rfl) ?_
 rcases hv with ⟨rfl,rfl⟩ | ⟨id,rfl,hg⟩
 ·have w0:IntKind.i64.wrap ((0:Int) - 1)=-1:=by decide
  simp -dsimp -implicitDefEqProofs only [↓STP,STQ,seval,ir47,w0]
  refine Zal (fun c s'=>s'=⟨upd (upd (upd ρ0 0 (.vec [] .any)) 1 (.str s)) 5 (I (-1)),m0,0,[],h⟩) (i:=0) (by simp -dsimp -implicitDefEqProofs only [↓STP,STQ,seval] <;> rfl) ?_ mono
  rintro c s' rfl
  simp -dsimp -implicitDefEqProofs only [↓STP,STQ,seval]
  exact h2 (by simp)
 ·have w0:IntKind.i64.wrap ((ns.length:Int) - 1)=(ns.length:Int) - 1:=wrap_i64 (by omega) (by omega)
  simp -dsimp -implicitDefEqProofs only [↓STP,STQ,seval,ir47,w0]
  refine Zal (fun c s'=>∃ z:Int,z=(c:Int) - 1∧c ≤ ns.length∧(∀ k,c ≤ k→ns[k]? ≠ some s)∧s'=⟨upd (upd (upd ρ0 0 (.ref id 0 ns.length 1)) 1 (.str s)) 5 (I z),m0,0,[],h⟩) (i:=ns.length)
   ⟨(ns.length:Int) - 1,rfl,Nat.le_refl _,fun k hk=>by rw [List.getElem?_eq_none hk]; exact fun e=>(by cases e),by simp -dsimp -implicitDefEqProofs only [↓STP,STQ,seval] <;> rfl⟩ ?_ mono
  rintro c s' ⟨z,hz,hc,hno,rfl⟩
  cases c with
  | zero =>
   have hz:z=-1:=by omega
   subst hz
   simp -dsimp -implicitDefEqProofs only [↓STP,STQ,seval]
   exact h2 (fun hm=>by obtain ⟨k,hk⟩:=List.mem_iff_getElem?.1 hm; exact hno k (Nat.zero_le _) hk)
  | succ c =>
   have hz:z=(c:Int):=by omega
   subst hz
   have hci:((c:Nat):Int) < ((ns.length:Nat):Int):=by omega
   have hg':(ns.map V.str)[c]?=some (.str ns[c]):=by rw [List.getElem?_map,List.getElem?_eq_getElem hc]; rfl
   have hgc:ns[c]?=some ns[c]:=List.getElem?_eq_getElem hc
   have w1:IntKind.i64.wrap ((c:Int) - 1)=(c:Int) - 1:=wrap_i64 (by omega) (by omega)
   by_cases e:ns[c]=s
   ·simp -dsimp -implicitDefEqProofs only [↓STP,STQ,seval,eq_true hci,Nat.mul_one,hg,hg',binS,beqS,e,eq_self]
    exact h1 c (by rw [hgc,e])
   ·simp -dsimp -implicitDefEqProofs only [↓STP,STQ,seval,eq_true hci,Nat.mul_one,hg,hg',binS,beqS,eq_false e,w1]
    exact ⟨c,by omega,(c:Int) - 1,by omega,by omega,fun k hk=>by
     rcases Nat.lt_or_ge c k with h' | h'
     ·exact hno k h'
     ·have:k=c:=by omega
      subst this
      rw [hgc]; exact fun h=>e (Option.some.inj h),rfl⟩
theorem truth30 {b:Bool} (hK:K (.ret (W (Zc5 (b=true)))) h):R 75 [.bool b] h K:=by
 refine run75 (Nat.le_of_ble_eq_true rfl) ?_
 cases b with
 | false =>
  simp -dsimp -implicitDefEqProofs only [↓STP,STQ,seval,ir75]
  exact hK
 | true =>
  simp -dsimp -implicitDefEqProofs only [↓STP,STQ,seval,ir75]
  exact hK
theorem op30 {o:Int} {a b:Nat} (o1:1 ≤ o) (o7:o ≤ 7) (ha:a < 1152921504606846976) (hb:b < 1152921504606846976) (hr:opX o a b < 1152921504606846976) (b0:Zbt o=2→a ≤ 1) (b1:Zbt o=2→b ≤ 1) (hK:K (.ret (W (opX o a b))) h) :
  R 64 [I o,W a,W b] h K:=by
 refine run64 (Nat.le_of_ble_eq_true rfl) ?_
 have oo:o=1∨o=2∨o=3∨o=4∨o=5∨o=6∨o=7:=by omega
 rcases oo with rfl | rfl | rfl | rfl | rfl | rfl | rfl
 ·rw [opX_1] at hK hr
  have w:=wuadd (show a + b < 18446744073709551616 by omega)
  simp -dsimp -implicitDefEqProofs only [↓STP,STQ,seval,ir64,w]
  exact hK
 ·rw [opX_2] at hK
  by_cases c:(a:Int) < (b:Int)
  ·rw [show a - b=0 by omega] at hK
   simp -dsimp -implicitDefEqProofs only [↓STP,STQ,seval,ir64,eq_true c]
   exact hK
  ·have w:IntKind.u64.wrap ((a:Int) - (b:Int))=((a - b:Nat):Int):=by rw [Zaq] <;> omega
   simp -dsimp -implicitDefEqProofs only [↓STP,STQ,seval,ir64,eq_false c,w]
   exact hK
 ·rw [opX_3] at hK hr
  have w:IntKind.u64.wrap ((a:Int) * (b:Int))=((a * b:Nat):Int):=by rw [← Int.natCast_mul,Zaq] <;> omega
  simp -dsimp -implicitDefEqProofs only [↓STP,STQ,seval,ir64,w]
  exact hK
 ·rw [opX_4] at hK
  simp -dsimp -implicitDefEqProofs only [↓STP,STQ,seval,ir64]
  refine truth30 ?_
  simp -dsimp -implicitDefEqProofs only [↓STP,STQ,seval]
  rw [show Zc5 (decide ((a:Int) < (b:Int))=true)=Zc5 (a < b) by unfold Zc5; simp]
  exact hK
 ·rw [opX_5] at hK
  simp -dsimp -implicitDefEqProofs only [↓STP,STQ,seval,ir64]
  refine truth30 ?_
  simp -dsimp -implicitDefEqProofs only [↓STP,STQ,seval]
  rw [show Zc5 (decide ((a:Int)=(b:Int))=true)=Zc5 (a=b) by unfold Zc5; simp [Int.ofNat_inj]]
  exact hK
 ·rw [opX_6] at hK
  have w:=W_and (b0 rfl) (b1 rfl)
  simp -dsimp -implicitDefEqProofs only [↓STP,STQ,seval,ir64,w]
  exact hK
 ·rw [opX_7] at hK
  have w:=W_or (b0 rfl) (b1 rfl)
  simp -dsimp -implicitDefEqProofs only [↓STP,STQ,seval,ir64,w]
  exact hK
end
end YtljoifdccjcidaaDoor
end Go.Ab
namespace Go.Ab
namespace YtljoifdccjcidaaDoor
section
variable {h:H} {K:Out→H→Prop} {p:Prg}
def SpVR (p:Prg) (e:Exp):Prop:=∀ (σ:TE) (L:Rk) (s:RS) (h:H) (K:Out→H→Prop) (r:Kn) (m:Nat),AtR p L s h→AgE p σ s→EOkT p σ→Zcj p σ e=.ok (r,m)→K (.ret (W (valX p s e))) h→R 48 [.ptr L.x 0,e.v] h K
theorem Zg5 (hp:PV p) (e:Exp):∀ lv,VE e lv→EOk e→SpVR p e:=by
 induction e using Exp.ind with
 | h k o n x ks ih =>
  intro lv hv okE σ L s h K r m A ag okt ht hK
  obtain ⟨v1,v2,v3,v4,v5,v6,v7,v8,v9⟩:=VE_mk.1 hv
  obtain ⟨hk,ho,hn,hs,hl,hks⟩:=Zi2 okE
  obtain ⟨l,ml,t1,t2⟩:=Zku ht
  have vf:=Zf3 ag okt t1
  have ka:=Zem t1
  obtain ⟨kl,km,kn⟩:=Zb7 hp okt v9 l ml t1
  have rk:=(Zgj hp okt _ lv hv r m ht).1
  have rf:=Zmq ag okt _ r m ht
  have rlt:=rf.lt rk
  have gx:=Zai A.st.x
  have hesl:L.es.length ≤ 1000000:=A.st.el
  have hwsl:L.ws.length ≤ 1000000:=A.st.wl
  rw [Zh8] at hK rf rlt
  unfold valOf at hK rf rlt
  have hkk:k=1∨k=2∨k=3∨k=4∨k=5∨k=6:=by
   unfold Zbs at v2
   repeat' split at v2
   all_goals omega
  have f0:=vf.nth 0
  have f1:=vf.nth 1
  have l0:=f0.lt (Zbl kl 0)
  have l1:=f1.lt (Zbl kl 1)
  unfold Zgt at t2
  refine run48 (Nat.le_of_ble_eq_true rfl) ?_
  rcases hkk with rfl | rfl | rfl | rfl | rfl | rfl
  ·rw [if_pos rfl] at hK
   simp -dsimp -implicitDefEqProofs only [↓STP,STQ,seval,Exp.v_mk,ir48]
   exact hK
  ·rw [if_neg (by decide),if_pos rfl] at hK t2
   obtain ⟨v,e1,e2⟩:=ag.name t2
   have e3:Zaf x L.es=some v:=by rw [A.es,e1]
   rw [e1,Option.getD_some] at hK
   obtain ⟨j0,hj0⟩:=Zgh e3
   obtain ⟨i1,i2,n1,n2,q1,q2,q3,q4⟩:=A.st.var hj0
   have gx:=gx
   unfold Rk.cs at gx
   rw [n1,n2] at gx
   simp -dsimp -implicitDefEqProofs only [↓STP,STQ,seval,Exp.v_mk,ir48,gx,slV]
   refine find30 (ns:=L.es.map (·.1)) (.inr ⟨i1,by rw [List.length_map],by rw [q1]; unfold nmL; rw [List.map_map]; rfl⟩) (by rw [List.length_map]; omega) (fun j hj=>?_) (fun hno=>absurd (List.mem_of_getElem? (by rw [List.getElem?_map,hj0]; rfl)) hno)
   have hjj:j=j0:=Zga (f:=fun r:ByteArray=>r) (by rw [List.map_id']; exact A.st.esn) hj (show (L.es.map (·.1))[j0]?=some x by rw [List.getElem?_map,hj0]; rfl) rfl
   subst hjj
   have hji:((j:Nat):Int) < ((L.es.length:Nat):Int):=by omega
   simp -dsimp -implicitDefEqProofs only [↓STP,STQ,seval,gx,slV,eq_true hji,Nat.mul_one,q2,q3]
   exact hK
  ·rw [if_neg (by decide),if_neg (by decide),if_pos rfl] at hK t2
   obtain ⟨e0,rfl⟩:=len1 (l:=ks) (by have:Zbs 3=1:=rfl; omega)
   obtain ⟨r0,m0',q0⟩:=ka e0 (by simp)
   obtain ⟨id,len,g1,g2,ws,g3,g4,g5⟩:=A.index ag okt f0 t2
   have g6:(Ws ws)[valX p s e0]?=some (W (rdX p s x (valX p s e0))):=by rw [Zmn]; rw [show ws[valX p s e0]?=some (rdX p s x (valX p s e0)) from g5]; rfl
   have g2:valX p s e0 < len:=g2
   have hK:K (.ret (W (rdX p s x (valX p s e0)))) h:=hK
   obtain ⟨j0,hj0⟩:=Zgh g1
   obtain ⟨i1,i2,n1,n2,q1,q2,q3,q4⟩:=A.st.arr hj0
   have gx:=gx
   unfold Rk.cs at gx
   rw [n1,n2] at gx
   simp -dsimp -implicitDefEqProofs only [↓STP,STQ,seval,Exp.v_mk,ir48,gx,slV,List.map_cons,List.map_nil,Exp.v_clen,Exp.v_tk,Exp.v_ag,Exp.v_out]
   refine find30 (ns:=L.ws.map (·.1)) (.inr ⟨i1,by rw [List.length_map],by rw [q1]; unfold anL; rw [List.map_map]; rfl⟩) (by rw [List.length_map]; omega) (fun j hj=>?_) (fun hno=>absurd (List.mem_of_getElem? (by rw [List.getElem?_map,hj0]; rfl)) hno)
   have hjj:j=j0:=Zga (f:=fun r:ByteArray=>r) (by rw [List.map_id']; exact A.st.wsn) hj (show (L.ws.map (·.1))[j0]?=some x by rw [List.getElem?_map,hj0]; rfl) rfl
   subst hjj
   have hji:((j:Nat):Int) < ((L.ws.length:Nat):Int):=by omega
   have g2i:((valX p s e0:Nat):Int) < ((len:Nat):Int):=by omega
   simp -dsimp -implicitDefEqProofs only [↓STP,STQ,seval,gx,slV,eq_true hji,Nat.mul_one,q2,q3,List.map_cons,List.map_nil,Exp.v_clen,Exp.v_tk,Exp.v_ag,Exp.v_out]
   refine ih e0 (by simp) _ (v9 e0 (by simp)) (hks e0 (by simp)) σ L s h _ r0 m0' A ag okt q0 ?_
   simp -dsimp -implicitDefEqProofs only [↓STP,STQ,seval,gx,slV,eq_true hji,Nat.mul_one,q2,q3,g3,g6,eq_true g2i,List.map_cons,List.map_nil,Exp.v_clen,Exp.v_tk,Exp.v_ag,Exp.v_out]
   exact hK
  ·rw [if_neg (by decide),if_neg (by decide),if_neg (by decide),if_pos rfl] at hK rf rlt t2
   obtain ⟨e0,e1,rfl⟩:=len2 (l:=ks) (by have:Zbs 4=2:=rfl; omega)
   obtain ⟨r0,m0',q0⟩:=ka e0 (by simp)
   obtain ⟨r1,m1',q1⟩:=ka e1 (by simp)
   obtain ⟨o1,o7⟩:=v5 rfl
   have hK:K (.ret (W (opX o (valX p s e0) (valX p s e1)))) h:=hK
   have rlt:opX o (valX p s e0) (valX p s e1) < 1152921504606846976:=rlt
   have l0:valX p s e0 < 1152921504606846976:=l0
   have l1:valX p s e1 < 1152921504606846976:=l1
   have kk:(nthK l 0).kind=Zbt o∧(nthK l 1).kind=Zbt o:=by
    unfold opK at t2
    split at t2
    ·cases t2
    ·rename_i hc
     exact ⟨Decidable.byContradiction fun q=>hc (.inl q),Decidable.byContradiction fun q=>hc (.inr q)⟩
   have b0:Zbt o=2→valX p s e0 ≤ 1:=fun hh=>f0.boo (kk.1.trans hh)
   have b1:Zbt o=2→valX p s e1 ≤ 1:=fun hh=>f1.boo (kk.2.trans hh)
   simp -dsimp -implicitDefEqProofs only [↓STP,STQ,seval,Exp.v_mk,ir48,List.map_cons,List.map_nil,Exp.v_clen,Exp.v_tk,Exp.v_ag,Exp.v_out]
   refine ih e0 (by simp) _ (v9 e0 (by simp)) (hks e0 (by simp)) σ L s h _ r0 m0' A ag okt q0 ?_
   simp -dsimp -implicitDefEqProofs only [↓STP,STQ,seval,List.map_cons,List.map_nil,Exp.v_clen,Exp.v_tk,Exp.v_ag,Exp.v_out]
   refine ih e1 (by simp) _ (v9 e1 (by simp)) (hks e1 (by simp)) σ L s h _ r1 m1' A ag okt q1 ?_
   simp -dsimp -implicitDefEqProofs only [↓STP,STQ,seval,List.map_cons,List.map_nil,Exp.v_clen,Exp.v_tk,Exp.v_ag,Exp.v_out]
   refine op30 o1 o7 l0 l1 rlt b0 b1 ?_
   simp -dsimp -implicitDefEqProofs only [↓STP,STQ,seval]
   exact hK
  ·rw [if_neg (by decide),if_neg (by decide),if_neg (by decide),if_neg (by decide),if_pos rfl] at hK t2
   obtain ⟨e0,rfl⟩:=len1 (l:=ks) (by have:Zbs 5=1:=rfl; omega)
   obtain ⟨r0,m0',q0⟩:=ka e0 (by simp)
   have b0:valX p s e0 ≤ 1:=by
    refine f0.boo ?_
    split at t2
    ·cases t2
    ·rename_i hc; exact Decidable.byContradiction hc
   have hK:K (.ret (W (1 - valX p s e0))) h:=hK
   have w1:IntKind.u64.wrap (1 - (valX p s e0:Int))=((1 - valX p s e0:Nat):Int):=by rw [Zaq] <;> omega
   simp -dsimp -implicitDefEqProofs only [↓STP,STQ,seval,Exp.v_mk,ir48,List.map_cons,List.map_nil,Exp.v_clen,Exp.v_tk,Exp.v_ag,Exp.v_out]
   refine ih e0 (by simp) _ (v9 e0 (by simp)) (hks e0 (by simp)) σ L s h _ r0 m0' A ag okt q0 ?_
   simp -dsimp -implicitDefEqProofs only [↓STP,STQ,seval,w1]
   exact hK
  ·rw [if_neg (by decide),if_neg (by decide),if_neg (by decide),if_neg (by decide),if_neg (by decide)] at hK
   obtain ⟨e0,e1,e2,rfl⟩:=len3 (l:=ks) (by have:Zbs 6=3:=rfl; omega)
   obtain ⟨r0,m0',q0⟩:=ka e0 (by simp)
   obtain ⟨r1,m1',q1⟩:=ka e1 (by simp)
   obtain ⟨r2,m2',q2⟩:=ka e2 (by simp)
   have hK:K (.ret (W (if valX p s e0=1 then valX p s e1 else valX p s e2))) h:=hK
   simp -dsimp -implicitDefEqProofs only [↓STP,STQ,seval,Exp.v_mk,ir48,List.map_cons,List.map_nil,Exp.v_clen,Exp.v_tk,Exp.v_ag,Exp.v_out]
   refine ih e0 (by simp) _ (v9 e0 (by simp)) (hks e0 (by simp)) σ L s h _ r0 m0' A ag okt q0 ?_
   have b0:valX p s e0 ≤ 1:=by
    refine f0.boo ?_
    rw [if_neg (by decide),if_neg (by decide),if_neg (by decide),if_neg (by decide),if_neg (by decide)] at t2
    split at t2
    ·cases t2
    ·rename_i hc; exact Decidable.byContradiction fun q=>hc (.inl q)
   by_cases c:valX p s e0=1
   ·rw [if_pos c] at hK
    have c':¬ ((valX p s e0:Nat):Int)=0:=by omega
    simp -dsimp -implicitDefEqProofs only [↓STP,STQ,seval,eq_false c',List.map_cons,List.map_nil,Exp.v_clen,Exp.v_tk,Exp.v_ag,Exp.v_out]
    refine ih e1 (by simp) _ (v9 e1 (by simp)) (hks e1 (by simp)) σ L s h _ r1 m1' A ag okt q1 ?_
    simp -dsimp -implicitDefEqProofs only [↓STP,STQ,seval]
    exact hK
   ·rw [if_neg c] at hK
    have c':((valX p s e0:Nat):Int)=0:=by omega
    simp -dsimp -implicitDefEqProofs only [↓STP,STQ,seval,eq_true c',List.map_cons,List.map_nil,Exp.v_clen,Exp.v_tk,Exp.v_ag,Exp.v_out]
    refine ih e2 (by simp) _ (v9 e2 (by simp)) (hks e2 (by simp)) σ L s h _ r2 m2' A ag okt q2 ?_
    simp -dsimp -implicitDefEqProofs only [↓STP,STQ,seval]
    exact hK
end
end YtljoifdccjcidaaDoor
end Go.Ab
namespace Go.Ab
theorem setE_at {α:Type} {y:ByteArray} {u v:α}:∀ {l:List (ByteArray × α)} {j:Nat},(l.map (·.1)).Nodup→l[j]?=some (y,u)→setE y v l=l.set j (y,v)
 | (a,b) :: l,0,hn,h=>by
  simp at h
  obtain ⟨rfl,rfl⟩:=h
  simp [setE]
 | (a,b) :: l,j + 1,hn,h=>by
  have hn:=List.nodup_cons.1 (show (a :: l.map (·.1)).Nodup from hn)
  have h:l[j]?=some (y,u):=by simpa using h
  have hne:a ≠ y:=fun e=>hn.1 (List.mem_map.2 ⟨_,List.mem_of_getElem? h,e.symm⟩)
  rw [setE,if_neg hne,setE_at hn.2 h]; rfl
theorem delE_at {α:Type} {y:ByteArray} {u:α}:∀ {l:List (ByteArray × α)} {j:Nat},(l.map (·.1)).Nodup→l[j]?=some (y,u)→delE y l=l.take j ++ l.drop (j + 1)
 | (a,b) :: l,0,hn,h=>by
  simp at h
  obtain ⟨rfl,rfl⟩:=h
  simp [delE]
 | (a,b) :: l,j + 1,hn,h=>by
  have hn:=List.nodup_cons.1 (show (a :: l.map (·.1)).Nodup from hn)
  have h:l[j]?=some (y,u):=by simpa using h
  have hne:a ≠ y:=fun e=>hn.1 (List.mem_map.2 ⟨_,List.mem_of_getElem? h,e.symm⟩)
  rw [delE,if_neg hne,delE_at hn.2 h]; rfl
def subV (id a b:Nat):V:=if a < b then .ref id a (b - a) 1 else .vec [] .any
theorem slc_to {id n j:Nat} {k:IntKind} (h:j ≤ n):slcV (.ref id 0 n 1) none (some (.int k (j:Int))) none 1=some (subV id 0 j):=by
 simp only [slcV,Zc9,if_true]
 rw [if_pos ⟨Int.natCast_nonneg _,by omega⟩]
 simp only [Int.toNat_natCast,subV,Nat.zero_mul,Nat.add_zero]
 split <;> rfl
theorem slc_from {id n j:Nat} {k:IntKind} (h:j ≤ n):slcV (.ref id 0 n 1) (some (.int k (j:Int))) none none 1=some (subV id j n):=by
 simp only [slcV,Zc9,if_true]
 rw [if_pos ⟨Int.natCast_nonneg _,by omega⟩]
 simp only [Int.toNat_natCast,subV,Nat.zero_add,Nat.mul_one]
 split <;> rfl
theorem sub_read {h:H} {id a b:Nat} {cs:List V} (hg:h.get id=some cs) (hb:b ≤ cs.length):lenV (subV id a b)=some (b - a)∧flat h (subV id a b)=some ((cs.drop a).take (b - a)):=by
 unfold subV
 split
 ·rename_i hab
  exact ⟨rfl,by simp only [flat,hg,Nat.mul_one]⟩
 ·rename_i hab
  have:b - a=0:=by omega
  exact ⟨by rw [this]; rfl,by rw [this]; simp [flat]⟩
theorem sl_more {h:H} {o:Option Nat} {cs src:List V} {id a b n bytes:Nat} (A:SlAt h o cs) (hn:cs.length=n) (hg:h.get id=some src) (hab:a ≤ b) (hb:b ≤ src.length) (hy:bytes ≤ 4096) (hl:n + (b - a) ≤ 1000000) (ho:o ≠ some id) :
  ∃ (o':Option Nat) (h':H),(∀ (st:S) (s:Nat) (ag:Bool),st.h=h→appV st s (slV o n) (subV id a b) 1 bytes ag true=some (slV o' (n + (b - a)),st.withH h')) ∧
   SlAt h' o' (cs ++ (src.drop a).take (b - a))∧h.next ≤ h'.next∧(∀ i,i < h.next→o ≠ some i→h'.objs i=h.objs i)∧(∀ i,o'=some i→o=some i∨(h.next ≤ i∧i < h'.next)):=by
 subst hn
 obtain ⟨e1,e2⟩:=sub_read (a:=a) hg hb
 have hlen:((src.drop a).take (b - a)).length=b - a:=by rw [List.length_take,List.length_drop]; omega
 by_cases hz:b - a=0
 ·refine ⟨o,h,fun st s ag hs=>?_,by rw [hz,List.take_zero,List.append_nil]; exact A,Nat.le_refl _,fun _ _ _=>rfl,fun i hi=>.inl hi⟩
  subst hs
  simp only [appV,e1,e2]
  rw [if_pos ⟨by rw [hlen,Nat.mul_one],by decide,hy⟩,hz]
  cases o with
  | none =>
   have A:cs=[]:=A
   subst A
   rfl
  | some i =>
   have hgi:=Zai A.2
   simp only [slV,hgi]
   rw [if_neg (by omega),if_pos trivial]; rfl
 ·cases o with
  | none =>
   have A:cs=[]:=A
   subst A
   refine ⟨some h.next,h.new (.cells ((src.drop a).take (b - a))),fun st s ag hs=>?_,⟨by simp only [List.nil_append]; intro e; rw [e] at hlen; simp at hlen; omega,by rw [Zac,if_pos rfl]; rfl⟩,by rw [Zag]; omega,fun i hi _=>by rw [Zac,if_neg (Nat.ne_of_lt hi)],fun i hi=>by cases hi; exact .inr ⟨Nat.le_refl _,by rw [Zag]; omega⟩⟩
   subst hs
   simp only [appV,e1,e2]
   rw [if_pos ⟨by rw [hlen,Nat.mul_one],by decide,hy⟩]
   simp only [slV,List.length_nil,Nat.zero_add]
   rw [if_pos ⟨by unfold most; omega,by omega⟩]
  | some i =>
   have hgi:=Zai A.2
   refine ⟨some h.next,h.move i (.cells (cs ++ (src.drop a).take (b - a))),fun st s ag hs=>?_,⟨by intro e; exact A.1 (List.append_eq_nil_iff.1 e).1,by rw [Zb2,if_pos rfl]⟩,by rw [Zif]; omega,fun q hq hne=>by rw [Zb2,if_neg (Nat.ne_of_lt hq),if_neg (fun e=>hne (by rw [e]))],fun q hq=>by cases hq; exact .inr ⟨Nat.le_refl _,by rw [Zif]; omega⟩⟩
   subst hs
   simp only [appV,e1,e2]
   rw [if_pos ⟨by rw [hlen,Nat.mul_one],by decide,hy⟩]
   simp only [slV,hgi]
   rw [if_pos ⟨by rw [Nat.mul_one],trivial,by unfold most; omega,by omega⟩]
theorem sl_drop {h:H} {id j n bytes:Nat} {src:List V} (hg:h.get id=some src) (hn:src.length=n) (hj:j < n) (hy:bytes ≤ 4096) (hl:n ≤ 1000000) (hid:id < h.next) :
  ∃ (o1:Option Nat) (h1:H) (o2:Option Nat) (h2:H),(∀ (st:S) (s:Nat) (ag:Bool),st.h=h→appV st s (.vec [] .full) (subV id 0 j) 1 bytes ag true=some (slV o1 j,st.withH h1)) ∧
   (∀ (st:S) (s:Nat) (ag:Bool),st.h=h1→appV st s (slV o1 j) (subV id (j + 1) n) 1 bytes ag true=some (slV o2 (n - 1),st.withH h2))∧SlAt h2 o2 (src.take j ++ src.drop (j + 1)) ∧
   (h.next ≤ h1.next∧h1.next ≤ h2.next)∧(∀ i,i < h.next→h1.objs i=h.objs i∧h2.objs i=h.objs i)∧(∀ i,o2=some i→h.next ≤ i∧i < h2.next):=by
 subst hn
 obtain ⟨o1,h1,a1,a2,a3,a4,a5⟩:=sl_more (h:=h) (o:=none) (cs:=[]) (id:=id) (a:=0) (b:=j) (bytes:=bytes) rfl rfl hg (Nat.zero_le _) (Nat.le_of_lt hj) hy (by simp; omega) (by simp)
 simp only [List.nil_append,Nat.sub_zero,List.drop_zero,Nat.zero_add,List.length_nil] at a1 a2
 have ho1:∀ i,o1=some i→h.next ≤ i∧i < h1.next:=fun i hi=>(a5 i hi).elim (fun e=>by cases e) (fun e=>e)
 have hg1:h1.get id=some src:=by unfold H.get; rw [a4 id hid (by simp)]; exact hg
 have hlen:(src.take j).length=j:=by rw [List.length_take]; omega
 obtain ⟨o2,h2,b1,b2,b3,b4,b5⟩:=sl_more (h:=h1) (o:=o1) (id:=id) (a:=j + 1) (b:=src.length) (bytes:=bytes) a2 hlen hg1 hj (Nat.le_refl _) hy (by omega) (fun e=>by have:=ho1 _ e; omega)
 refine ⟨o1,h1,o2,h2,a1,fun st s ag hs=>?_,?_,⟨a3,b3⟩,fun i hi=>⟨a4 i hi (by simp),?_⟩,fun i hi=>?_⟩
 ·rw [b1 st s ag hs,show j + (src.length - (j + 1))=src.length - 1 by omega]
 ·have:(src.drop (j + 1)).take (src.length - (j + 1))=src.drop (j + 1):=List.take_of_length_le (by rw [List.length_drop]; exact Nat.le_refl _)
  rw [this] at b2; exact b2
 ·rw [b4 i (by omega) (fun e=>by have:=ho1 _ e; omega)]; exact a4 i hi (by simp)
 ·rcases b5 i hi with e | e
  ·have:=ho1 i e; omega
  ·omega
theorem StR.nd_lt {L L':Rk} {told:List Nat} {h h':H} (A:StR L told h) (hnx:h.next ≤ h'.next) (new:∀ k id,L'.slot k=some id→L.slot k=some id∨(h.next ≤ id∧id < h'.next)) (dn:∀ i j id,h.next ≤ id→L'.slot i=some id→L'.slot j=some id→i=j) :
  (∀ i j id,L'.slot i=some id→L'.slot j=some id→i=j)∧(∀ i id,L'.slot i=some id→id < h'.next):=by
 refine ⟨fun i j id hi hj=>?_,fun i id hi=>?_⟩
 ·rcases new i id hi with h1 | ⟨h1,_⟩
  ·rcases new j id hj with h2 | ⟨h2,_⟩
   ·exact A.nd i j id h1 h2
   ·have:=A.lt i id h1; omega
  ·exact dn i j id h1 hi hj
 ·rcases new i id hi with h1 | ⟨_,h1⟩
  ·have:=A.lt i id h1; omega
  ·exact h1
theorem AtR.vars {p:Prg} {L:Rk} {s:RS} {h h':H} (A:AtR p L s h) {n' v':Option Nat} {es':List (ByteArray × Nat)} {vars':ByteArray→Option Nat} (hnx:h.next ≤ h'.next)
  (x':h'.objs L.x=some (.cells (Rk.cs { L with n:=n',v:=v',es:=es' } s.told.length)))
  (same:∀ id,id < h.next→id ≠ L.x→L.n ≠ some id→L.v ≠ some id→h'.objs id=h.objs id) (hn:SlAt h' n' (nmL es')) (hv:SlAt h' v' (vlL es')) (esn:(es'.map (·.1)).Nodup) (el:es'.length ≤ 1000000) (he:∀ y,Zaf y es'=vars' y)
  (new1:∀ id,n'=some id→L.n=some id∨(h.next ≤ id∧id < h'.next)) (new2:∀ id,v'=some id→L.v=some id∨(h.next ≤ id∧id < h'.next)) (dn:∀ id,h.next ≤ id→n'=some id→v' ≠ some id) :
  AtR p { L with n:=n',v:=v',es:=es' } { s with vars:=vars' } h'∧FrR L { L with n:=n',v:=v',es:=es' } h h':=by
 have S:=A.st
 have keep:∀ (k id:Nat),k ≠ 0→k ≠ 1→k ≠ 2→L.slot k=some id→h'.objs id=h.objs id:=fun k id k0 k1 k2 hk =>
  same id (S.lt k id hk) (fun e=>k0 (S.nd k 0 id hk (by rw [e]; rfl))) (fun e=>k1 (S.nd k 1 id hk e)) (fun e=>k2 (S.nd k 2 id hk e))
 have slot':∀ k,k ≠ 1→k ≠ 2→Rk.slot { L with n:=n',v:=v',es:=es' } k=L.slot k:=by
  intro k k1 k2
  match k with
  | 0=>rfl
  | 1=>exact absurd rfl k1
  | 2=>exact absurd rfl k2
  | 3=>rfl
  | 4=>rfl
  | 5=>rfl
  | k + 6=>rfl
 have new:∀ k id,Rk.slot { L with n:=n',v:=v',es:=es' } k=some id→L.slot k=some id∨(h.next ≤ id∧id < h'.next):=by
  intro k id hk
  by_cases k1:k=1
  ·subst k1; exact new1 id hk
  by_cases k2:k=2
  ·subst k2; exact new2 id hk
  rw [slot' k k1 k2] at hk
  exact .inl hk
 obtain ⟨nd',lt'⟩:=S.nd_lt hnx new (fun i j id hid hi hj=>by
  have at12:∀ k,Rk.slot { L with n:=n',v:=v',es:=es' } k=some id→k=1∨k=2:=fun k hk=>by
   rcases Nat.decEq k 1 with k1 | k1
   ·rcases Nat.decEq k 2 with k2 | k2
    ·rw [slot' k k1 k2] at hk
     have:=S.lt k id hk
     omega
    ·exact .inr k2
   ·exact .inl k1
  rcases at12 i hi with rfl | rfl <;> rcases at12 j hj with rfl | rfl
  ·rfl
  ·exact absurd hj (dn id hid hi)
  ·exact absurd hi (dn id hid hj)
  ·rfl)
 have kw:∀ {y:ByteArray} {id n:Nat},Zaf y L.ws=some (id,n)→h'.objs id=h.objs id:=fun hf=>by
  obtain ⟨j,hj,_⟩:=S.ws_slot hf
  exact keep _ _ (by omega) (by omega) (by omega) hj
 refine ⟨⟨⟨x',hn,hv,S.a.keep fun id e=>keep 3 id (by decide) (by decide) (by decide) e,S.w.keep fun id e=>keep 4 id (by decide) (by decide) (by decide) e,S.t.keep fun id e=>keep 5 id (by decide) (by decide) (by decide) e,esn,S.wsn,el,S.wl,nd',lt'⟩,he,fun i d hd=>?_,fun y d hd hz=>?_⟩,⟨hnx,rfl,fun id hid hno=>same id hid (fun e=>hno 0 (by rw [e]; rfl)) (hno 1) (hno 2),fun i id hi=>?_⟩⟩
 ·obtain ⟨id,ws,a,b,c⟩:=A.ars i d hd
  exact ⟨id,ws,a,b,by rw [kw b]; exact c⟩
 ·obtain ⟨id,b,c⟩:=A.inw y d hd hz
  exact ⟨id,b,by rw [kw b]; exact c⟩
 ·rcases new i id hi with e | ⟨e,_⟩
  ·exact .inl ⟨i,e⟩
  ·exact .inr e
theorem nm_set {l:List (ByteArray × Nat)} {j:Nat} {y:ByteArray} {u v:Nat} (h:l[j]?=some (y,u)):nmL (l.set j (y,v))=nmL l:=by
 unfold nmL
 rw [List.map_set]
 apply List.ext_getElem?
 intro i
 rw [List.getElem?_set]
 split
 ·rename_i e
  subst e
  have hlt:=(List.getElem?_eq_some_iff.1 h).1
  rw [if_pos (by simpa using hlt),List.getElem?_map,h]; rfl
 ·rfl
theorem vl_set {l:List (ByteArray × Nat)} {j:Nat} {y:ByteArray} {v:Nat}:vlL (l.set j (y,v))=(vlL l).set j (W v):=by unfold vlL; rw [List.map_set]
theorem Zc6 {h:H} {id:Nat} {cs:List V}:(h.set id (.cells cs)).objs id=some (.cells cs):=by rw [Zaa,if_pos rfl]
theorem AtR.over {p:Prg} {L:Rk} {s:RS} {h:H} (A:AtR p L s h) {y:ByteArray} {u n j i2:Nat} (hj:L.es[j]?=some (y,u)) (hv:L.v=some i2) :
  AtR p { L with es:=setE y n L.es } { s with vars:=setM s.vars y (some n) } (h.set i2 (.cells ((vlL L.es).set j (W n))))∧FrR L { L with es:=setE y n L.es } h (h.set i2 (.cells ((vlL L.es).set j (W n)))):=by
 have S:=A.st
 have e:=setE_at (v:=n) S.esn hj
 have hlt:=(List.getElem?_eq_some_iff.1 hj).1
 have hx:L.x ≠ i2:=fun e=>by have:=S.nd 0 2 i2 (by rw [← e]; rfl) hv; omega
 have hn:∀ id,L.n=some id→id ≠ i2:=fun id hi e=>by have:=S.nd 1 2 i2 (by rw [← e]; exact hi) hv; omega
 have:=A.vars (h':=h.set i2 (.cells ((vlL L.es).set j (W n)))) (n':=L.n) (v':=L.v) (es':=setE y n L.es) (vars':=setM s.vars y (some n)) (Nat.le_refl _)
  (by rw [Zaa,if_neg hx,S.x]; show some (O.cells (L.cs _))=some (O.cells (Rk.cs { L with es:=setE y n L.es } _)); simp only [Rk.cs,e,List.length_set])
  (fun id _ _ _ h3=>by rw [Zaa,if_neg (fun e=>h3 (by rw [hv,e]))])
  (by rw [e,nm_set hj]; exact S.n.keep fun id hi=>by rw [Zaa,if_neg (hn id hi)])
  (by rw [e,vl_set,hv]; exact ⟨by intro h0; have:=congrArg List.length h0; simp [vlL] at this; rw [this] at hlt; simp at hlt,Zc6⟩)
  (Zee S.esn) (by rw [e,List.length_set]; exact S.el) (fun t=>by rw [Zcx,A.es]; rfl) (fun id h=>.inl h) (fun id h=>.inl h) (fun id hid h1 h2=>by have:=S.nd 1 2 id h1 h2; omega)
 exact this
theorem AtR.new {p:Prg} {L:Rk} {s:RS} {h:H} (A:AtR p L s h) (y:ByteArray) (n:Nat) (hy:y ∉ L.es.map (·.1)) (hl:L.es.length < 1000000):∃ h1 h2:H,
  (∀ (st:S) (q:Nat) (ag:Bool) (c2:Cap),st.h=h→appV st q (slV L.n L.es.length) (.vec [.str y] c2) 1 16 ag true=some (.ref h.next 0 (L.es.length + 1) 1,st.withH h1)) ∧
  (∀ (st:S) (q:Nat) (ag:Bool) (c2:Cap),st.h=h1→appV st q (slV L.v L.es.length) (.vec [W n] c2) 1 8 ag true=some (.ref (h.next + 1) 0 (L.es.length + 1) 1,st.withH h2)) ∧
  h1.get L.x=some (L.cs s.told.length)∧h2.get L.x=some (L.cs s.told.length) ∧
  AtR p { L with n:=some h.next,v:=some (h.next + 1),es:=setE y n L.es } { s with vars:=setM s.vars y (some n) } (h2.set L.x (.cells [.ref h.next 0 (L.es.length + 1) 1,.ref (h.next + 1) 0 (L.es.length + 1) 1,slV L.a L.ws.length,slV L.w L.ws.length,slV L.t s.told.length])) ∧
  FrR L { L with n:=some h.next,v:=some (h.next + 1),es:=setE y n L.es } h (h2.set L.x (.cells [.ref h.next 0 (L.es.length + 1) 1,.ref (h.next + 1) 0 (L.es.length + 1) 1,slV L.a L.ws.length,slV L.w L.ws.length,slV L.t s.told.length])):=by
 have S:=A.st
 have e:=Zcm (v:=n) hy
 have hxl:=S.lt 0 L.x rfl
 obtain ⟨h1,a1,a2,a3,a4⟩:=Zj7 (el:=.str y) (bytes:=16) S.n (show (nmL L.es).length=L.es.length by simp [nmL]) rfl (by decide) hl
 have v1:SlAt h1 L.v (vlL L.es):=S.v.keep fun id hi=>a4 id (S.lt 2 id hi) fun e=>by have:=S.nd 1 2 id e hi; omega
 obtain ⟨h2,b1,b2,b3,b4⟩:=Zj7 (el:=W n) (bytes:=8) v1 (show (vlL L.es).length=L.es.length by simp [vlL]) rfl (by decide) hl
 rw [a3] at b1 b2 b3 b4
 have x1:h1.objs L.x=h.objs L.x:=a4 _ hxl fun e=>by have:=S.nd 1 0 L.x e rfl; omega
 have x2:h2.objs L.x=h.objs L.x:=by rw [b4 _ (by omega) (fun e=>by have:=S.nd 2 0 L.x e rfl; omega)]; exact x1
 refine ⟨h1,h2,a1,b1,Zai (by rw [x1]; exact S.x),Zai (by rw [x2]; exact S.x),?_⟩
 refine A.vars (n':=some h.next) (v':=some (h.next + 1)) (es':=setE y n L.es) (vars':=setM s.vars y (some n)) (by rw [Zax]; omega) ?_ (fun id hid g0 g1 g2=>?_) ?_ ?_ (Zee S.esn) (by rw [e,List.length_append]; simp; omega) (fun t=>by rw [Zcx,A.es]; rfl)
  (fun id hi=>by cases hi; exact .inr ⟨Nat.le_refl _,by rw [Zax]; omega⟩) (fun id hi=>by cases hi; exact .inr ⟨by omega,by rw [Zax]; omega⟩) (fun id _ h1 h2=>by cases h1; simp at h2)
 ·rw [Zc6]
  simp only [Rk.cs,e,slV,List.length_append,List.length_cons,List.length_nil]
 ·rw [Zaa,if_neg g0,b4 id (by omega) g2,a4 id hid g1]
 ·rw [e]
  have:=b4 h.next (by omega) (fun e=>by have:=S.lt 2 _ e; omega)
  have a2:SlAt h1 (some h.next) (nmL L.es ++ [.str y]):=a2
  have q:SlAt h2 (some h.next) (nmL (L.es ++ [(y,n)])):=by
   unfold nmL at a2 ⊢
   rw [List.map_append]
   exact a2.keep fun id hi=>by cases hi; exact this
  exact q.keep fun id hi=>by cases hi; rw [Zaa,if_neg (by omega)]
 ·rw [e]
  have b2:SlAt h2 (some (h.next + 1)) (vlL L.es ++ [W n]):=b2
  have q:SlAt h2 (some (h.next + 1)) (vlL (L.es ++ [(y,n)])):=by
   unfold vlL at b2 ⊢
   rw [List.map_append]
   exact b2
  exact q.keep fun id hi=>by cases hi; rw [Zaa,if_neg (by omega)]
end Go.Ab
namespace Go.Ab
theorem Zeu {h:H} {id j:Nat} {cs:List V} {v:V} (hj:j < cs.length) (hv:v.outS=some v) (hc:v.cells=[v]) {ρ:Nat→V} {m:Nat→Option (List V)} {n:Nat} {u:List Nat} :
  Zae ⟨ρ,m,n,u,h.set id (.cells cs)⟩ (.ptr id j) v 1=some ⟨ρ,m,n,u,h.set id (.cells (cs.set j v))⟩:=by
 rw [Zbv (Zai Zc6) hj hv hc,Zf5]
theorem AtR.gone {p:Prg} {L:Rk} {s:RS} {h:H} (A:AtR p L s h) {y:ByteArray} {u j i1 i2:Nat} (hj:L.es[j]?=some (y,u)) (hn:L.n=some i1) (hv:L.v=some i2):∃ (o1:Option Nat) (h1:H) (o2:Option Nat) (h2:H) (o3:Option Nat) (h3:H) (o4:Option Nat) (h4:H),
  (∀ (st:S) (q:Nat) (ag:Bool),st.h=h→appV st q (.vec [] .full) (subV i1 0 j) 1 16 ag true=some (slV o1 j,st.withH h1)) ∧
  (∀ (st:S) (q:Nat) (ag:Bool),st.h=h1→appV st q (slV o1 j) (subV i1 (j + 1) L.es.length) 1 16 ag true=some (slV o2 (L.es.length - 1),st.withH h2)) ∧
  (∀ (st:S) (q:Nat) (ag:Bool),st.h=h2→appV st q (.vec [] .full) (subV i2 0 j) 1 8 ag true=some (slV o3 j,st.withH h3)) ∧
  (∀ (st:S) (q:Nat) (ag:Bool),st.h=h3→appV st q (slV o3 j) (subV i2 (j + 1) L.es.length) 1 8 ag true=some (slV o4 (L.es.length - 1),st.withH h4)) ∧
  h1.get L.x=some (L.cs s.told.length)∧h2.get L.x=some (L.cs s.told.length)∧h3.get L.x=some (L.cs s.told.length)∧h4.get L.x=some (L.cs s.told.length) ∧
  AtR p { L with n:=o2,v:=o4,es:=delE y L.es } { s with vars:=setM s.vars y none } (h4.set L.x (.cells [slV o2 (L.es.length - 1),slV o4 (L.es.length - 1),slV L.a L.ws.length,slV L.w L.ws.length,slV L.t s.told.length])) ∧
  FrR L { L with n:=o2,v:=o4,es:=delE y L.es } h (h4.set L.x (.cells [slV o2 (L.es.length - 1),slV o4 (L.es.length - 1),slV L.a L.ws.length,slV L.w L.ws.length,slV L.t s.told.length])):=by
 have S:=A.st
 have e:=delE_at S.esn hj
 have hlt:=(List.getElem?_eq_some_iff.1 hj).1
 have hxl:=S.lt 0 L.x rfl
 have q1:=S.n
 have q2:=S.v
 rw [hn] at q1
 rw [hv] at q2
 have l1:=S.lt 1 i1 hn
 have l2:=S.lt 2 i2 hv
 obtain ⟨o1,h1,o2,h2,a1,a2,a3,⟨a4,a5⟩,a6,a7⟩:=sl_drop (bytes:=16) (Zai q1.2) (show (nmL L.es).length=L.es.length by simp [nmL]) hlt (by decide) S.el l1
 have g2:h2.get i2=some (vlL L.es):=Zai (by rw [(a6 i2 l2).2]; exact q2.2)
 obtain ⟨o3,h3,o4,h4,b1,b2,b3,⟨b4,b5⟩,b6,b7⟩:=sl_drop (bytes:=8) g2 (show (vlL L.es).length=L.es.length by simp [vlL]) hlt (by decide) S.el (by omega)
 have x1:=(a6 L.x hxl).1
 have x2:=(a6 L.x hxl).2
 have x3:=(b6 L.x (by omega)).1
 have x4:=(b6 L.x (by omega)).2
 refine ⟨o1,h1,o2,h2,o3,h3,o4,h4,a1,a2,b1,b2,Zai (by rw [x1]; exact S.x),Zai (by rw [x2]; exact S.x),Zai (by rw [x3,x2]; exact S.x),Zai (by rw [x4,x2]; exact S.x),?_⟩
 have hlen:(delE y L.es).length=L.es.length - 1:=by rw [e,List.length_append,List.length_take,List.length_drop]; omega
 refine A.vars (n':=o2) (v':=o4) (es':=delE y L.es) (vars':=setM s.vars y none) (by rw [Zax]; omega) ?_ (fun id hid g0 _ _=>?_) ?_ ?_ (List.Nodup.sublist Zi9 S.esn) (by rw [hlen]; have:=S.el; omega) (fun t=>by rw [Zgg S.esn,A.es]; rfl)
  (fun id hi=>.inr ⟨(a7 id hi).1,by rw [Zax]; have:=(a7 id hi).2; omega⟩) (fun id hi=>.inr ⟨by have:=(b7 id hi).1; omega,by rw [Zax]; exact (b7 id hi).2⟩) (fun id _ g1 g2=>by have:=(a7 id g1).2; have:=(b7 id g2).1; omega)
 ·rw [Zc6]
  simp only [Rk.cs,hlen]
 ·rw [Zaa,if_neg g0,(b6 id (by omega)).2,(a6 id hid).2]
 ·rw [e]
  unfold nmL at a3 ⊢
  rw [List.map_append,List.map_take,List.map_drop]
  exact a3.keep fun id hi=>by
   have:=a7 id hi
   rw [Zaa,if_neg (by omega),(b6 id (by omega)).2]
 ·rw [e]
  unfold vlL at b3 ⊢
  rw [List.map_append,List.map_take,List.map_drop]
  exact b3.keep fun id hi=>by
   have:=b7 id hi
   rw [Zaa,if_neg (by omega)]
theorem AtR.word {p:Prg} (hp:PV p) {L:Rk} {s:RS} {h:H} (A:AtR p L s h) {j:Nat} {d:ArD} {ws:List Nat} {id n v:Nat} (hd:p.arrays[j]?=some d) (hj:s.words[j]?=some ws) (hf:Zaf d.name L.ws=some (id,ws.length)) :
  AtR p L { s with words:=setW s.words j n v } (h.set id (.cells (Ws (ws.set n v))))∧FrR L L h (h.set id (.cells (Ws (ws.set n v)))):=by
 have S:=A.st
 obtain ⟨k0,hk0,hk1⟩:=S.ws_slot hf
 have ne:∀ k i,k ≠ k0 + 6→L.slot k=some i→i ≠ id:=fun k i hk hi e=>hk (S.nd k (k0 + 6) i hi (by rw [e]; exact hk0))
 have nf:∀ {y:ByteArray} {i m:Nat},Zaf y L.ws=some (i,m)→y ≠ d.name→i ≠ id:=fun {y i m} hy hne e=>by
  obtain ⟨k1,h1,h2⟩:=S.ws_slot hy
  have:=S.nd (k1 + 6) (k0 + 6) i h1 (by rw [e]; exact hk0)
  have:k1=k0:=by omega
  subst this
  rw [h2] at hk1
  cases hk1
  exact hne rfl
 have k:∀ (q:Nat) {i:Nat},q < 6→L.slot q=some i→(h.set id (.cells (Ws (ws.set n v)))).objs i=h.objs i:=fun q i hq hi=>by rw [Zaa,if_neg (ne q i (by omega) hi)]
 refine ⟨⟨⟨by rw [k 0 (by decide) rfl]; exact S.x,S.n.keep fun i hi=>k 1 (by decide) hi,S.v.keep fun i hi=>k 2 (by decide) hi,S.a.keep fun i hi=>k 3 (by decide) hi,S.w.keep fun i hi=>k 4 (by decide) hi,S.t.keep fun i hi=>k 5 (by decide) hi,S.esn,S.wsn,S.el,S.wl,S.nd,S.lt⟩,A.es,fun i e he=>?_,fun y e he hz=>?_⟩,⟨Nat.le_refl _,rfl,fun i _ hno=>by rw [Zaa,if_neg (fun e=>hno (k0 + 6) (by rw [e]; exact hk0))],fun i _ hi=>.inl ⟨i,hi⟩⟩⟩
 ·by_cases c:i=j
  ·subst c
   rw [hd] at he; cases he
   refine ⟨id,ws.set n v,?_,by rw [List.length_set]; exact hf,by rw [Zaa,if_pos rfl]⟩
   show (setW s.words i n v)[i]?=_
   rw [Zex,if_pos rfl,hj]; rfl
  ·obtain ⟨id',ws',a,b,q⟩:=A.ars i e he
   have hne:e.name ≠ d.name:=fun en=>c (Zga (List.nodup_append.1 hp.nm).2.1 he hd en)
   refine ⟨id',ws',?_,b,by rw [Zaa,if_neg (nf b hne)]; exact q⟩
   show (setW s.words j n v)[i]?=_
   rw [Zex,if_neg c]; exact a
 ·obtain ⟨id',b,q⟩:=A.inw y e he hz
  have hne:y ≠ d.name:=fun en=>by
   obtain ⟨m1,m2⟩:=Zcn he
   exact (List.nodup_append.1 hp.nm).2.2 e.name (List.mem_map.2 ⟨e,m1,rfl⟩) d.name (List.mem_map.2 ⟨d,List.mem_of_getElem? hd,rfl⟩) (m2.trans en)
  exact ⟨id',b,by rw [Zaa,if_neg (nf b hne)]; exact q⟩
theorem AtR.tell {p:Prg} {L:Rk} {s:RS} {h:H} (A:AtR p L s h) (n:Nat) (hl:s.told.length < 1000000):∃ h1:H,
  (∀ (st:S) (q:Nat) (ag:Bool) (c2:Cap),st.h=h→appV st q (slV L.t s.told.length) (.vec [W n] c2) 1 8 ag true=some (.ref h.next 0 (s.told.length + 1) 1,st.withH h1))∧h1.get L.x=some (L.cs s.told.length) ∧
  AtR p { L with t:=some h.next } { s with told:=s.told ++ [n] } (h1.set L.x (.cells [slV L.n L.es.length,slV L.v L.es.length,slV L.a L.ws.length,slV L.w L.ws.length,.ref h.next 0 (s.told.length + 1) 1])) ∧
  FrR L { L with t:=some h.next } h (h1.set L.x (.cells [slV L.n L.es.length,slV L.v L.es.length,slV L.a L.ws.length,slV L.w L.ws.length,.ref h.next 0 (s.told.length + 1) 1])):=by
 have S:=A.st
 have hxl:=S.lt 0 L.x rfl
 obtain ⟨h1,a1,a2,a3,a4⟩:=Zj7 (el:=W n) (bytes:=8) S.t (show (Ws s.told).length=s.told.length from Za7) rfl (by decide) hl
 have keep:∀ (k id:Nat),k ≠ 0→k ≠ 5→L.slot k=some id→(h1.set L.x (.cells [slV L.n L.es.length,slV L.v L.es.length,slV L.a L.ws.length,slV L.w L.ws.length,.ref h.next 0 (s.told.length + 1) 1])).objs id=h.objs id:=fun k id k0 k5 hk=>by
  rw [Zaa,if_neg (fun e=>k0 (S.nd k 0 id hk (by rw [e]; rfl))),a4 id (S.lt k id hk) (fun e=>k5 (S.nd k 5 id hk e))]
 have slot':∀ k,k ≠ 5→Rk.slot { L with t:=some h.next } k=L.slot k:=by
  intro k k5
  match k with
  | 0=>rfl
  | 1=>rfl
  | 2=>rfl
  | 3=>rfl
  | 4=>rfl
  | 5=>exact absurd rfl k5
  | k + 6=>rfl
 have new:∀ k id,Rk.slot { L with t:=some h.next } k=some id→L.slot k=some id∨(h.next ≤ id∧id < (h1.set L.x (.cells [slV L.n L.es.length,slV L.v L.es.length,slV L.a L.ws.length,slV L.w L.ws.length,.ref h.next 0 (s.told.length + 1) 1])).next):=by
  intro k id hk
  by_cases k5:k=5
  ·subst k5
   cases hk
   exact .inr ⟨Nat.le_refl _,by rw [Zax]; omega⟩
  rw [slot' k k5] at hk
  exact .inl hk
 obtain ⟨nd',lt'⟩:=S.nd_lt (by rw [Zax]; omega) new (fun i j id hid hi hj=>by
  have at5:∀ k,Rk.slot { L with t:=some h.next } k=some id→k=5:=fun k hk=>by
   rcases Nat.decEq k 5 with k5 | k5
   ·rw [slot' k k5] at hk
    have:=S.lt k id hk
    omega
   ·exact k5
  rw [at5 i hi,at5 j hj])
 have kw:∀ {y:ByteArray} {id n:Nat},Zaf y L.ws=some (id,n)→(h1.set L.x (.cells [slV L.n L.es.length,slV L.v L.es.length,slV L.a L.ws.length,slV L.w L.ws.length,.ref h.next 0 (s.told.length + 1) 1])).objs id=h.objs id:=fun hf=>by
  obtain ⟨j,hj,_⟩:=S.ws_slot hf
  exact keep _ _ (by omega) (by omega) hj
 refine ⟨h1,a1,Zai (by rw [a4 _ hxl (fun e=>by have:=S.nd 5 0 L.x e rfl; omega)]; exact S.x),⟨⟨?_,S.n.keep fun id e=>keep 1 id (by decide) (by decide) e,S.v.keep fun id e=>keep 2 id (by decide) (by decide) e,S.a.keep fun id e=>keep 3 id (by decide) (by decide) e,S.w.keep fun id e=>keep 4 id (by decide) (by decide) e,?_,S.esn,S.wsn,S.el,S.wl,nd',lt'⟩,A.es,fun i d hd=>?_,fun y d hd hz=>?_⟩,⟨by rw [Zax]; omega,rfl,fun id hid hno=>?_,fun i id hi=>?_⟩⟩
 ·rw [Zc6]
  simp only [Rk.cs,slV,List.length_append,List.length_cons,List.length_nil]
 ·have a2:SlAt h1 (some h.next) (Ws s.told ++ [W n]):=a2
  have e:Ws (s.told ++ [n])=Ws s.told ++ [W n]:=by simp [Ws]
  show SlAt _ (some h.next) (Ws (s.told ++ [n]))
  rw [e]
  exact a2.keep fun id hi=>by cases hi; rw [Zaa,if_neg (by omega)]
 ·obtain ⟨id,ws,a,b,c⟩:=A.ars i d hd
  exact ⟨id,ws,a,b,by rw [kw b]; exact c⟩
 ·obtain ⟨id,b,c⟩:=A.inw y d hd hz
  exact ⟨id,b,by rw [kw b]; exact c⟩
 ·rw [Zaa,if_neg (fun e=>hno 0 (by rw [e]; rfl)),a4 id hid (hno 5)]
 ·rcases new i id hi with e | ⟨e,_⟩
  ·exact .inl ⟨i,e⟩
  ·exact .inr e
namespace YtljoifdccjcidaaDoor
section
variable {h:H} {K:Out→H→Prop} {p:Prg} {L:Rk} {s:RS}
theorem nmAt (S:StR L s.told h):NmAt h (slV L.n L.es.length).outv (L.es.map (·.1))∧(slV L.n L.es.length).out=some (slV L.n L.es.length).outv:=by
 have q:=S.n
 cases hn:L.n with
 | none =>
  rw [hn] at q
  have q:nmL L.es=[]:=q
  have:L.es=[]:=by unfold nmL at q; simpa using q
  exact ⟨.inl ⟨by rw [this]; rfl,rfl⟩,rfl⟩
 | some i =>
  rw [hn] at q
  exact ⟨.inr ⟨i,by rw [List.length_map]; rfl,by rw [Zai q.2]; unfold nmL; rw [List.map_map]; rfl⟩,rfl⟩
theorem set30 (A:AtR p L s h) {y:ByteArray} {n:Nat} (hl:L.es.length < 1000000) (hK:∀ L' h',AtR p L' { s with vars:=setM s.vars y (some n) } h'→FrR L L' h h'→L'.es=setE y n L.es∧L'.ws=L.ws→K (.ret (.tuple [])) h') :
  R 33 [.ptr L.x 0,.str y,W n] h K:=by
 refine run33 (Nat.le_of_ble_eq_true rfl) ?_
 have gx:=Zai A.st.x
 unfold Rk.cs at gx
 obtain ⟨n1,n2⟩:=nmAt A.st
 simp -dsimp -implicitDefEqProofs only [↓STP,STQ,seval,ir33,gx,n2]
 refine find30 n1 (by rw [List.length_map]; exact A.st.el) (fun j hj=>?_) (fun hno=>?_)
 ·rw [List.getElem?_map] at hj
  cases hje:L.es[j]? with
  | none=>rw [hje] at hj; cases hj
  | some r =>
  obtain ⟨y',u⟩:=r
  rw [hje] at hj
  cases hj
  obtain ⟨i1,i2,v1,v2,q1,q2,q3,q4⟩:=A.st.var hje
  obtain ⟨A2,F2⟩:=A.over (n:=n) hje v2
  rw [v2] at gx
  have hji:((j:Nat):Int) < ((L.es.length:Nat):Int):=by omega
  have stw:=fun ρ m n' u=>Zbv (ρ:=ρ) (m:=m) (n:=n') (u:=u) (j:=j) (v:=W n) q2 (by simp [vlL]; exact q4) rfl rfl
  have slv:∀ i k,slV (some i) k=.ref i 0 k 1:=fun _ _=>rfl
  have hneg:¬ ((j:Nat):Int) < 0:=by omega
  simp -dsimp -implicitDefEqProofs only [↓STP,STQ,seval,gx,slv,eq_false hneg,eq_true hji,Nat.mul_one,stw]
  exact hK _ _ A2 F2 ⟨rfl,rfl⟩
 ·obtain ⟨h1,h2,a1,a2,g1,g2,A2,F2⟩:=A.new y n hno hl
  unfold Rk.cs at g1 g2
  have st1:∀ ρ m n' u,Zae ⟨ρ,m,n',u,h2⟩ (.ptr L.x 0) (.ref h.next 0 (L.es.length + 1) 1) 1=some ⟨ρ,m,n',u,h2.set L.x (.cells [.ref h.next 0 (L.es.length + 1) 1,slV L.v L.es.length,slV L.a L.ws.length,slV L.w L.ws.length,slV L.t s.told.length])⟩:=fun ρ m n' u=>Zbv (j:=0) g2 (show 0 < 5 by decide) rfl rfl
  have st2:∀ ρ m n' u,Zae ⟨ρ,m,n',u,h2.set L.x (.cells [.ref h.next 0 (L.es.length + 1) 1,slV L.v L.es.length,slV L.a L.ws.length,slV L.w L.ws.length,slV L.t s.told.length])⟩ (.ptr L.x 1) (.ref (h.next + 1) 0 (L.es.length + 1) 1) 1=some ⟨ρ,m,n',u,h2.set L.x (.cells [.ref h.next 0 (L.es.length + 1) 1,.ref (h.next + 1) 0 (L.es.length + 1) 1,slV L.a L.ws.length,slV L.w L.ws.length,slV L.t s.told.length])⟩:=fun ρ m n' u=>Zeu (j:=1) (cs:=[.ref h.next 0 (L.es.length + 1) 1,slV L.v L.es.length,slV L.a L.ws.length,slV L.w L.ws.length,slV L.t s.told.length]) (show 1 < 5 by decide) rfl rfl
  simp -dsimp -implicitDefEqProofs only [↓STP,STQ,seval,gx,a1,g1,a2,st1,st2]
  exact hK _ _ A2 F2 ⟨rfl,rfl⟩
theorem drop30 (A:AtR p L s h) {y:ByteArray} (hK:∀ L' h',AtR p L' { s with vars:=setM s.vars y none } h'→FrR L L' h h'→L'.es=delE y L.es→K (.ret (.tuple [])) h') :
  R 49 [.ptr L.x 0,.str y] h K:=by
 refine run49 (Nat.le_of_ble_eq_true rfl) ?_
 have gx:=Zai A.st.x
 unfold Rk.cs at gx
 obtain ⟨n1,n2⟩:=nmAt A.st
 simp -dsimp -implicitDefEqProofs only [↓STP,STQ,seval,ir49,gx,n2]
 refine find30 n1 (by rw [List.length_map]; exact A.st.el) (fun j hj=>?_) (fun hno=>?_)
 ·rw [List.getElem?_map] at hj
  cases hje:L.es[j]? with
  | none=>rw [hje] at hj; cases hj
  | some r =>
  obtain ⟨y',u⟩:=r
  rw [hje] at hj
  cases hj
  obtain ⟨i1,i2,v1,v2,q1,q2,q3,q4⟩:=A.st.var hje
  obtain ⟨o1,h1,o2,h2,o3,h3,o4,h4,a1,a2,a3,a4,g1,g2,g3,g4,A2,F2⟩:=A.gone hje v1 v2
  unfold Rk.cs at g1 g2 g3 g4
  rw [v1,v2] at gx g1 g2 g3 g4
  have slv:∀ i k,slV (some i) k=.ref i 0 k 1:=fun _ _=>rfl
  rw [slv,slv] at gx g1 g2 g3 g4
  have hel:=A.st.el
  have w1:IntKind.i64.wrap ((j:Int) + 1)=((j + 1:Nat):Int):=wi (by omega)
  have p1:∀ i,slcV (.ref i 0 L.es.length 1) none (some (.int .i64 (j:Int))) none 1=some (subV i 0 j):=fun i=>slc_to (Nat.le_of_lt q4)
  have p2:∀ i,slcV (.ref i 0 L.es.length 1) (some (.int .i64 ((j + 1:Nat):Int))) none none 1=some (subV i (j + 1) L.es.length):=fun i=>slc_from q4
  have st1:∀ ρ m n' u,Zae ⟨ρ,m,n',u,h4⟩ (.ptr L.x 0) (slV o2 (L.es.length - 1)) 1=some ⟨ρ,m,n',u,h4.set L.x (.cells [slV o2 (L.es.length - 1),.ref i2 0 L.es.length 1,slV L.a L.ws.length,slV L.w L.ws.length,slV L.t s.told.length])⟩:=fun ρ m n' u=>Zbv (j:=0) g4 (show 0 < 5 by decide) slV_out.2 slV_out.1
  have st2:∀ ρ m n' u,Zae ⟨ρ,m,n',u,h4.set L.x (.cells [slV o2 (L.es.length - 1),.ref i2 0 L.es.length 1,slV L.a L.ws.length,slV L.w L.ws.length,slV L.t s.told.length])⟩ (.ptr L.x 1) (slV o4 (L.es.length - 1)) 1=some ⟨ρ,m,n',u,h4.set L.x (.cells [slV o2 (L.es.length - 1),slV o4 (L.es.length - 1),slV L.a L.ws.length,slV L.w L.ws.length,slV L.t s.told.length])⟩:=fun ρ m n' u=>Zeu (j:=1) (cs:=[slV o2 (L.es.length - 1),.ref i2 0 L.es.length 1,slV L.a L.ws.length,slV L.w L.ws.length,slV L.t s.told.length]) (show 1 < 5 by decide) slV_out.2 slV_out.1
  simp -dsimp -implicitDefEqProofs only [↓STP,STQ,seval,gx,g1,g2,g3,g4,w1,p1,p2,a1,a2,a3,a4,st1,st2]
  exact hK _ _ A2 F2 rfl
 ·have hno':Zaf y L.es=none:=findL_none.2 hno
  have e:setM s.vars y none=s.vars:=by
   funext t
   unfold setM
   split
   ·rename_i ht
    rw [ht,← A.es,hno']
   ·rfl
  have hK:=hK L h (by rw [e]; exact A) (FrR.refl L h) (Zkx hno).symm
  simp -dsimp -implicitDefEqProofs only [↓STP,STQ,seval]
  exact hK
end
end YtljoifdccjcidaaDoor
end Go.Ab
namespace Go.Ab
def SpBR (R:Za2) (f:FuncId) (p:Prg) (l:List Stm):Prop:=∀ (σ τ:TS) (L:Rk) (s:RS) (h:H) (K:Out→H→Prop),AtR p L s h→Ag p σ s→TOk p σ→L.es.length ≤ 100000 + σ.steps→Zaj p l σ=.ok τ →
 (∀ L' h',AtR p L' (Za9 p l s) h'→FrR L L' h h'→L'.es.length ≤ 100000 + τ.steps→K (.ret (.tuple [])) h')→R f [.ptr L.x 0,.vec (l.map Stm.v) .any] h K
theorem setE_le {α:Type} {y:ByteArray} {v:α}:∀ {l:List (ByteArray × α)},(setE y v l).length ≤ l.length + 1
 | []=>Nat.le_refl _
 | (a,u) :: es=>by
  simp only [setE]
  split
  ·simp
  ·have:=setE_le (y:=y) (v:=v) (l:=es)
   simp only [List.length_cons]; omega
theorem delE_le {α:Type} {y:ByteArray}:∀ {l:List (ByteArray × α)},(delE y l).length ≤ l.length
 | []=>Nat.le_refl _
 | (a,u) :: es=>by
  simp only [delE]
  split
  ·simp
  ·have:=delE_le (y:=y) (l:=es)
   simp only [List.length_cons]; omega
theorem setM_over {f:ByteArray→Option Nat} {y:ByteArray} {a b:Option Nat}:setM (setM f y a) y b=setM f y b:=by
 funext t
 unfold setM
 split <;> rfl
namespace YtljoifdccjcidaaDoor
section
variable {K:Out→H→Prop} {p:Prg}
theorem Zia (hp:PV p) {l:List Stm} {lv:Nat} (hlen:l.length ≤ 9223372036854775807) (ih:∀ x ∈ l,SpBR R 34 p x.thn∧SpBR R 34 p x.els) (hv:VSs l lv) (okl:∀ x ∈ l,SOk x):SpBR R 34 p l:=by
 intro σ τ L s h K A ag ok hb hs hK
 refine run34 (Nat.le_of_ble_eq_true rfl) ?_
 simp -dsimp -implicitDefEqProofs only [↓STP,STQ,seval,ir34,List.length_map]
 refine Zal (fun c s'=>∃ j τ' L' h',j ≤ l.length∧c=l.length - j∧Zaj p (l.take j) σ=.ok τ'∧TOk p τ'∧AtR p L' (Za9 p (l.take j) s) h'∧Ag p τ' (Za9 p (l.take j) s)∧FrR L L' h h'∧L'.es.length ≤ 100000 + τ'.steps ∧
  s'=⟨upd (upd (upd ρ0 0 (.ptr L.x 0)) 1 (.vec (l.map Stm.v) .any)) 4 (I j),m0,0,[],h'⟩) (i:=l.length) ⟨0,σ,L,h,Nat.zero_le _,rfl,by rw [List.take_zero,Zaj],ok,by rw [List.take_zero,Za9]; exact A,by rw [List.take_zero,Za9]; exact ag,FrR.refl _ _,hb,by simp -dsimp -implicitDefEqProofs only [↓STP,STQ,seval] <;> rfl⟩ ?_ mono
 rintro c s' ⟨j,τ',L',h',hj,rfl,hr,ok',A',ag',F',hb',rfl⟩
 rcases Nat.lt_or_ge j l.length with hi | hi
 ·have hget:=Za6 (f:=Stm.v) hi
  have hx:=ih _ (List.getElem_mem hi)
  have hvx:=VSs_all.1 hv _ (List.getElem_mem hi)
  have okx:=okl _ (List.getElem_mem hi)
  have w1:=wiM (show j < 9223372036854775807 by omega)
  have htk:=Zev hi hr
  have htr:=Zlt (p:=p) hi (s:=s)
  have hrest:∃ τ2,Zaj p (l.take (j + 1)) σ=.ok τ2:=by
   have e:l=l.take (j + 1) ++ l.drop (j + 1):=(List.take_append_drop _ _).symm
   rw [e,Zcl] at hs
   obtain ⟨τ2,h1,_⟩:=Zao hs
   exact ⟨τ2,h1⟩
  obtain ⟨τ2,hτ2⟩:=hrest
  have hst:Zc4 p l[j] τ'=.ok τ2:=by rw [← htk]; exact hτ2
  have g1:=one_step hp hvx τ' τ2 ok' hst
  have ag2:=stmt_run hp l[j] _ hvx τ' τ2 _ ok' ag' hst
  rw [← htr] at ag2
  generalize hxe:l[j]=x at *
  obtain ⟨k,y,e,a,b⟩:=x
  obtain ⟨v1,v2,v3,v4,v5,v6,v7,v8,v9,v10,v11⟩:=VS_mk.1 hvx
  obtain ⟨_,_,_,_,_,oke,oka,okb⟩:=Zfc okx
  obtain ⟨lk,m,t1,t2,t3⟩:=stmt_inv hst
  have hga:Zbz p (Zaj p a):=Zbm hp v10
  have hgb:Zbz p (Zaj p b):=Zbm hp v11
  obtain ⟨_,k1⟩:=Zcz ok' t1
  have vf:=Zf3 ag'.env ok'.env t2
  obtain ⟨kl,km,kn⟩:=Zb7 hp ok'.env v9 lk m t2
  have ka:=Zem t2
  have ok1:TOk p { τ' with steps:=τ'.steps + 1,most:=max τ'.most m }:=⟨ok'.env,k1.ok.steps,by have:=ok'.most; show max τ'.most m ≤ 60; omega⟩
  have ag1:Ag p { τ' with steps:=τ'.steps + 1,most:=max τ'.most m } (Za9 p (l.take j) s):=ag'.mono rfl (Nat.le_succ _) (Nat.le_max_left _ _)
  have hx1:SpBR R 34 p a:=hx.1
  have hx2:SpBR R 34 p b:=hx.2
  have hsteps:=ok'.steps
  have gx':=Zai A'.st.x
  have hel:=A'.st.el
  rw [runX_mk] at htr
  unfold run1 at htr
  unfold Zfe at t3
  have kk:k=1∨k=2∨k=3∨k=4∨k=5:=by omega
  have hll:0 < e.length:=by rw [v4]; split <;> decide
  have hend:∀ {L2:Rk} {h2:H},AtR p L2 (Za9 p (l.take (j + 1)) s) h2→FrR L' L2 h' h2→L2.es.length ≤ 100000 + τ2.steps→∃ (c:Nat),c < l.length - j∧∃ j' τ'' L'' h'',j' ≤ l.length∧c=l.length - j'∧Zaj p (l.take j') σ=.ok τ''∧TOk p τ''∧AtR p L'' (Za9 p (l.take j') s) h''∧Ag p τ'' (Za9 p (l.take j') s)∧FrR L L'' h h''∧L''.es.length ≤ 100000 + τ''.steps ∧
    (⟨upd (upd (upd ρ0 0 (.ptr L.x 0)) 1 (.vec (l.map Stm.v) .any)) 4 (I ((j + 1:Nat):Int)),m0,0,[],h2⟩:S)=⟨upd (upd (upd ρ0 0 (.ptr L.x 0)) 1 (.vec (l.map Stm.v) .any)) 4 (I j'),m0,0,[],h''⟩:=fun A2 F2 hb2=>⟨l.length - (j + 1),by omega,j + 1,τ2,_,_,hi,rfl,hτ2,g1.ok,A2,ag2,F'.trans F2,hb2,rfl⟩
  generalize Za9 p (l.take j) s=t at *
  generalize Za9 p (l.take (j + 1)) s=t2' at *
  rcases kk with rfl | rfl | rfl | rfl | rfl
  ·rw [if_pos rfl] at htr t3
   obtain ⟨e0,rfl⟩:=len1 (l:=e) (by rw [v4]; decide)
   obtain ⟨r0,m0',q0⟩:=ka e0 (by simp)
   have hst2:τ2.steps=τ'.steps + 1:=by
    unfold setT at t3
    split at t3
    ·cases t3
    ·cases t3; rfl
   simp -dsimp -implicitDefEqProofs only [↓STP,STQ,seval,List.length_map,Int.ofNat_lt,hi,hget,Zae,Stm.v_mk,List.map_cons,List.map_nil,Exp.v_clen,Exp.v_tk,Exp.v_ag,Exp.v_out]
   rw [← F'.x]
   refine Zg5 hp e0 _ (v9 e0 (by simp)) (oke e0 (by simp)) τ'.env L' t h' _ r0 m0' A' ag'.env ok'.env q0 ?_
   simp -dsimp -implicitDefEqProofs only [↓STP,STQ,seval]
   refine set30 A' (by omega) fun L2 h2 A2 F2 ⟨e2,_⟩=>?_
   simp -dsimp -implicitDefEqProofs only [↓STP,STQ,seval,w1]
   rw [F'.x]
   have:=setE_le (y:=y) (v:=valX p t e0) (l:=L'.es)
   exact hend (by rw [htr]; exact A2) F2 (by rw [e2]; omega)
  ·rw [if_neg (by decide),if_pos rfl] at htr t3
   obtain ⟨e0,e1,rfl⟩:=len2 (l:=e) (by rw [v4]; decide)
   obtain ⟨r0,m0',q0⟩:=ka e0 (by simp)
   obtain ⟨r1,m1',q1⟩:=ka e1 (by simp)
   obtain ⟨jj,d,f1,f2,f3,f4,f5,f6,hτ⟩:=Zj1 t3
   have hst2:τ'.steps ≤ τ2.steps:=by subst hτ; exact Nat.le_succ _
   obtain ⟨id,ws,b1,b2,b3⟩:=A'.ars jj d f2
   have hv0:=(vf.nth 0).is f4
   have hv0:valX p t e0=(nthK lk 0).val:=hv0
   have jl1:jj < τ'.env.words.length:=by rw [ok'.env.wlen]; exact (List.getElem?_eq_some_iff.1 f2).1
   have hlw:=(ag'.env.words jj _ _ (List.getElem?_eq_getElem jl1) b1).1
   have hlz:=(ok'.env.words jj _ d (List.getElem?_eq_getElem jl1) f2).1
   have hlt:valX p t e0 < ws.length:=by omega
   have hltI:((valX p t e0:Nat):Int) < ((ws.length:Nat):Int):=by omega
   obtain ⟨A2,F2⟩:=A'.word hp (n:=valX p t e0) (v:=valX p t e1) f2 b1 b2
   rw [f3] at b2
   rw [f1] at htr
   have stw:=fun ρ m n' u=>Zbv (ρ:=ρ) (m:=m) (n:=n') (u:=u) (j:=valX p t e0) (v:=W (valX p t e1)) (Zai b3) (by rw [Za7]; exact hlt) rfl rfl
   rw [Ws_set] at stw
   obtain ⟨j0,hj0⟩:=Zgh b2
   obtain ⟨i1,i2,n1,n2,c1,c2,c3,c4⟩:=A'.st.arr hj0
   unfold Rk.cs at gx'
   rw [n1,n2] at gx'
   have slv:∀ i k,slV (some i) k=.ref i 0 k 1:=fun _ _=>rfl
   have hwl:=A'.st.wl
   simp -dsimp -implicitDefEqProofs only [↓STP,STQ,seval,List.length_map,Int.ofNat_lt,hi,hget,Zae,Stm.v_mk,List.map_cons,List.map_nil,Exp.v_clen,Exp.v_tk,Exp.v_ag,Exp.v_out]
   rw [← F'.x]
   refine Zg5 hp e0 _ (v9 e0 (by simp)) (oke e0 (by simp)) τ'.env L' t h' _ r0 m0' A' ag'.env ok'.env q0 ?_
   simp -dsimp -implicitDefEqProofs only [↓STP,STQ,seval,gx',slv,List.map_cons,List.map_nil,Exp.v_clen,Exp.v_tk,Exp.v_ag,Exp.v_out]
   refine find30 (ns:=L'.ws.map (·.1)) (.inr ⟨i1,by rw [List.length_map],by rw [c1]; unfold anL; rw [List.map_map]; rfl⟩) (by rw [List.length_map]; omega) (fun q hq=>?_) (fun hno=>absurd (List.mem_of_getElem? (by rw [List.getElem?_map,hj0]; rfl)) hno)
   have hjj:q=j0:=Zga (f:=fun r:ByteArray=>r) (by rw [List.map_id']; exact A'.st.wsn) hq (show (L'.ws.map (·.1))[j0]?=some y by rw [List.getElem?_map,hj0]; rfl) rfl
   subst hjj
   have hji:((q:Nat):Int) < ((L'.ws.length:Nat):Int):=by omega
   simp -dsimp -implicitDefEqProofs only [↓STP,STQ,seval,gx',slv,eq_true hji,Nat.mul_one,c2,c3,List.map_cons,List.map_nil,Exp.v_clen,Exp.v_tk,Exp.v_ag,Exp.v_out]
   refine Zg5 hp e1 _ (v9 e1 (by simp)) (oke e1 (by simp)) τ'.env L' t h' _ r1 m1' A' ag'.env ok'.env q1 ?_
   simp -dsimp -implicitDefEqProofs only [↓STP,STQ,seval,gx',slv,eq_true hji,Nat.mul_one,c2,c3,eq_true hltI,stw,w1]
   rw [F'.x]
   exact hend (by rw [htr]; exact A2) F2 (by omega)
  ·rw [if_neg (by decide),if_neg (by decide),if_pos rfl] at htr t3
   obtain ⟨e0,rfl⟩:=len1 (l:=e) (by rw [v4]; decide)
   obtain ⟨r0,m0',q0⟩:=ka e0 (by simp)
   unfold ifT at t3
   split at t3
   ·cases t3
   rename_i hkd
   obtain ⟨σ1,h1,t3⟩:=Zao t3
   obtain ⟨σ2,h2,t3⟩:=Zao t3
   have k1':=hga { ({ τ' with steps:=τ'.steps + 1,most:=max τ'.most m }:TS) with ifs:=τ'.ifs + 1 } _ ⟨ok1.env,ok1.steps,ok1.most⟩ h1
   have k2':=hgb { σ1 with env:=τ'.env } _ ⟨ok1.env,k1'.ok.steps,k1'.ok.most⟩ h2
   have st1:τ'.steps + 1 ≤ σ1.steps:=k1'.steps
   have st2:σ1.steps ≤ σ2.steps:=k2'.steps
   have st3:τ2.steps=σ2.steps:=by cases t3; rfl
   simp -dsimp -implicitDefEqProofs only [↓STP,STQ,seval,List.length_map,Int.ofNat_lt,hi,hget,Zae,Stm.v_mk,List.map_cons,List.map_nil,Exp.v_clen,Exp.v_tk,Exp.v_ag,Exp.v_out]
   rw [← F'.x]
   refine Zg5 hp e0 _ (v9 e0 (by simp)) (oke e0 (by simp)) τ'.env L' t h' _ r0 m0' A' ag'.env ok'.env q0 ?_
   have htr:t2'=if valX p t e0=1 then Za9 p a t else Za9 p b t:=htr
   have b0:valX p t e0 ≤ 1:=(vf.nth 0).boo (Decidable.byContradiction hkd)
   by_cases c:valX p t e0=1
   ·have c':¬ ((valX p t e0:Nat):Int)=0:=by omega
    rw [if_pos c] at htr
    simp -dsimp -implicitDefEqProofs only [↓STP,STQ,seval,eq_false c']
    refine hx1 { ({ τ' with steps:=τ'.steps + 1,most:=max τ'.most m }:TS) with ifs:=τ'.ifs + 1 } _ L' t h' _ A' ⟨ag1.env,ag1.told,ag1.few⟩ ⟨ok1.env,ok1.steps,ok1.most⟩ (by show L'.es.length ≤ 100000 + (τ'.steps + 1); omega) h1 fun L2 h2 A2 F2 hb2=>?_
    simp -dsimp -implicitDefEqProofs only [↓STP,STQ,seval,w1]
    rw [F'.x]
    exact hend (by rw [htr]; exact A2) F2 (by omega)
   ·have c':((valX p t e0:Nat):Int)=0:=by omega
    rw [if_neg c] at htr
    simp -dsimp -implicitDefEqProofs only [↓STP,STQ,seval,eq_true c']
    refine hx2 { σ1 with env:=τ'.env } _ L' t h' _ A' (ag1.mono rfl k1'.steps k1'.most) ⟨ok1.env,k1'.ok.steps,k1'.ok.most⟩ (by show L'.es.length ≤ 100000 + σ1.steps; omega) h2 fun L2 h2 A2 F2 hb2=>?_
    simp -dsimp -implicitDefEqProofs only [↓STP,STQ,seval,w1]
    rw [F'.x]
    exact hend (by rw [htr]; exact A2) F2 (by omega)
  ·rw [if_neg (by decide),if_neg (by decide),if_neg (by decide),if_pos rfl] at htr t3
   obtain ⟨e0,e1,rfl⟩:=len2 (l:=e) (by rw [v4]; decide)
   obtain ⟨r0,m0',q0⟩:=ka e0 (by simp)
   obtain ⟨r1,m1',q1⟩:=ka e1 (by simp)
   obtain ⟨i0,i1,ht,hit⟩:=for_is t3
   have b0:=(vf.nth 0).lt (Zbl kl 0)
   have b1:=(vf.nth 1).lt (Zbl kl 1)
   rw [← (vf.nth 0).is i0,← (vf.nth 1).is i1] at hit
   have hra:RunT p (Zaj p a) (Za9 p a):=Zj2 hp v10
   generalize hτ1:({ τ' with steps:=τ'.steps + 1,most:=max τ'.most m }:TS)=τ1 at *
   have hs1:τ1.steps=τ'.steps + 1:=by rw [← hτ1]
   have hit:Zcw (Zfd y (Zaj p a)) (valX p t e1 + 1 - valX p t e0) (valX p t e0) { τ1 with env:={ τ1.env with vars:=setV τ1.env.vars y none } }=.ok τ2:=hit
   have b0:valX p t e0 < 1152921504606846976:=b0
   have b1:valX p t e1 < 1152921504606846976:=b1
   have htr:t2'=forX y (valX p t e0) (valX p t e1) (Za9 p a) t:=htr
   simp -dsimp -implicitDefEqProofs only [↓STP,STQ,seval,List.length_map,Int.ofNat_lt,hi,hget,Zae,Stm.v_mk,List.map_cons,List.map_nil,Exp.v_clen,Exp.v_tk,Exp.v_ag,Exp.v_out]
   rw [← F'.x]
   refine Zg5 hp e0 _ (v9 e0 (by simp)) (oke e0 (by simp)) τ'.env L' t h' _ r0 m0' A' ag'.env ok'.env q0 ?_
   simp -dsimp -implicitDefEqProofs only [↓STP,STQ,seval,List.map_cons,List.map_nil,Exp.v_clen,Exp.v_tk,Exp.v_ag,Exp.v_out]
   refine Zg5 hp e1 _ (v9 e1 (by simp)) (oke e1 (by simp)) τ'.env L' t h' _ r1 m1' A' ag'.env ok'.env q1 ?_
   simp -dsimp -implicitDefEqProofs only [↓STP,STQ,seval]
   refine drop30 A' fun L1 h1 A1 F1 e1'=>?_
   simp -dsimp -implicitDefEqProofs only [↓STP,STQ,seval]
   obtain ⟨a0,f0,k0⟩:=Zkn ag1 ok1 ht
   unfold forX at htr
   have hdl:=delE_le (y:=y) (l:=L'.es)
   generalize valX p t e0=n0 at *
   generalize valX p t e1=n1 at *
   generalize hs1':({ t with vars:=setM t.vars y none }:RS)=s1 at *
   generalize hσ1:({ τ1 with env:={ τ1.env with vars:=setV τ1.env.vars y none } }:TS)=σ1 at *
   have hsσ:σ1.steps=τ1.steps:=by rw [← hσ1]
   have hidem:({ s1 with vars:=setM s1.vars y none }:RS)=s1:=by rw [← hs1']; simp only [setM_over]
   generalize htf:Zij (fun n s=>Za9 p a { s with vars:=setM s.vars y (some n) }) (n1 + 1 - n0) n0 s1=tf at *
   refine Zal (fun c s'=>∃ n ρ t' L2 h2,c=n1 + 1 - n∧n ≤ 1152921504606846976∧AtR p L2 { t' with vars:=setM t'.vars y none } h2∧Ag p ρ t'∧TOk p ρ∧Free p y τ1.env.loops ρ∧FrR L' L2 h' h2∧L2.es.length ≤ 100000 + ρ.steps∧Zcw (Zfd y (Zaj p a)) (n1 + 1 - n) n ρ=.ok τ2∧Zij (fun n s=>Za9 p a { s with vars:=setM s.vars y (some n) }) (n1 + 1 - n) n t'=tf ∧
    s'=⟨upd (upd (upd (upd (upd (upd ρ0 0 (.ptr L'.x 0)) 1 (.vec (l.map Stm.v) .any)) 4 (I j)) 5 (.lptr 0 5 0)) 8 (W n1)) 9 (W n),upd m0 0 (some [I 4,.str y,.vec [e0.v,e1.v] .any,.vec (a.map Stm.v) .any,.vec (b.map Stm.v) .any]),1,[],h2⟩)
    (i:=n1 + 1 - n0) ⟨n0,σ1,s1,L1,h1,rfl,by omega,by rw [hidem]; exact A1,a0,k0,f0,F1,by rw [e1']; omega,hit,htf,by simp -dsimp -implicitDefEqProofs only [↓STP,STQ,seval] <;> rfl⟩ ?_ mono
   rintro c s' ⟨n,ρ,t',L2,h2,rfl,hn,A2,ag2',ok2,fr2,F2,hb2,hi2,ht2,rfl⟩
   by_cases hle:n ≤ n1
   ·have hle':((n:Nat):Int) ≤ ((n1:Nat):Int):=by omega
    rw [show n1 + 1 - n=(n1 + 1 - (n + 1)) + 1 by omega,Zcw] at hi2
    rw [show n1 + 1 - n=(n1 + 1 - (n + 1)) + 1 by omega,Zij] at ht2
    obtain ⟨ρ',w1',w2⟩:=Zao hi2
    have tk:=turn_run (x:=y) hra hga (by omega) ρ ρ' t' ok2 fr2 ag2' w1'
    have okρ:TOk p ρ':=(Zi7 hga (n:=n) (by omega) _ _ ok2 w1').ok
    unfold Zfd at w1'
    obtain ⟨τ3,u1,w1'⟩:=Zao w1'
    obtain ⟨τ4,u2,w1'⟩:=Zao w1'
    obtain ⟨rfl,k1'⟩:=Zcz ok2 u1
    have hρ':ρ'.steps=τ4.steps:=by cases w1'; rfl
    have oke':=turn_ext (x:=y) (n:=n) k1'.ok (by omega)
    have ag3:Ag p ({ ρ with steps:=ρ.steps + 1,env:={ ρ.env with loops:=ρ.env.loops ++ [(y,n)] } }:TS) { t' with vars:=setM t'.vars y (some n) }:=⟨AgE.turn fr2 ag2'.env,ag2'.told,Nat.le_trans ag2'.few (Nat.le_succ _)⟩
    have hρs:=ok2.steps
    simp -dsimp -implicitDefEqProofs only [↓STP,STQ,seval,eq_true hle']
    rw [← F2.x]
    refine set30 A2 (by omega) fun L3 h3 A3 F3 ⟨e3,_⟩=>?_
    have hse:=setE_le (y:=y) (v:=n) (l:=L2.es)
    have e4:({ ({ t' with vars:=setM t'.vars y none }:RS) with vars:=setM (setM t'.vars y none) y (some n) }:RS)={ t' with vars:=setM t'.vars y (some n) }:=by simp only [setM_over]
    have A3:AtR p L3 { t' with vars:=setM t'.vars y (some n) } h3:=by rw [← e4]; exact A3
    simp -dsimp -implicitDefEqProofs only [↓STP,STQ,seval]
    rw [← F3.x]
    refine hx1 _ _ L3 _ _ _ A3 ag3 oke' (by show L3.es.length ≤ 100000 + (ρ.steps + 1); rw [e3]; omega) u2 fun L4 h4 A4 F4 hb4=>?_
    simp -dsimp -implicitDefEqProofs only [↓STP,STQ,seval]
    rw [← F4.x]
    refine drop30 A4 fun L5 h5 A5 F5 e5=>?_
    have hd5:=delE_le (y:=y) (l:=L4.es)
    have w:IntKind.u64.wrap ((n:Int) + 1)=((n + 1:Nat):Int):=by rw [Zaq] <;> omega
    simp -dsimp -implicitDefEqProofs only [↓STP,STQ,seval,w]
    exact ⟨n1 + 1 - (n + 1),by omega,n + 1,ρ',_,L5,h5,rfl,by omega,A5,tk.1,okρ,tk.2,(((F2.trans F3).trans F4).trans F5),by rw [e5,hρ']; omega,w2,ht2,by rw [F4.x,F3.x,F2.x]⟩
   ·have hle':¬ ((n:Nat):Int) ≤ ((n1:Nat):Int):=by omega
    rw [show n1 + 1 - n=0 by omega,Zij] at ht2
    rw [show n1 + 1 - n=0 by omega,Zcw] at hi2
    cases hi2
    subst ht2
    simp -dsimp -implicitDefEqProofs only [↓STP,STQ,seval,eq_false hle',w1]
    rw [F'.x]
    exact hend (by rw [htr]; exact A2) F2 hb2
  ·rw [if_neg (by decide),if_neg (by decide),if_neg (by decide),if_neg (by decide)] at htr
   obtain ⟨e0,rfl⟩:=len1 (l:=e) (by rw [v4]; decide)
   obtain ⟨r0,m0',q0⟩:=ka e0 (by simp)
   have hst2:τ'.steps ≤ τ2.steps:=g1.steps
   unfold Rk.cs at gx'
   simp -dsimp -implicitDefEqProofs only [↓STP,STQ,seval,List.length_map,Int.ofNat_lt,hi,hget,Zae,Stm.v_mk,gx',List.map_cons,List.map_nil,Exp.v_clen,Exp.v_tk,Exp.v_ag,Exp.v_out]
   rw [← F'.x]
   simp -dsimp -implicitDefEqProofs only [↓STP,STQ,seval,gx',List.map_cons,List.map_nil,Exp.v_clen,Exp.v_tk,Exp.v_ag,Exp.v_out]
   refine Zg5 hp e0 _ (v9 e0 (by simp)) (oke e0 (by simp)) τ'.env L' t h' _ r0 m0' A' ag'.env ok'.env q0 ?_
   have hfew:t.told.length < 1000000:=by have:=ag'.few; have:=ok'.steps; omega
   obtain ⟨h1,a1,a2,A2,F2⟩:=A'.tell (valX p t e0) hfew
   unfold Rk.cs at a2
   have st5:∀ ρ m n' u,Zae ⟨ρ,m,n',u,h1⟩ (.ptr L'.x 4) (.ref h'.next 0 (t.told.length + 1) 1) 1=some ⟨ρ,m,n',u,h1.set L'.x (.cells [slV L'.n L'.es.length,slV L'.v L'.es.length,slV L'.a L'.ws.length,slV L'.w L'.ws.length,.ref h'.next 0 (t.told.length + 1) 1])⟩:=fun ρ m n' u=>Zbv (j:=4) a2 (show 4 < 5 by decide) rfl rfl
   have ht2:t2'={ t with told:=t.told ++ [valX p t e0] }:=htr
   simp -dsimp -implicitDefEqProofs only [↓STP,STQ,seval,gx',a1,st5,w1]
   rw [F'.x] at A2 F2 ⊢
   exact hend (by rw [ht2]; exact A2) F2 (by show L'.es.length ≤ _; omega)
 ·have hj':j=l.length:=by omega
  subst hj'
  rw [List.take_length] at A' hr
  rw [hs] at hr
  cases hr
  simp -dsimp -implicitDefEqProofs only [↓STP,STQ,seval,List.length_map,Int.lt_irrefl]
  exact hK _ _ A' F' hb'
theorem stmts30_in (hp:PV p) (x:Stm):∀ lv,VS x lv→SOk x→SpBR R 34 p x.thn∧SpBR R 34 p x.els:=by
 induction x using Stm.ind with
 | h k s e a b iha ihb =>
  intro lv hv ok
  obtain ⟨v1,v2,v3,v4,v5,v6,v7,v8,v9,v10,v11⟩:=VS_mk.1 hv
  obtain ⟨_,_,_,la,lb,oke,oka,okb⟩:=Zfc ok
  have hm:=Zap
  exact ⟨Zia (l:=a) hp (by omega) (fun x hx=>iha x hx _ (VSs_all.1 v10 x hx) (oka x hx)) v10 oka,Zia (l:=b) hp (by omega) (fun x hx=>ihb x hx _ (VSs_all.1 v11 x hx) (okb x hx)) v11 okb⟩
theorem stmts30 (hp:PV p) {l:List Stm} {lv:Nat} (hl:l.length ≤ maxLen) (hv:VSs l lv) (ok:∀ x ∈ l,SOk x):SpBR R 34 p l:=
 Zia hp (by have:=Zap; omega) (fun x hx=>stmts30_in hp x _ (VSs_all.1 hv x hx) (ok x hx)) hv ok
end
end YtljoifdccjcidaaDoor
end Go.Ab
namespace Go.Ab
def pV (wd:List (ByteArray × List Nat)):Prg:=⟨[],wd.map fun r=>⟨r.1,r.2.length⟩,[]⟩
def sV (es:List (ByteArray × Nat)) (wd:List (ByteArray × List Nat)):RS:=⟨fun y=>Zaf y es,fun _=>[],wd.map (·.2),[]⟩
theorem sV_set {es:List (ByteArray × Nat)} {wd:List (ByteArray × List Nat)} {y:ByteArray} {n:Nat}:({ sV es wd with vars:=setM (sV es wd).vars y (some n) }:RS)=sV (setE y n es) wd:=by
 have e:setM (fun y=>Zaf y es) y (some n)=fun t=>Zaf t (setE y n es):=by funext t; rw [Zcx]; rfl
 show RS.mk (setM (fun y=>Zaf y es) y (some n)) _ _ _=_
 rw [e]; rfl
theorem AtR.off {p:Prg} {L:Rk} {s:RS} {h:H} (A:AtR p L s h) {id:Nat} {o:O} (hno:∀ i,L.slot i ≠ some id):AtR p L s (h.set id o):=by
 have S:=A.st
 have k:∀ i j,L.slot i=some j→(h.set id o).objs j=h.objs j:=fun i j hi=>by rw [Zaa,if_neg (fun e=>hno i (by rw [hi,e]))]
 have kw:∀ {y:ByteArray} {j n:Nat},Zaf y L.ws=some (j,n)→(h.set id o).objs j=h.objs j:=fun hf=>by
  obtain ⟨q,hq,_⟩:=S.ws_slot hf
  exact k _ _ hq
 refine ⟨⟨by rw [k 0 _ rfl]; exact S.x,S.n.keep fun i hi=>k 1 i hi,S.v.keep fun i hi=>k 2 i hi,S.a.keep fun i hi=>k 3 i hi,S.w.keep fun i hi=>k 4 i hi,S.t.keep fun i hi=>k 5 i hi,S.esn,S.wsn,S.el,S.wl,S.nd,S.lt⟩,A.es,fun i d hd=>?_,fun y d hd hz=>?_⟩
 ·obtain ⟨id,ws,a,b,c⟩:=A.ars i d hd
  exact ⟨id,ws,a,b,by rw [kw b]; exact c⟩
 ·obtain ⟨id,b,c⟩:=A.inw y d hd hz
  exact ⟨id,b,by rw [kw b]; exact c⟩
def Rk.more (L:Rk) (na wn iw:Nat) (y:ByteArray) (n:Nat):Rk:={ L with a:=some na,w:=some wn,ws:=L.ws ++ [(y,iw,n)] }
theorem AtR.grow {wd:List (ByteArray × List Nat)} {L:Rk} {h h3:H} (A:AtR (pV wd) L (sV L.es wd) h) (keys:L.ws.map (·.1)=wd.map (·.1)) {y:ByteArray} {l:List Nat} {na iw wn:Nat}
  (hy:y ∉ wd.map (·.1)) (hl:L.ws.length < 1000000)
  (ha:h3.objs na=some (.cells (anL L.ws ++ [.str y]))) (hw:h3.objs wn=some (.cells (wdL L.ws ++ [.ref iw 0 l.length 1]))) (hi:h3.objs iw=some (.cells (Ws l)))
  (same:∀ id,id < h.next→L.a ≠ some id→L.w ≠ some id→h3.objs id=h.objs id)
  (b1:h.next ≤ na∧na < h3.next) (b2:h.next ≤ iw∧iw < h3.next) (b3:h.next ≤ wn∧wn < h3.next) (d1:na ≠ iw) (d2:na ≠ wn) (d3:iw ≠ wn) :
  AtR (pV (wd ++ [(y,l)])) (L.more na wn iw y l.length) (sV L.es (wd ++ [(y,l)])) (h3.set L.x (.cells [slV L.n L.es.length,slV L.v L.es.length,.ref na 0 (L.ws.length + 1) 1,.ref wn 0 (L.ws.length + 1) 1,slV L.t 0])) ∧
  FrR L (L.more na wn iw y l.length) h (h3.set L.x (.cells [slV L.n L.es.length,slV L.v L.es.length,.ref na 0 (L.ws.length + 1) 1,.ref wn 0 (L.ws.length + 1) 1,slV L.t 0])):=by
 have S:=A.st
 have hxl:=S.lt 0 L.x rfl
 have hyw:y ∉ L.ws.map (·.1):=by rw [keys]; exact hy
 generalize hh4:h3.set L.x (.cells [slV L.n L.es.length,slV L.v L.es.length,.ref na 0 (L.ws.length + 1) 1,.ref wn 0 (L.ws.length + 1) 1,slV L.t 0])=h4
 have o4:∀ id,id ≠ L.x→h4.objs id=h3.objs id:=fun id hne=>by rw [← hh4,Zaa,if_neg hne]
 have n4:h4.next=h3.next:=by rw [← hh4]; rfl
 have keep:∀ (k id:Nat),k ≠ 0→k ≠ 3→k ≠ 4→L.slot k=some id→h4.objs id=h.objs id:=fun k id k0 k3 k4 hk=>by
  rw [o4 id (fun e=>k0 (S.nd k 0 id hk (by rw [e]; rfl))),same id (S.lt k id hk) (fun e=>k3 (S.nd k 3 id hk e)) (fun e=>k4 (S.nd k 4 id hk e))]
 have slot':∀ k,k ≠ 3→k ≠ 4→k ≠ L.ws.length + 6→(L.more na wn iw y l.length).slot k=L.slot k:=by
  intro k k3 k4 k6
  match k with
  | 0=>rfl
  | 1=>rfl
  | 2=>rfl
  | 3=>exact absurd rfl k3
  | 4=>exact absurd rfl k4
  | 5=>rfl
  | k + 6 =>
   show (((L.ws ++ [(y,iw,l.length)])[k]?).map fun r=>r.2.1)=((L.ws[k]?).map fun r=>r.2.1)
   rcases Nat.lt_or_ge k L.ws.length with c | c
   ·rw [List.getElem?_append_left c]
   ·rw [List.getElem?_eq_none (l:=L.ws) c,List.getElem?_eq_none]
    rw [List.length_append,List.length_singleton]; omega
 have slot6:(L.more na wn iw y l.length).slot (L.ws.length + 6)=some iw:=by
  show (((L.ws ++ [(y,iw,l.length)])[L.ws.length]?).map fun r=>r.2.1)=some iw
  rw [List.getElem?_append_right (Nat.le_refl _),Nat.sub_self]; rfl
 have new:∀ k id,(L.more na wn iw y l.length).slot k=some id→L.slot k=some id∨(h.next ≤ id∧id < h4.next):=by
  intro k id hk
  by_cases k3:k=3
  ·subst k3; cases hk; rw [n4]; exact .inr b1
  by_cases k4:k=4
  ·subst k4; cases hk; rw [n4]; exact .inr b3
  by_cases k6:k=L.ws.length + 6
  ·subst k6; rw [slot6] at hk; cases hk; rw [n4]; exact .inr b2
  rw [slot' k k3 k4 k6] at hk
  exact .inl hk
 have hnx:h.next ≤ h4.next:=by rw [n4]; omega
 obtain ⟨nd',lt'⟩:=S.nd_lt hnx new (fun i j id hid hi hj=>by
  have at3:∀ k,(L.more na wn iw y l.length).slot k=some id→(k=3∧id=na)∨(k=4∧id=wn)∨(k=L.ws.length + 6∧id=iw):=fun k hk=>by
   by_cases k3:k=3
   ·subst k3; cases hk; exact .inl ⟨rfl,rfl⟩
   by_cases k4:k=4
   ·subst k4; cases hk; exact .inr (.inl ⟨rfl,rfl⟩)
   by_cases k6:k=L.ws.length + 6
   ·subst k6; rw [slot6] at hk; cases hk; exact .inr (.inr ⟨rfl,rfl⟩)
   rw [slot' k k3 k4 k6] at hk
   have:=S.lt k id hk
   omega
  rcases at3 i hi with ⟨a,b⟩ | ⟨a,b⟩ | ⟨a,b⟩ <;> rcases at3 j hj with ⟨c,d⟩ | ⟨c,d⟩ | ⟨c,d⟩ <;> omega)
 have kw:∀ {y:ByteArray} {id n:Nat},Zaf y L.ws=some (id,n)→h4.objs id=h.objs id:=fun hf=>by
  obtain ⟨j,hj,_⟩:=S.ws_slot hf
  exact keep _ _ (by omega) (by omega) (by omega) hj
 have hwl:(L.ws ++ [(y,iw,l.length)]).length=L.ws.length + 1:=by rw [List.length_append]; rfl
 refine ⟨⟨⟨?_,S.n.keep fun id e=>keep 1 id (by decide) (by decide) (by decide) e,S.v.keep fun id e=>keep 2 id (by decide) (by decide) (by decide) e,⟨?_,?_⟩,⟨?_,?_⟩,S.t.keep fun id e=>keep 5 id (by decide) (by decide) (by decide) e,S.esn,?_,S.el,?_,nd',lt'⟩,A.es,fun i d hd=>?_,fun y d hd hz=>?_⟩,⟨hnx,rfl,fun id hid hno=>?_,fun i id hi=>?_⟩⟩
 ·show h4.objs L.x=some (.cells (Rk.cs (L.more na wn iw y l.length) 0))
  rw [← hh4,Zaa,if_pos rfl]
  simp only [Rk.cs,Rk.more,slV,hwl]
 ·show anL (L.ws ++ [(y,iw,l.length)]) ≠ []
  simp [anL]
 ·show h4.objs na=some (.cells (anL (L.ws ++ [(y,iw,l.length)])))
  rw [o4 na (by omega),ha]
  simp [anL]
 ·show wdL (L.ws ++ [(y,iw,l.length)]) ≠ []
  simp [wdL]
 ·show h4.objs wn=some (.cells (wdL (L.ws ++ [(y,iw,l.length)])))
  rw [o4 wn (by omega),hw]
  simp [wdL,refV]
 ·show ((L.ws ++ [(y,iw,l.length)]).map (·.1)).Nodup
  rw [List.map_append]
  exact List.nodup_append.2 ⟨S.wsn,by simp,fun u hu v hv e=>by
   simp only [List.map_cons,List.map_nil,List.mem_singleton] at hv
   subst hv; subst e
   exact hyw hu⟩
 ·show (L.ws ++ [(y,iw,l.length)]).length ≤ 1000000
  rw [hwl]; omega
 ·have hd:((wd ++ [(y,l)]).map fun r:ByteArray × List Nat=>(⟨r.1,r.2.length⟩:ArD))[i]?=some d:=hd
  show ∃ id ws,((wd ++ [(y,l)]).map (·.2))[i]?=some ws∧Zaf d.name (L.ws ++ [(y,iw,l.length)])=some (id,ws.length)∧h4.objs id=some (.cells (Ws ws))
  rw [List.getElem?_map] at hd ⊢
  rcases Nat.lt_or_ge i wd.length with c | c
  ·rw [List.getElem?_append_left c] at hd ⊢
   obtain ⟨id,ws,q1,q2,q3⟩:=A.ars i d (by show (wd.map _)[i]?=_; rw [List.getElem?_map]; exact hd)
   have q1:(wd.map (·.2))[i]?=some ws:=q1
   rw [List.getElem?_map] at q1
   exact ⟨id,ws,q1,Zd7 q2,by rw [kw q2]; exact q3⟩
  ·rw [List.getElem?_append_right c] at hd ⊢
   cases e:i - wd.length with
   | zero =>
    rw [e] at hd
    cases hd
    exact ⟨iw,l,rfl,Zej hyw,by rw [o4 iw (by omega)]; exact hi⟩
   | succ n=>rw [e] at hd; cases hd
 ·cases hd
 ·rw [o4 id (fun e=>hno 0 (by rw [e]; rfl))]
  exact same id hid (hno 3) (hno 4)
 ·rcases new i id hi with e | ⟨e,_⟩
  ·exact .inl ⟨i,e⟩
  ·exact .inr e
structure Bw (b:Nat) (h0:H) (wd:List (ByteArray × List Nat)) (a:List Nat) (L:Rk) (h:H):Prop where
 A:AtR (pV wd) L (sV L.es wd) h
 keys:L.ws.map (·.1)=wd.map (·.1)
 own:∀ i id,L.slot i=some id→b ≤ id∧id ≠ b + 1
 t:h.objs (b + 1)=some (.cells (Zau a))
 nx:b + 2 ≤ h.next
 old:∀ j,j < b→h.objs j=h0.objs j
theorem Bw.fr {b:Nat} {h0 h h':H} {wd wd':List (ByteArray × List Nat)} {a:List Nat} {L L':Rk} (B:Bw b h0 wd a L h) (A:AtR (pV wd') L' (sV L'.es wd') h') (F:FrR L L' h h') (k:L'.ws.map (·.1)=wd'.map (·.1)):Bw b h0 wd' a L' h':=by
 have nx:=B.nx
 refine ⟨A,k,fun i id hi=>?_,?_,by have:=F.nx; omega,fun j hj=>?_⟩
 ·rcases F.own i id hi with ⟨j,hj⟩ | hh
  ·exact B.own j id hj
  ·omega
 ·rw [F.same _ (by omega) (fun i hi=>(B.own i _ hi).2 rfl)]; exact B.t
 ·rw [F.same _ (by omega) (fun i hi=>by have:=(B.own i _ hi).1; omega)]; exact B.old j hj
theorem Bw.step {b:Nat} {h0 h:H} {wd:List (ByteArray × List Nat)} {a a':List Nat} {L:Rk} (B:Bw b h0 wd a L h):Bw b h0 wd a' L (h.set (b + 1) (.cells (Zau a'))):=
 ⟨B.A.off fun i hi=>(B.own i _ hi).2 rfl,B.keys,B.own,by rw [Zaa,if_pos rfl],B.nx,fun j hj=>by rw [Zaa,if_neg (by omega)]; exact B.old j hj⟩
theorem Bw.start {b:Nat} {h0 h:H} {a:List Nat} {wd0:List (ByteArray × List Nat)} {L:Rk} {p:Prg} {ls:List (List Nat)} (B:Bw b h0 (wd0 ++ zerL p.arrays) a L h) (hn:(p.ins.map InD.name).Nodup) (he:L.es=Zca (insD p.ins ls (atI0 ls))) (hw:wd0=arrL (insD p.ins ls (atI0 ls))):AtR p L (Zcc p ls) h:=by
 have A:=B.A
 refine ⟨A.st,fun y=>by rw [he]; rfl,fun i d hd=>?_,fun y d hd hz=>?_⟩
 ·have hz:(wd0 ++ zerL p.arrays)[wd0.length + i]?=some (d.name,List.replicate d.size.toNat 0):=by
   rw [List.getElem?_append_right (Nat.le_add_right _ _),Nat.add_sub_cancel_left]
   unfold zerL
   rw [List.getElem?_map,hd]; rfl
  obtain ⟨id,ws,q1,q2,q3⟩:=A.ars (wd0.length + i) ⟨d.name,((List.replicate d.size.toNat 0).length:Nat)⟩ (by
   show ((wd0 ++ zerL p.arrays).map _)[wd0.length + i]?=_
   rw [List.getElem?_map,hz]; rfl)
  have q1:((wd0 ++ zerL p.arrays).map (·.2))[wd0.length + i]?=some ws:=q1
  rw [List.getElem?_map,hz] at q1
  cases q1
  exact ⟨id,_,by show (p.arrays.map _)[i]?=_; rw [List.getElem?_map,hd]; rfl,q2,q3⟩
 ·obtain ⟨us,_,_,h2⟩:=Zjc hn (ls:=ls) hd
  have h2:=h2 hz
  have e:(Zcc p ls).inw y=us:=by show (Zaf y _).getD []=us; rw [h2]; rfl
  rw [← hw] at h2
  obtain ⟨j,hj⟩:=Zgh h2
  have hj2:(wd0 ++ zerL p.arrays)[j]?=some (y,us):=by rw [List.getElem?_append_left (List.getElem?_eq_some_iff.1 hj).1]; exact hj
  obtain ⟨id,ws,q1,q2,q3⟩:=A.ars j ⟨y,(us.length:Nat)⟩ (by
   show ((wd0 ++ zerL p.arrays).map _)[j]?=_
   rw [List.getElem?_map,hj2]; rfl)
  have q1:((wd0 ++ zerL p.arrays).map (·.2))[j]?=some ws:=q1
  rw [List.getElem?_map,hj2] at q1
  cases q1
  rw [e]
  exact ⟨id,q2,q3⟩
theorem Bw.zero {h:H} {n:Nat}:Bw h.next h [] (List.replicate n 0) ⟨h.next,none,none,none,none,none,[],[]⟩ ((h.new (.cells [.vec [] .full,.vec [] .full,.vec [] .full,.vec [] .full,.vec [] .full])).new (.cells (Zau (List.replicate n 0)))):=by
 have sl:∀ i id,Rk.slot ⟨h.next,none,none,none,none,none,[],[]⟩ i=some id→i=0∧id=h.next:=fun i id hi=>by
  match i with
  | 0=>cases hi; exact ⟨rfl,rfl⟩
  | 1=>cases hi
  | 2=>cases hi
  | 3=>cases hi
  | 4=>cases hi
  | 5=>cases hi
  | k + 6=>simp [Rk.slot] at hi
 refine ⟨⟨⟨?_,rfl,rfl,rfl,rfl,rfl,by simp,by simp,Nat.zero_le _,Nat.zero_le _,fun i j id hi hj=>by rw [(sl i id hi).1,(sl j id hj).1],fun i id hi=>?_⟩,fun y=>rfl,fun i d hd=>(by cases hd),fun y d hd=>(by cases hd)⟩,rfl,fun i id hi=>?_,?_,by simp only [Zag]; omega,fun j hj=>?_⟩
 ·show (H.new _ _).objs h.next=_
  rw [Zac,if_neg (by simp only [Zag]; omega),Zac,if_pos rfl]; rfl
 ·rw [(sl i id hi).2]; simp only [Zag]; omega
 ·rw [(sl i id hi).2]; omega
 ·rw [Zac,if_pos (by rw [Zag])]
 ·rw [Zac,if_neg (by simp only [Zag]; omega),Zac,if_neg (by omega)]
theorem Bw.names {b:Nat} {h0 h:H} {wd:List (ByteArray × List Nat)} {a:List Nat} {L:Rk} (B:Bw b h0 wd a L h) {y:ByteArray} {l:List Nat} (hy:y ∉ wd.map (·.1)) (hl:L.ws.length < 1000000):∃ h1 h3:H,
  (∀ (st:S) (q:Nat) (ag:Bool) (c2:Cap),st.h=h→appV st q (slV L.a L.ws.length) (.vec [.str y] c2) 1 16 ag true=some (.ref h.next 0 (L.ws.length + 1) 1,st.withH h1))∧h1.next=h.next + 1 ∧
  (∀ (st:S) (q:Nat) (ag:Bool) (c2:Cap),st.h=h1.new (.cells (Ws l))→appV st q (slV L.w L.ws.length) (.vec [.ref (h.next + 1) 0 l.length 1] c2) 1 24 ag true=some (.ref (h.next + 2) 0 (L.ws.length + 1) 1,st.withH h3)) ∧
  h1.get L.x=some (L.cs 0)∧(h1.new (.cells (Ws l))).get L.x=some (L.cs 0)∧h3.get L.x=some (L.cs 0) ∧
  Bw b h0 (wd ++ [(y,l)]) a (L.more h.next (h.next + 2) (h.next + 1) y l.length) (h3.set L.x (.cells [slV L.n L.es.length,slV L.v L.es.length,.ref h.next 0 (L.ws.length + 1) 1,.ref (h.next + 2) 0 (L.ws.length + 1) 1,slV L.t 0])):=by
 have S:=B.A.st
 have hxl:=S.lt 0 L.x rfl
 have xa:L.a ≠ some L.x:=fun e=>by have:=S.nd 3 0 L.x e rfl; omega
 have xw:L.w ≠ some L.x:=fun e=>by have:=S.nd 4 0 L.x e rfl; omega
 obtain ⟨h1,a1,a2,a3,a4⟩:=Zj7 (el:=.str y) (bytes:=16) S.a (show (anL L.ws).length=L.ws.length by simp [anL]) rfl (by decide) hl
 have w1:SlAt (h1.new (.cells (Ws l))) L.w (wdL L.ws):=S.w.keep fun id hi=>by
  have:=S.lt 4 id hi
  rw [Zac,if_neg (by omega),a4 id this (fun e=>by have:=S.nd 3 4 id e hi; omega)]
 obtain ⟨h3,c1,c2,c3,c4⟩:=Zj7 (el:=.ref (h.next + 1) 0 l.length 1) (bytes:=24) w1 (show (wdL L.ws).length=L.ws.length by simp [wdL]) rfl (by decide) hl
 rw [Zag,a3,show h.next + 1 + 1=h.next + 2 from rfl] at c1 c2 c3 c4
 have g1:h1.objs L.x=some (.cells (L.cs 0)):=by rw [a4 _ hxl xa]; exact S.x
 have g2:(h1.new (.cells (Ws l))).objs L.x=some (.cells (L.cs 0)):=by rw [Zac,if_neg (by omega)]; exact g1
 have g3:h3.objs L.x=some (.cells (L.cs 0)):=by rw [c4 _ (by omega) xw]; exact g2
 have nw:L.w ≠ some h.next:=fun e=>by have:=S.lt 4 _ e; omega
 have nw1:L.w ≠ some (h.next + 1):=fun e=>by have:=S.lt 4 _ e; omega
 obtain ⟨A2,F2⟩:=B.A.grow B.keys (l:=l) (h3:=h3) (na:=h.next) (iw:=h.next + 1) (wn:=h.next + 2) hy hl (by rw [c4 _ (by omega) nw,Zac,if_neg (by omega)]; exact a2.2) c2.2 (by rw [c4 _ (by omega) nw1,Zac,if_pos (by omega)])
  (fun id hid na nw=>by rw [c4 _ (by omega) nw,Zac,if_neg (by omega),a4 _ hid na]) (by omega) (by omega) (by omega) (by omega) (by omega) (by omega)
 refine ⟨h1,h3,a1,a3,fun st q ag c2 hs=>c1 st q ag c2 hs,Zai g1,Zai g2,Zai g3,B.fr A2 F2 ?_⟩
 show (L.ws ++ _).map (·.1)=_
 rw [List.map_append,List.map_append,B.keys]; rfl
theorem Bw.block {b:Nat} {h0 h:H} {wd:List (ByteArray × List Nat)} {a:List Nat} {L:Rk} (B:Bw b h0 wd a L h) {y:ByteArray} {l:List Nat} (hy:y ∉ wd.map (·.1)) (hl:L.ws.length < 1000000):∃ h1 h3:H,
  (∀ (st:S) (q:Nat) (ag:Bool) (c2:Cap),st.h=h.new (.cells (Ws l))→appV st q (slV L.a L.ws.length) (.vec [.str y] c2) 1 16 ag true=some (.ref (h.next + 1) 0 (L.ws.length + 1) 1,st.withH h1)) ∧
  (∀ (st:S) (q:Nat) (ag:Bool) (c2:Cap),st.h=h1→appV st q (slV L.w L.ws.length) (.vec [.ref h.next 0 l.length 1] c2) 1 24 ag true=some (.ref (h.next + 2) 0 (L.ws.length + 1) 1,st.withH h3)) ∧
  (h.new (.cells (Ws l))).get L.x=some (L.cs 0)∧h1.get L.x=some (L.cs 0)∧h3.get L.x=some (L.cs 0) ∧
  Bw b h0 (wd ++ [(y,l)]) a (L.more (h.next + 1) (h.next + 2) h.next y l.length) (h3.set L.x (.cells [slV L.n L.es.length,slV L.v L.es.length,.ref (h.next + 1) 0 (L.ws.length + 1) 1,.ref (h.next + 2) 0 (L.ws.length + 1) 1,slV L.t 0])):=by
 have S:=B.A.st
 have hxl:=S.lt 0 L.x rfl
 have xa:L.a ≠ some L.x:=fun e=>by have:=S.nd 3 0 L.x e rfl; omega
 have xw:L.w ≠ some L.x:=fun e=>by have:=S.nd 4 0 L.x e rfl; omega
 have na0:L.a ≠ some h.next:=fun e=>by have:=S.lt 3 _ e; omega
 have nw:L.w ≠ some h.next:=fun e=>by have:=S.lt 4 _ e; omega
 have nw1:L.w ≠ some (h.next + 1):=fun e=>by have:=S.lt 4 _ e; omega
 have q1:SlAt (h.new (.cells (Ws l))) L.a (anL L.ws):=S.a.keep fun id hi=>by
  have:=S.lt 3 id hi
  rw [Zac,if_neg (by omega)]
 obtain ⟨h1,a1,a2,a3,a4⟩:=Zj7 (el:=.str y) (bytes:=16) q1 (show (anL L.ws).length=L.ws.length by simp [anL]) rfl (by decide) hl
 rw [Zag] at a1 a2 a3 a4
 have w1:SlAt h1 L.w (wdL L.ws):=S.w.keep fun id hi=>by
  have:=S.lt 4 id hi
  rw [a4 id (by omega) (fun e=>by have:=S.nd 3 4 id e hi; omega),Zac,if_neg (by omega)]
 obtain ⟨h3,c1,c2,c3,c4⟩:=Zj7 (el:=.ref h.next 0 l.length 1) (bytes:=24) w1 (show (wdL L.ws).length=L.ws.length by simp [wdL]) rfl (by decide) hl
 rw [a3,show h.next + 1 + 1=h.next + 2 from rfl] at c1 c2 c3 c4
 have g1:(h.new (.cells (Ws l))).objs L.x=some (.cells (L.cs 0)):=by rw [Zac,if_neg (by omega)]; exact S.x
 have g2:h1.objs L.x=some (.cells (L.cs 0)):=by rw [a4 _ (by omega) xa]; exact g1
 have g3:h3.objs L.x=some (.cells (L.cs 0)):=by rw [c4 _ (by omega) xw]; exact g2
 obtain ⟨A2,F2⟩:=B.A.grow B.keys (l:=l) (h3:=h3) (na:=h.next + 1) (iw:=h.next) (wn:=h.next + 2) hy hl (by rw [c4 _ (by omega) nw1]; exact a2.2) c2.2 (by rw [c4 _ (by omega) nw,a4 _ (by omega) na0,Zac,if_pos rfl])
  (fun id hid na nw=>by rw [c4 _ (by omega) nw,a4 _ (by omega) na,Zac,if_neg (by omega)]) (by omega) (by omega) (by omega) (by omega) (by omega) (by omega)
 refine ⟨h1,h3,a1,fun st q ag c2 hs=>c1 st q ag c2 hs,Zai g1,Zai g2,Zai g3,B.fr A2 F2 ?_⟩
 show (L.ws ++ _).map (·.1)=_
 rw [List.map_append,List.map_append,B.keys]; rfl
end Go.Ab
namespace Go.Ab
theorem blen_half {n:Nat} (h:1 < n):max (blen n) 1=max (blen (n / 2)) 1 + 1:=by
 have h1:blen n=1 + blen (n / 2):=Zdz (by omega)
 have h2:blen (n / 2)=1 + blen (n / 2 / 2):=Zdz (by omega)
 omega
theorem blen_small {n:Nat} (h:n ≤ 1):max (blen n) 1=1:=by
 have:=(blen_le (k:=1) (n:=n)).2 (by omega)
 omega
namespace YtljoifdccjcidaaDoor
section
variable {h:H} {K:Out→H→Prop} {p:Prg}
theorem width02 {n:Nat} (hn:n < 18446744073709551616) (hK:K (.ret (I ((max (blen n) 1:Nat):Int))) h):R 38 [W n] h K:=by
 refine run38 (Nat.le_of_ble_eq_true rfl) ?_
 simp -dsimp -implicitDefEqProofs only [↓STP,STQ,seval,ir38]
 have hb64:max (blen n) 1 ≤ 64:=by have:=(blen_le (k:=64) (n:=n)).2 (by omega); omega
 refine Zal (fun c s'=>∃ (k w:Nat),c=k∧k ≤ n∧(max (blen k) 1) + w=max (blen n) 1 + 1∧s'=⟨upd (upd ρ0 0 (W k)) 3 (I w),m0,0,[],h⟩) (i:=n) ⟨n,1,rfl,Nat.le_refl _,rfl,by simp -dsimp -implicitDefEqProofs only [↓STP,STQ,seval] <;> rfl⟩ ?_ mono
 rintro c s' ⟨k,w,rfl,hkn,hw,rfl⟩
 by_cases h1:1 < c
 ·have h1':(1:Int) < (c:Int):=by omega
  have g1:IntKind.u64.wrap (Int.tdiv (c:Int) 2)=((c / 2:Nat):Int):=by
   show IntKind.u64.wrap ((c / 2:Nat):Int)=_
   rw [Zaq] <;> omega
  have hh:=blen_half h1
  have g2:=wiM (show w < 9223372036854775807 by omega)
  simp -dsimp -implicitDefEqProofs only [↓STP,STQ,seval,eq_true h1',g1,g2]
  exact ⟨c / 2,by omega,c / 2,w + 1,rfl,by omega,by omega,rfl⟩
 ·have h1':¬ (1:Int) < (c:Int):=by omega
  have hh:=blen_small (n:=c) (by omega)
  simp -dsimp -implicitDefEqProofs only [↓STP,STQ,seval,eq_false h1']
  have e:w=max (blen n) 1:=by omega
  rw [e]
  exact hK
theorem words30 {d:InD} (h0:0 ≤ d.size) (hK:K (.ret (I ((Zbr d:Nat):Int))) h):R 32 [d.v] h K:=by
 refine run32 (Nat.le_of_ble_eq_true rfl) ?_
 by_cases c:(0:Int) < d.size
 ·have e:d.size=((Zbr d:Nat):Int):=by unfold Zbr; omega
  simp -dsimp -implicitDefEqProofs only [↓STP,STQ,seval,Zam,ir32,eq_true c]
  rw [e]
  exact hK
 ·have e:Zbr d=1:=by unfold Zbr; omega
  rw [e] at hK
  simp -dsimp -implicitDefEqProofs only [↓STP,STQ,seval,Zam,ir32,eq_false c]
  exact hK
theorem words30' {d:InD} {N:Nat} {vd:V} (hd:vd=d.v) (h0:0 ≤ d.size) (hN:Zbr d=N) (hK:K (.ret (I ((N:Nat):Int))) h):R 32 [vd] h K:=by subst hd hN; exact words30 h0 hK
theorem fit30 (v:VT p) {ls:List (List Nat)} (ok:LsOk ls) (hK:∀ h',UpH h h'→K (.ret (.bool (fitB p ls))) h'):R 25 [p.v,LV ls] h K:=by
 refine run25 (Nat.le_of_ble_eq_true rfl) ?_
 have hlen:=ok.len
 have pli:=v.ok.li
 have hm:=Zap
 simp -dsimp -implicitDefEqProofs only [↓STP,STQ,seval,Prg.v,Prg.cells,LV,ir25,List.length_map,Zig (n:=ls.length) (sz:=1) (bytes:=8) (by omega) (by decide) (by decide),Zgc]
 unfold fitB at hK
 refine Zal (fun c s'=>∃ j a h',j ≤ p.ins.length∧c=p.ins.length - j∧a.length=ls.length∧fitG (p.ins.drop j) ls a=fitG p.ins ls (List.replicate ls.length 0)∧h'.objs h.next=some (.cells (Zau a))∧h'.next=h.next + 1∧(∀ i,i < h.next→h'.objs i=h.objs i) ∧
  s'=⟨upd (upd (upd (upd ρ0 1 (LV ls)) 2 (.lptr 0 3 0)) 5 (.ref h.next 0 ls.length 1)) 6 (I j),upd m0 0 (some [.vec (p.ins.map InD.v) .any,.vec (p.arrays.map ArD.v) .any,.vec (p.body.map Stm.v) .any]),1,[],h'⟩)
  (i:=p.ins.length) ⟨0,List.replicate ls.length 0,_,Nat.zero_le _,rfl,by simp,rfl,by rw [Zac,if_pos rfl],rfl,fun i hi=>by rw [Zac,if_neg (Nat.ne_of_lt hi)],by simp -dsimp -implicitDefEqProofs only [↓STP,STQ,seval,LV] <;> rfl⟩ ?_ mono
 rintro c s' ⟨j,a,h',hj,rfl,hal,hr,ho,hn,hold,rfl⟩
 rcases Nat.lt_or_ge j p.ins.length with hi | hi
 ·have hget:=Za6 (f:=InD.v) hi
  have hdm:p.ins[j] ∈ p.ins:=List.getElem_mem hi
  have hdi:=v.ins _ hdm
  have w1:=wiM (show j < 9223372036854775807 by omega)
  have hdr:p.ins.drop j=p.ins[j] :: p.ins.drop (j + 1):=List.drop_eq_getElem_cons hi
  rw [hdr,fitG] at hr
  generalize p.ins[j]=d at *
  by_cases hfr:(ls.length:Int) < d.frm
  ·have hno:¬ okD ls a d:=fun hh=>by have:=hh.1; unfold frmD at this; have:=hdi.f1; omega
   rw [if_neg hno] at hr
   rw [← hr] at hK
   simp -dsimp -implicitDefEqProofs only [↓STP,STQ,seval,Int.ofNat_lt,hi,hget,Zam,Zae,LV,List.length_map,eq_true hfr]
   exact hK h' ⟨by omega,hold⟩
  have hf1:=hdi.f1
  have hf:frmD d < ls.length:=by unfold frmD; omega
  have hf2:=hdi.f2
  have efr:((frmD d:Nat):Int)=d.frm - 1:=by unfold frmD; omega
  have hfI:IntKind.i64.wrap (d.frm - 1)=((frmD d:Nat):Int):=by
   rw [efr,wrap_i64] <;> omega
  have hsz:Zbr d ≤ 64:=by have:=hdi.s2; unfold Zbr; omega
  have gl:=Zlc hf
  obtain ⟨okl,okw⟩:=ok.get (frmD d)
  simp -dsimp -implicitDefEqProofs only [↓STP,STQ,seval,Int.ofNat_lt,hi,hget,Zam,Zae,LV,List.length_map,eq_false hfr]
  have hyes:okD ls a d→fitG (p.ins.drop (j + 1)) ls (Zht a d)=fitG p.ins ls (List.replicate ls.length 0):=fun q=>by rw [if_pos q] at hr; exact hr
  have hnot:¬ okD ls a d→none=fitG p.ins ls (List.replicate ls.length 0):=fun q=>by rw [if_neg q] at hr; exact hr
  clear hr
  unfold okD Zgw at hyes hnot
  unfold Zht at hyes
  generalize hfd:frmD d=f at *
  generalize hld:ls.getD f []=l at *
  generalize hkd:a.getD f 0=k0 at *
  generalize hsd:Zbr d=N at *
  have hfa:f < a.length:=by omega
  refine Zal (fun c s'=>∃ i h'',i ≤ N∧c=N - i∧(i=0∨k0 + i ≤ l.length)∧(∀ v ∈ (l.drop k0).take i,v < 2 ^ d.width.toNat)∧h''.objs h.next=some (.cells (Zau (a.set f (k0 + i))))∧h''.next=h.next + 1∧(∀ i,i < h.next→h''.objs i=h.objs i) ∧
   s'=⟨upd (upd (upd (upd (upd (upd ρ0 1 (LV ls)) 2 (.lptr 0 3 0)) 5 (.ref h.next 0 ls.length 1)) 6 (I j)) 7 (.lptr 1 4 0)) 8 (I i),upd (upd m0 0 (some [.vec (p.ins.map InD.v) .any,.vec (p.arrays.map ArD.v) .any,.vec (p.body.map Stm.v) .any])) 1 (some [.str d.name,I d.frm,I d.width,I d.size]),2,[],h''⟩)
   (i:=N) ⟨0,h',Nat.zero_le _,rfl,.inl rfl,by simp,by
    have e:a.set f (k0 + 0)=a:=by
     apply List.ext_getElem?
     intro q
     rw [List.getElem?_set]
     split
     ·rename_i e; subst e
      rw [← hkd,List.getD_eq_getElem?_getD,List.getElem?_eq_getElem hfa]; rfl
     ·rfl
    rw [e]; exact ho,hn,hold,by simp -dsimp -implicitDefEqProofs only [↓STP,STQ,seval,LV] <;> rfl⟩ ?_ mono
  rintro c s' ⟨i,h'',hiN,rfl,hki,hws,ho2,hn2,hold2,rfl⟩
  have g2:=Zai ho2
  have lset:(a.set f (k0 + i)).length=a.length:=List.length_set
  have ga:=Zef (l:=a.set f (k0 + i)) (i:=f) (by omega)
  rw [Zh1 hfa] at ga
  have hfI':((f:Nat):Int) < ((ls.length:Nat):Int):=by omega
  simp -dsimp -implicitDefEqProofs only [↓STP,STQ,seval,LV]
  refine words30' (d:=d) (N:=N) rfl hdi.s1 hsd ?_
  by_cases hlt:i < N
  ·have hltI:((i:Nat):Int) < ((N:Nat):Int):=by omega
   by_cases hge:l.length ≤ k0 + i
   ·have hgeI:((l.length:Nat):Int) ≤ ((k0 + i:Nat):Int):=by omega
    rw [← hnot (by rintro ⟨_,h2,_⟩; omega)] at hK
    simp -dsimp -implicitDefEqProofs only [↓STP,STQ,seval,eq_true hltI,LV,hfI,gl,Zam,InD.v_cells,eq_true hfI',Nat.mul_one,g2,ga,Za7,eq_true hgeI]
    exact hK h'' ⟨by omega,hold2⟩
   ·have hgeI:¬ ((l.length:Nat):Int) ≤ ((k0 + i:Nat):Int):=by omega
    have hkl:k0 + i < l.length:=by omega
    have hklI:((k0 + i:Nat):Int) < ((l.length:Nat):Int):=by omega
    have gw:=Ws_getD hkl
    have hvm:=mem_words hkl hlt
    have hv64:l.getD (k0 + i) 0 < 18446744073709551616:=okw _ (List.mem_of_mem_drop (List.mem_of_mem_take hvm))
    have htw:=Zlq hkl
    have wf:=Zlm (n:=l.getD (k0 + i) 0) hdi.w1
    generalize l.getD (k0 + i) 0=v0 at *
    have w2:IntKind.i64.wrap (((k0 + i:Nat):Int) + 1)=((k0 + (i + 1):Nat):Int):=by rw [wrap_i64] <;> omega
    have w3:=wiM (show i < 9223372036854775807 by omega)
    have stw:=fun ρ m n' u=>Zbv (ρ:=ρ) (m:=m) (n:=n') (u:=u) (j:=f) (v:=I ((k0 + (i + 1):Nat):Int)) g2 (by rw [Zby]; omega) rfl rfl
    rw [Zhv,List.set_set] at stw
    have hnext:v0 < 2 ^ d.width.toNat→∃ (c:Nat),c < N - i∧∃ i' h3,i' ≤ N∧c=N - i'∧(i'=0∨k0 + i' ≤ l.length)∧(∀ v ∈ (l.drop k0).take i',v < 2 ^ d.width.toNat)∧h3.objs h.next=some (.cells (Zau (a.set f (k0 + i'))))∧h3.next=h.next + 1∧(∀ i,i < h.next→h3.objs i=h.objs i) ∧
      (⟨upd (upd (upd (upd (upd (upd ρ0 1 (LV ls)) 2 (.lptr 0 3 0)) 5 (.ref h.next 0 ls.length 1)) 6 (I j)) 7 (.lptr 1 4 0)) 8 (I ((i + 1:Nat):Int)),upd (upd m0 0 (some [.vec (p.ins.map InD.v) .any,.vec (p.arrays.map ArD.v) .any,.vec (p.body.map Stm.v) .any])) 1 (some [.str d.name,I d.frm,I d.width,I d.size]),2,[],h''.set h.next (.cells (Zau (a.set f (k0 + (i + 1)))))⟩:S) =
      ⟨upd (upd (upd (upd (upd (upd ρ0 1 (LV ls)) 2 (.lptr 0 3 0)) 5 (.ref h.next 0 ls.length 1)) 6 (I j)) 7 (.lptr 1 4 0)) 8 (I i'),upd (upd m0 0 (some [.vec (p.ins.map InD.v) .any,.vec (p.arrays.map ArD.v) .any,.vec (p.body.map Stm.v) .any])) 1 (some [.str d.name,I d.frm,I d.width,I d.size]),2,[],h3⟩:=fun hv0 =>
     ⟨N - (i + 1),by omega,i + 1,h''.set h.next (.cells (Zau (a.set f (k0 + (i + 1))))),hlt,rfl,.inr (by omega),fun v hv=>by
      rw [htw] at hv
      rcases List.mem_append.1 hv with hv | hv
      ·exact hws v hv
      ·rw [List.mem_singleton] at hv; subst hv; exact hv0,by rw [Zaa,if_pos rfl],hn2,fun q hq=>by rw [Zaa,if_neg (by omega)]; exact hold2 q hq,rfl⟩
    simp -dsimp -implicitDefEqProofs only [↓STP,STQ,seval,eq_true hltI,LV,hfI,gl,Zam,eq_true hfI',Nat.mul_one,g2,ga,Za7,eq_false hgeI,eq_true hklI,gw]
    refine width02 hv64 ?_
    by_cases hw:d.width < ((max (blen v0) 1:Nat):Int)
    ·have hge0:¬ v0 < 2 ^ d.width.toNat:=fun hh=>(wf.2 hh).elim (fun e=>by subst e; rw [Zf1] at hw; have:=hdi.w1; omega) (fun e=>e hw)
     rw [← hnot (by rintro ⟨_,_,h3⟩; exact hge0 (h3 _ hvm))] at hK
     simp -dsimp -implicitDefEqProofs only [↓STP,STQ,seval,eq_true hw]
     exact hK h'' ⟨by omega,hold2⟩
    ·have hlt0:v0 < 2 ^ d.width.toNat:=wf.1 (.inr hw)
     simp -dsimp -implicitDefEqProofs only [↓STP,STQ,seval,eq_false hw,hfI,Nat.mul_one,eq_true hfI',g2,ga,stw,w2,w3]
     exact hnext hlt0
  ·have hiN':i=N:=by omega
   subst hiN'
   simp -dsimp -implicitDefEqProofs only [↓STP,STQ,seval,Int.lt_irrefl,w1]
   have hN1:1 ≤ i:=by rw [← hsd]; unfold Zbr; omega
   have hr:=hyes ⟨hf,by omega,hws⟩
   exact ⟨p.ins.length - (j + 1),by omega,j + 1,a.set f (k0 + i),h'',hi,rfl,by rw [List.length_set]; exact hal,hr,ho2,hn2,hold2,rfl⟩
 ·have hj':j=p.ins.length:=by omega
  subst hj'
  rw [List.drop_length,fitG] at hr
  rw [← hr] at hK
  simp -dsimp -implicitDefEqProofs only [↓STP,STQ,seval,Int.lt_irrefl,LV,List.length_map]
  have g1:=Zai ho
  refine Zar (N:=ls.length) (fun i=>⟨upd (upd (upd ρ0 1 (LV ls)) 5 (.ref h.next 0 ls.length 1)) 10 (I i),m0,0,[],h'⟩) (fun i=>a.take i=(ls.map List.length).take i) (by simp -dsimp -implicitDefEqProofs only [↓STP,STQ,seval,LV] <;> rfl) rfl (fun i hlt htk=>?_) (fun htk=>?_) mono
  ·have gl:=Zlc hlt
   have ga:=Zef (l:=a) (i:=i) (by omega)
   have hltI:((i:Nat):Int) < ((ls.length:Nat):Int):=by omega
   have w3:=wiM (show i < 9223372036854775807 by omega)
   have e1:ls.getD i []=ls[i]:=by rw [List.getD_eq_getElem?_getD,List.getElem?_eq_getElem hlt]; rfl
   have e2:a.getD i 0=a[i]:=by rw [List.getD_eq_getElem?_getD,List.getElem?_eq_getElem (by omega)]; rfl
   by_cases he:((a.getD i 0:Nat):Int)=(((ls.getD i []).length:Nat):Int)
   ·simp -dsimp -implicitDefEqProofs only [↓STP,STQ,seval,eq_true hltI,LV,List.length_map,gl,g1,ga,Nat.mul_one,Za7,eq_true he,w3]
    rw [List.take_add_one,List.take_add_one,htk,List.getElem?_eq_getElem (by omega),List.getElem?_map,List.getElem?_eq_getElem hlt]
    rw [e1,e2] at he
    have he:a[i]=ls[i].length:=by omega
    rw [he]; rfl
   ·have hno:Zma ls (some a)=false:=decide_eq_false fun hh=>he (by
     have this:a.getD i 0=(ls.map List.length).getD i 0:=congrArg (fun l=>l.getD i 0) hh
     rw [this,e1,List.getD_eq_getElem?_getD,List.getElem?_map,List.getElem?_eq_getElem hlt]; rfl)
    rw [hno] at hK
    simp -dsimp -implicitDefEqProofs only [↓STP,STQ,seval,eq_true hltI,LV,List.length_map,gl,g1,ga,Nat.mul_one,Za7,eq_false he,w3]
    exact hK h' ⟨by omega,hold⟩
  ·have hyes:Zma ls (some a)=true:=decide_eq_true (by
    have e1:a.take ls.length=a:=List.take_of_length_le (by omega)
    have e2:(ls.map List.length).take ls.length=ls.map List.length:=List.take_of_length_le (by rw [List.length_map]; exact Nat.le_refl _)
    rw [← e1,← e2,htk])
   rw [hyes] at hK
   simp -dsimp -implicitDefEqProofs only [↓STP,STQ,seval,LV,List.length_map,Int.lt_irrefl]
   exact hK h' ⟨by omega,hold⟩
end
end YtljoifdccjcidaaDoor
end Go.Ab
namespace Go.Ab
namespace YtljoifdccjcidaaDoor
section
variable {K:Out→H→Prop} {p:Prg}
theorem branchR {k:Int} {s:ByteArray} {e:List Exp} {a b:List Stm} {kk:Kn} {lv:Nat} (hp:PV p) (ha:SqSs p a (lv + 1)) (hb:SqSs p b (lv + 1)) (ga:Zbz p (Zaj p a)) (gb:Zbz p (Zaj p b)) {L:Lr} {σ:TS} {h:H} (A:Rt p L σ h) (ok:TOk p σ) (hifs:σ.ifs ≤ lv) (hlv:lv ≤ 100) (hla:p.arrays.length ≤ 1000)
  (hK:EndR p L h K (if kk.kind ≠ 2 then .error 5 else andT (Zaj p a { σ with ifs:=σ.ifs + 1 }) fun σ1=>andT (Zaj p b { σ1 with env:=σ.env }) fun σ2 =>
   .ok { σ2 with ifs:=σ.ifs,env:={ σ.env with vars:=Zdn σ.env.vars σ1.env.vars σ2.env.vars,words:=maxW σ2.env.words σ1.env.words } })) :
  R 100 [.ptr L.x 0,(Stm.mk k s e a b).v,kk.v] h K:=by
 refine run100 (Nat.le_of_ble_eq_true rfl) ?_
 by_cases c:kk.kind=2
 rotate_left
 ·rw [if_pos c] at hK
  simp -dsimp -implicitDefEqProofs only [↓STP,STQ,seval,ir100,Zab,Stm.v_mk,eq_false c]
  exact hK (by decide) _ _ (Fw.refl _ _)
 rw [if_neg (fun h=>h c)] at hK
 have gx:=Zai A.x
 have w1:IntKind.i64.wrap ((σ.ifs:Int) + 1)=((σ.ifs + 1:Nat):Int):=by rw [wrap_i64] <;> omega
 have el:L.es.length ≤ 10000:=Nat.le_trans A.vl ok.steps
 have wl:=ok.env.wlen
 simp -dsimp -implicitDefEqProofs only [↓STP,STQ,seval,ir100,Zab,Stm.v_mk,eq_true c,gx,Lr.cs,Lr.ov_out]
 rw [app_copy nm_elems (by rw [List.length_map]; omega)]
 simp -dsimp -implicitDefEqProofs only [↓STP,STQ,seval,gx,Lr.cs,Lr.ov_out,eq_self]
 have lto:∀ id ∈ L.own,id < h.next:=A.lt
 refine copiedR (wss:=σ.env.words) A.len (by omega) ?_ (fun i ws hi=>?_) (fun ws hw=>?_) (fun h1 o rs cp=>?_)
 ·have h0:=A.o
  have hm:=fun id (q:L.o=some id)=>lto id (L.o_mem q)
  revert h0 hm
  cases L.o with
  | none=>intro h0 _; exact h0
  | some id=>intro h0 hm; exact ⟨h0,hm id rfl⟩
 ·obtain ⟨id,q1,q2⟩:=A.ws i ws hi
  exact ⟨id,q1,q2,lto id (L.r_mem (List.mem_of_getElem? q1))⟩
 ·obtain ⟨i,hi⟩:=List.mem_iff_getElem?.1 hw
  have hil:i < p.arrays.length:=by
   have:=(List.getElem?_eq_some_iff.1 hi).1
   omega
  have hd:=List.getElem?_eq_getElem hil
  have hds:=hp.ars _ (List.getElem_mem hil)
  have:=(ok.env.words i ws _ hi hd).1
  omega
 have A1:Rt p L σ h1:=A.frame cp.nx fun id hid=>cp.old id (lto id hid)
 have F1:Fw L L h h1:=⟨cp.nx,rfl,fun id hl _=>cp.old id hl,fun id hid=>.inl hid⟩
 have gx1:=Zai A1.x
 obtain ⟨A2,F2⟩:=A1.count { σ with ifs:=σ.ifs + 1 } rfl (Nat.le_refl _)
 have ok2:TOk p { σ with ifs:=σ.ifs + 1 }:=⟨ok.env,ok.steps,ok.most⟩
 cases o
 all_goals
  simp -dsimp -implicitDefEqProofs only [↓STP,STQ,seval,gx1,Lr.cs,w1,Zae,ovO]
  refine ha L _ (h1.set L.x (.cells (L.cs p { σ with ifs:=σ.ifs + 1 }))) _ A2 ok2 (by show σ.ifs + 1 ≤ lv + 1; omega) ?_
  have hn2:(h1.set L.x (.cells (L.cs p { σ with ifs:=σ.ifs + 1 }))).next=h1.next:=rfl
  have far2:∀ id,h.next ≤ id→(h1.set L.x (.cells (L.cs p { σ with ifs:=σ.ifs + 1 }))).objs id=h1.objs id:=fun id hid=>by
   rw [Zaa,if_neg (by have:=lto _ L.x_mem; omega)]
  generalize h1.set L.x (.cells (L.cs p { σ with ifs:=σ.ifs + 1 }))=h2 at *
  have F12:=F1.trans F2
  cases hr:Zaj p a { σ with ifs:=σ.ifs + 1 } with
  | error er =>
   rw [hr] at hK
   intro hne L1 h3 F3
   simp -dsimp -implicitDefEqProofs only [↓STP,STQ,seval,eq_false hne]
   exact hK hne _ _ (F12.trans F3)
  | ok σ1 =>
  rw [hr,Zat] at hK
  have kp1:=ga _ _ ok2 hr
  intro L1 h3 A3 F3
  have hx1:L1.x=L.x:=F3.x
  have gx3:=Zai A3.x
  rw [hx1] at gx3
  have hnx3:=F3.nx
  have st1:σ.steps ≤ σ1.steps:=kp1.steps
  have lp1:σ1.env.loops=σ.env.loops:=kp1.loops
  have if1:σ1.ifs=σ.ifs + 1:=kp1.ifs
  have keep3:∀ id,h.next ≤ id→id < h1.next→h3.objs id=h1.objs id:=fun id q1 q2=>by
   rw [F3.same id (by omega) (fun hm=>by have:=lto id hm; omega),far2 id q1]
  have A4:=A.swap A3 hx1 cp keep3 (by omega) lp1 st1 (cpA_or (L.es.map nmV).length)
  have ok4:TOk p { σ1 with env:=σ.env }:=⟨ok.env,kp1.ok.steps,kp1.ok.most⟩
  simp -dsimp -implicitDefEqProofs only [↓STP,STQ,seval,gx3,Lr.cs]
  rw [app_copy nm_elems (by rw [List.length_map]; omega)]
  have lpe:lps σ1.env=lps σ.env:=by unfold lps; rw [lp1]
  simp -dsimp -implicitDefEqProofs only [↓STP,STQ,seval,gx3,Lr.cs,Zae,cp_outs,Zkm,Zf5,lpe]
  refine hb _ { σ1 with env:=σ.env } (h3.set L.x (.cells (Lr.cs p _ { σ1 with env:=σ.env }))) _ A4 ok4 (by show σ1.ifs ≤ lv + 1; omega) ?_
  have far4:∀ cs id,id ≠ L.x→(h3.set L.x cs).objs id=h3.objs id:=fun cs id hid=>by rw [Zaa,if_neg hid]
  have hcop:=A4
  clear A4
  generalize hh4:h3.set L.x (.cells (Lr.cs p _ { σ1 with env:=σ.env }))=h4 at hcop ⊢
  have far4:∀ id,id ≠ L.x→h4.objs id=h3.objs id:=fun id hid=>by rw [← hh4]; exact far4 _ id hid
  have hn4:h4.next=h3.next:=by rw [← hh4]; rfl
  clear hh4
  have cge:=cp.ge
  have F123:=F12.trans F3
  have xo:=lto _ L.x_mem
  generalize hL2:({ L1 with x:=L.x,es:=L.es,vc:=cpA (L.es.map nmV).length,o:=_,wc:=.any,rs:=rs }:Lr)=L2 at hcop ⊢
  have hx2:L2.x=L.x:=by rw [← hL2]
  have own2:∀ id ∈ L2.own,id=L.x∨(h.next ≤ id∧id < h1.next):=fun id hid=>by
   rw [← hL2] at hid
   rcases List.mem_cons.1 hid with rfl | hid
   ·exact .inl rfl
   ·exact .inr (cge id hid)
  clear hL2
  have F4:Fw L L2 h h4:=⟨by have:=F123.nx; omega,hx2,fun id q1 q2=>by
   rw [far4 id (fun q=>q2 (q ▸ L.x_mem))]; exact F123.same id q1 q2,fun id hid=>(own2 id hid).elim (fun q=>.inl (q ▸ L.x_mem)) (fun q=>.inr q.1)⟩
  cases hr2:Zaj p b { σ1 with env:=σ.env } with
  | error er =>
   rw [hr2] at hK
   intro hne L3 h5 F5
   simp -dsimp -implicitDefEqProofs only [↓STP,STQ,seval,eq_false hne]
   exact hK hne _ _ (F4.trans F5)
  | ok σ2 =>
  rw [hr2,Zat] at hK
  have kp2:=gb _ _ ok4 hr2
  intro L3 h5 A5 F5
  have hx3:L3.x=L.x:=F5.x.trans hx2
  have gx5:=Zai A5.x
  rw [hx3] at gx5
  have if2:σ2.ifs=σ.ifs + 1:=kp2.ifs.trans if1
  have w2:IntKind.i64.wrap ((σ2.ifs:Int) - 1)=(σ.ifs:Int):=by rw [wrap_i64] <;> omega
  have l1:L1.es.length ≤ 10000:=Nat.le_trans A3.vl kp1.ok.steps
  have l3:L3.es.length ≤ 10000:=Nat.le_trans A5.vl kp2.ok.steps
  have st2:σ.steps ≤ σ2.steps:=Nat.le_trans st1 kp2.steps
  simp -dsimp -implicitDefEqProofs only [↓STP,STQ,seval,gx5,Lr.cs,w2,Zae,Zkm,Zf5]
  refine bothR (by omega) (by omega) (by omega) ?_
  simp -dsimp -implicitDefEqProofs only [↓STP,STQ,seval,Zae,Zkm,Zf5]
  obtain ⟨A6,F6⟩:=A5.write (L':={ L3 with es:=Zdq L.es L1.es L3.es,vc:=.any,x:=L.x }) (σ':={ σ2 with ifs:=σ.ifs,env:={ σ2.env with vars:=Zdn σ.env.vars σ1.env.vars σ2.env.vars } }) hx3.symm rfl rfl rfl
   (fun t=>by
    show Zaf t (Zdq L.es L1.es L3.es)=(Zdn σ.env.vars σ1.env.vars σ2.env.vars t).map _
    rw [Zmc,A.es,A3.es,A5.es]
    unfold Zdn
    cases σ.env.vars t with
    | none=>rfl
    | some r =>
     cases σ1.env.vars t with
     | none=>rfl
     | some r1=>cases σ2.env.vars t with
      | none=>rfl
      | some r2 =>
       simp only [Option.map_some,Zi5,Zlk]
       split <;> rfl) (Nat.le_trans bothE_len (Nat.le_trans A.vl st2)) A5.ll (.inl rfl) A5.cl A5.cw
  rw [hx3] at A6 F6
  have F46:=(F4.trans F5).trans F6
  have wl1:=kp1.ok.env.wlen
  have wl2:=kp2.ok.env.wlen
  have wr1:L1.rs.length=σ1.env.words.length:=A3.len
  have lp2:σ2.env.loops=σ.env.loops:=kp2.loops
  have keepw:∀ id ∈ L1.own,id ≠ L.x→id ∉ L3.own∧h5.objs id=h3.objs id:=fun id hid hne=>by
   have q1:=A3.lt id hid
   have q2:id ∉ L2.own:=fun hm=>by
    rcases own2 id hm with q | q
    ·exact hne q
    ·rcases F3.own id hid with q' | q'
     ·have:=lto id q'; omega
     ·omega
   refine ⟨fun hm=>?_,?_⟩
   ·rcases F5.own id hm with q | q
    ·exact q2 q
    ·omega
   ·rw [F5.same id (by omega) q2]; exact far4 id hne
  have keep6:∀ id ∈ L1.own,id ≠ L.x→(h5.set L.x (.cells (Lr.cs p { L3 with es:=Zdq L.es L1.es L3.es,vc:=.any,x:=L.x } { σ2 with ifs:=σ.ifs,env:={ σ2.env with vars:=Zdn σ.env.vars σ1.env.vars σ2.env.vars } }))).objs id=h3.objs id:=fun id hid hne=>by
   rw [Zaa,if_neg hne]; exact (keepw id hid hne).2
  have own4:∀ id ∈ L1.own,id ≠ L.x→id ∉ ({ L3 with es:=Zdq L.es L1.es L3.es,vc:=.any,x:=L.x }:Lr).own:=fun id hid hne hm=>by
   rcases List.mem_cons.1 hm with q | q
   ·exact hne q
   ·exact (keepw id hid hne).1 (List.mem_cons_of_mem _ q)
  have fin:∀ h',Rt p { L3 with es:=Zdq L.es L1.es L3.es,vc:=.any,x:=L.x } { σ2 with ifs:=σ.ifs,env:={ vars:=Zdn σ.env.vars σ1.env.vars σ2.env.vars,loops:=σ2.env.loops,words:=maxW σ2.env.words σ1.env.words } } h'→Fw L { L3 with es:=Zdq L.es L1.es L3.es,vc:=.any,x:=L.x } h h'→K (.ret (I 0)) h':=fun h' A' F'=>by
   rw [lp2] at A'
   exact hK _ _ A' F'
  clear hK
  cases ho1:L1.o with
  | none =>
   have hov:L1.ov=.vec [] L1.wc:=by unfold Lr.ov; rw [ho1]
   have hrs:L1.rs=[]:=by have:=A3.o; rw [ho1] at this; exact this
   have hz1:σ1.env.words=[]:=List.eq_nil_of_length_eq_zero (by rw [← wr1,hrs]; rfl)
   have hz2:σ2.env.words=[]:=List.eq_nil_of_length_eq_zero (by rw [hz1] at wl1; rw [wl2,← wl1]; rfl)
   have hm0:maxW σ2.env.words σ1.env.words=σ2.env.words:=by rw [hz1,hz2]; rfl
   rw [hm0] at fin
   have hfin:=fin _ A6 F46
   rw [hov]
   refine Zal (fun k s=>∃ c n,s=⟨upd (upd (upd ρ0 0 (.ptr L.x 0)) 11 (.vec [] c)) 12 (I 0),m0,n,[],h5.set L.x (.cells (Lr.cs p { L3 with es:=Zdq L.es L1.es L3.es,vc:=.any,x:=L.x } { σ2 with ifs:=σ.ifs,env:={ σ2.env with vars:=Zdn σ.env.vars σ1.env.vars σ2.env.vars } }))⟩) (i:=0) ?_ ?_ mono
   ·rcases A3.cw with q | q
    ·rw [q]; exact ⟨.any,0,by simp -dsimp -implicitDefEqProofs only [↓STP,STQ,seval] <;> rfl⟩
    ·rw [q]; exact ⟨.own 0,1,by simp -dsimp -implicitDefEqProofs only [↓STP,STQ,seval] <;> rfl⟩
   ·rintro k s ⟨c,n,rfl⟩
    simp -dsimp -implicitDefEqProofs only [↓STP,STQ,seval,Int.lt_irrefl]
    exact hfin
  | some o1 =>
   have hov:L1.ov=.ref o1 0 L1.rs.length 1:=by unfold Lr.ov; rw [ho1]
   have ho3:h3.objs o1=some (.cells (L1.rs.map refV)):=by have:=A3.o; rw [ho1] at this; exact this
   have o1m:o1 ∈ L1.own:=L1.o_mem ho1
   have o1x:o1 ≠ L.x:=by have:=A3.xo ho1; rw [hx1] at this; exact this
   rw [hov]
   have A6':Rt p { L3 with es:=Zdq L.es L1.es L3.es,vc:=.any,x:=L.x } { σ2 with ifs:=σ.ifs,env:={ vars:=Zdn σ.env.vars σ1.env.vars σ2.env.vars,loops:=σ2.env.loops,words:=mixW σ2.env.words σ1.env.words 0 } } (h5.set L.x (.cells (Lr.cs p { L3 with es:=Zdq L.es L1.es L3.es,vc:=.any,x:=L.x } { σ2 with ifs:=σ.ifs,env:={ σ2.env with vars:=Zdn σ.env.vars σ1.env.vars σ2.env.vars } }))):=by
    rw [mix_zero]; exact A6
   refine Zal (fun k s=>∃ i h',i ≤ L1.rs.length∧k=L1.rs.length - i∧Rt p { L3 with es:=Zdq L.es L1.es L3.es,vc:=.any,x:=L.x } { σ2 with ifs:=σ.ifs,env:={ vars:=Zdn σ.env.vars σ1.env.vars σ2.env.vars,loops:=σ2.env.loops,words:=mixW σ2.env.words σ1.env.words i } } h' ∧
    Fw L { L3 with es:=Zdq L.es L1.es L3.es,vc:=.any,x:=L.x } h h'∧(∀ id ∈ L1.own,id ≠ L.x→h'.objs id=h3.objs id) ∧
    s=⟨upd (upd (upd ρ0 0 (.ptr L.x 0)) 11 (.ref o1 0 L1.rs.length 1)) 12 (I i),m0,0,[],h'⟩) (i:=L1.rs.length) ⟨0,_,Nat.zero_le _,rfl,A6',F46,keep6,by simp -dsimp -implicitDefEqProofs only [↓STP,STQ,seval] <;> rfl⟩ ?_ mono
   clear A6 A6' F46 keep6 F6
   generalize ({ L3 with es:=Zdq L.es L1.es L3.es,vc:=.any,x:=L.x }:Lr)=L4 at *
   rintro k s ⟨i,h',hi,rfl,A',F',kw,rfl⟩
   have hlen:σ2.env.words.length=σ1.env.words.length:=by omega
   have g1:h'.get o1=some (L1.rs.map refV):=Zai ((kw o1 o1m o1x).trans ho3)
   rcases Nat.lt_or_ge i L1.rs.length with hil | hil
   ·have hi1:i < σ1.env.words.length:=by omega
    have hi2:i < σ2.env.words.length:=by omega
    have hb:=List.getElem?_eq_getElem hi1
    have ha2:=List.getElem?_eq_getElem hi2
    have hmg:=mix_get hlen hi2
    have hms:=mix_set hlen hi2 hi1
    have hdl:i < p.arrays.length:=by omega
    have hd:=List.getElem?_eq_getElem hdl
    have hds:=hp.ars _ (List.getElem_mem hdl)
    have lb:=(kp1.ok.env.words i _ _ hb hd).1
    have la:=(kp2.ok.env.words i _ _ ha2 hd).1
    generalize σ1.env.words[i]=bv at *
    generalize σ2.env.words[i]=av at *
    obtain ⟨id1,b1,b2⟩:=A3.ws i bv hb
    have b3:=List.mem_of_getElem? b1
    have id1m:id1 ∈ L1.own:=L1.r_mem b3
    have id1x:id1 ≠ L.x:=by have:=A3.xr b3; rw [hx1] at this; exact this
    have hob1:h'.objs id1=some (.cells (Zau bv)):=(kw id1 id1m id1x).trans b2
    have b4:(L1.rs.map refV)[i]?=some (.ref id1 0 bv.length 1):=by rw [List.getElem?_map,b1]; rfl
    obtain ⟨id,c1,c2⟩:=A'.ws i av hmg
    have c3:=List.mem_of_getElem? c1
    obtain ⟨o4,id',d1,d2,d3,d4,d5⟩:=A'.outer hmg
    have hidd:id'=id:=by
     rw [List.getElem?_map,c1] at d3
     have:=Option.some.inj d3
     simp only [refV,V.ref.injEq] at this
     exact this.1.symm
    subst hidd
    have hx4:L4.x=L.x:=F'.x
    have idm:=L4.r_mem c3
    have idx:id' ≠ L.x:=by have:=A'.xr c3; rw [hx4] at this; exact this
    have ne1:id' ≠ id1:=fun q=>own4 id1 id1m id1x (q ▸ idm)
    have ne2:id' ≠ o1:=fun q=>own4 o1 o1m o1x (q ▸ idm)
    have ne4:id' ≠ o4:=by
     have ho4:L4.o=some o4:=by
      unfold Lr.ov at d1
      cases hq:L4.o with
      | none=>rw [hq] at d1; cases d1
      | some q=>rw [hq] at d1; cases d1; rfl
     exact A'.or ho4 c3
    have hab:av.length=bv.length:=by omega
    have gx':=Zai A'.x
    rw [hx4] at gx'
    have lj:((i:Nat):Int) < ((L1.rs.length:Nat):Int):=by omega
    have l4:((i:Nat):Int) < ((L4.rs.length:Nat):Int):=by omega
    simp -dsimp -implicitDefEqProofs only [↓STP,STQ,seval,eq_true lj]
    refine Zar (N:=bv.length) (fun k=>⟨upd (upd (upd (upd ρ0 0 (.ptr L.x 0)) 11 (.ref o1 0 L1.rs.length 1)) 12 (I i)) 13 (I k),m0,0,[],h'.set id' (.cells (Zau (half av bv k)))⟩) (fun _=>True)
     (by rw [half_zero,H.set_same c2]; simp -dsimp -implicitDefEqProofs only [↓STP,STQ,seval] <;> rfl) trivial (fun k hk _=>?_) (fun _=>?_) mono
    ·have hka:k < av.length:=by omega
     have e1:(h'.set id' (.cells (Zau (half av bv k)))).get o1=some (L1.rs.map refV):=by rw [Zei ne2.symm]; exact g1
     have e2:(h'.set id' (.cells (Zau (half av bv k)))).get id1=some (Zau bv):=by rw [Zei ne1.symm]; exact Zai hob1
     have e3:(h'.set id' (.cells (Zau (half av bv k)))).get id'=some (Zau (half av bv k)):=Zkm
     have e4:(h'.set id' (.cells (Zau (half av bv k)))).get o4=some (L4.rs.map refV):=by rw [Zei ne4.symm]; exact d2
     have e5:=(Zei (h:=h') (o:=.cells (Zau (half av bv k))) idx.symm).trans gx'
     have hl0:((k:Nat):Int) < ((av.length:Nat):Int):=by omega
     have hl1:((k:Nat):Int) < ((bv.length:Nat):Int):=by omega
     have t1:=Zcv (ws:=half av bv k) (n:=k) (by rw [Zji hab (by omega)]; exact hka)
     rw [half_get hab hka] at t1
     have t2:=Zcv (ws:=bv) (n:=k) (by omega)
     have wI:=wiM (show k < 9223372036854775807 by omega)
     have hmx:(if ((bv.getD k 0:Nat):Int) > ((av.getD k 0:Nat):Int) then ((bv.getD k 0:Nat):Int) else ((av.getD k 0:Nat):Int))=((max (av.getD k 0) (bv.getD k 0):Nat):Int):=by split <;> omega
     have stw:=fun ρ m n u=>Zbv (ρ:=ρ) (m:=m) (n:=n) (u:=u) (j:=k) (v:=I ((max (av.getD k 0) (bv.getD k 0):Nat):Int)) e3 (by rw [Zby,Zji hab (by omega)]; exact hka) rfl rfl
     rw [Zf5,Zgb,half_set hab hka] at stw
     simp -dsimp -implicitDefEqProofs only [↓STP,STQ,seval,eq_true hl0,eq_true hl1,eq_true lj,eq_true l4,e1,e2,e3,e4,e5,Lr.cs,b4,d1,d3,t1,t2,Zbf,hmx,stw,wI,Nat.mul_one]
    ·have e1:(h'.set id' (.cells (Zau (half av bv bv.length)))).get o1=some (L1.rs.map refV):=by rw [Zei ne2.symm]; exact g1
     simp -dsimp -implicitDefEqProofs only [↓STP,STQ,seval,eq_true lj,e1,b4,Int.lt_irrefl,Nat.mul_one]
     have hfin:half av bv bv.length=List.zipWith max av bv:=by rw [← hab,half_all hab]
     rw [hfin]
     obtain ⟨A9,F9⟩:=A'.setWord (ws':=List.zipWith max av bv) hmg c1 (by rw [List.length_zipWith]; omega)
     have A9':Rt p L4 { σ2 with ifs:=σ.ifs,env:={ vars:=Zdn σ.env.vars σ1.env.vars σ2.env.vars,loops:=σ2.env.loops,words:=(mixW σ2.env.words σ1.env.words i).set i (List.zipWith max av bv) } } (h'.set id' (.cells (Zau (List.zipWith max av bv)))):=A9
     rw [hms] at A9'
     have w1:=wiM (show i < 9223372036854775807 by omega)
     simp -dsimp -implicitDefEqProofs only [↓STP,STQ,seval,w1]
     exact ⟨L1.rs.length - (i + 1),by omega,i + 1,h'.set id' (.cells (Zau (List.zipWith max av bv))),hil,rfl,A9',F'.trans F9,fun id hid hne=>by
      rw [Zaa,if_neg (show ¬ id=id' from fun q=>own4 id hid hne (by rw [q]; exact idm))]; exact kw id hid hne,rfl⟩
   ·have hie:i=σ2.env.words.length:=by omega
    have hii:i=L1.rs.length:=by omega
    rw [hie,mix_all hlen] at A'
    have hfin:=fin _ A' F'
    subst hii
    simp -dsimp -implicitDefEqProofs only [↓STP,STQ,seval,Int.lt_irrefl]
    exact hfin
end
end YtljoifdccjcidaaDoor
end Go.Ab
namespace Go.Ab
theorem stmtT_nz' {p:Prg} (x:Stm) (σ:TS):Nz (Zc4 p x σ):=by
 induction x using Stm.ind generalizing σ with
 | h k s e a b iha ihb =>
  have hs:∀ l:List Stm,(∀ x ∈ l,∀ σ,Nz (Zc4 p x σ))→∀ σ,Nz (Zaj p l σ):=by
   intro l
   induction l with
   | nil=>intro _ σ; rw [Zaj]; exact .ok
   | cons x xs ih=>intro h σ; rw [Zaj]; exact .and (h x (by simp) σ) fun τ=>ih (fun y hy=>h y (by simp [hy])) τ
  rw [Zc4]
  exact .and Zjb fun σ1=>.and (Zdy fun y _=>Zjl y) fun r=>stmt1_nz (hs a iha) (hs b ihb)
theorem findL_set {s t:ByteArray} {l:List (ByteArray × Kn)} {k:Kn}:Zaf t (l.filter (fun r=>decide (r.1 ≠ s)) ++ [(s,k)])=if t=s then some k else Zaf t l:=by
 have h:∀ m:List (ByteArray × Kn),Zaf t (m ++ [(s,k)])=match Zaf t m with | some v=>some v | none=>if s=t then some k else none:=by
  intro m
  induction m with
  | nil=>simp only [List.nil_append,Zaf]
  | cons a m ih =>
   obtain ⟨a,v⟩:=a
   simp only [List.cons_append,Zaf]
   by_cases c:a=t
   ·rw [if_pos c,if_pos c]
   ·rw [if_neg c,if_neg c]; exact ih
 rw [h,Zfu]
 by_cases c:t=s
 ·rw [if_pos c,if_pos c]; simp [c]
 ·rw [if_neg c,if_neg c]
  cases Zaf t l with
  | some v=>rfl
  | none=>simp only; rw [if_neg (fun e=>c e.symm)]
namespace YtljoifdccjcidaaDoor
section
variable {K:Out→H→Prop} {p:Prg}
def SqS (p:Prg) (x:Stm) (lv:Nat):Prop:=∀ (L:Lr) (σ:TS) (h:H) (K:Out→H→Prop),Rt p L σ h→TOk p σ→σ.ifs ≤ lv→EndR p L h K (Zc4 p x σ) →
 R 85 [.ptr L.x 0,x.v] h K
theorem stmtR {k:Int} {s:ByteArray} {e:List Exp} {a b:List Stm} {lv:Nat} (okp:POk p) (hp:PV p) (hla:p.arrays.length ≤ 1000) (hv:VS (.mk k s e a b) lv) (ok:SOk (.mk k s e a b)) (ha:SqSs p a (lv + 1)) (hb:SqSs p b (lv + 1)) (ga:Zbz p (Zaj p a)) (gb:Zbz p (Zaj p b)):SqS p (.mk k s e a b) lv:=by
 intro L σ h K A okσ hifs hK
 obtain ⟨v1,v2,v3,v4,v5,v6,v7,v8,v9,v10,v11⟩:=VS_mk.1 hv
 obtain ⟨_,_,_,_,_,oke,_,_⟩:=Zfc ok
 rw [Zc4] at hK
 refine run85 (Nat.le_of_ble_eq_true rfl) ?_
 simp -dsimp -implicitDefEqProofs only [↓STP,STQ,seval,ir85,Stm.v_mk]
 refine stepR A okσ.steps ?_
 cases hst:Zg7 σ with
 | error er =>
  have hne:=Zjb er hst
  rw [hst] at hK
  rw [Zbq]
  simp -dsimp -implicitDefEqProofs only [↓STP,STQ,seval,eq_false hne]
  exact hK hne _ _ (Fw.refl _ _)
 | ok σ1 =>
 rw [hst,Zat] at hK
 rw [Zda]
 obtain ⟨rfl,kp1⟩:=Zcz okσ hst
 intro h2 A2 F2
 simp -dsimp -implicitDefEqProofs only [↓STP,STQ,seval]
 refine allR_of hp (by rw [v4]; split <;> decide) (fun x hx=>exprR okp hp x _ (v9 x hx) (oke x hx)) v9 (fun x _ _=>Zjl x) A2 kp1.ok ?_
 cases hex:Za4 p ({ σ with steps:=σ.steps + 1 }:TS).env e with
 | error er =>
  rw [hex] at hK
  intro hne h3 F3
  simp -dsimp -implicitDefEqProofs only [↓STP,STQ,seval,eq_false hne]
  exact hK hne _ _ (F2.trans F3)
 | ok lm =>
 obtain ⟨l,m⟩:=lm
 rw [hex,Zat] at hK
 obtain ⟨hkl,hm,hll⟩:=Zb7 hp kp1.ok.env v9 l m hex
 intro h3 A3 F3
 have F23:=F2.trans F3
 have ok3:TOk p { ({ σ with steps:=σ.steps + 1 }:TS) with most:=max σ.most m }:=⟨okσ.env,kp1.ok.steps,by have:=okσ.most; show max σ.most m ≤ 60; omega⟩
 have hK:EndR p L h K (Zfe p k s l (Zaj p a) (Zaj p b) { ({ σ with steps:=σ.steps + 1 }:TS) with most:=max σ.most m }):=hK
 have hK:EndR p L h3 K (Zfe p k s l (Zaj p a) (Zaj p b) { ({ σ with steps:=σ.steps + 1 }:TS) with most:=max σ.most m }):=by
  cases hq:Zfe p k s l (Zaj p a) (Zaj p b) { ({ σ with steps:=σ.steps + 1 }:TS) with most:=max σ.most m } with
  | ok τ=>rw [hq] at hK; exact fun L' h' A' F'=>hK _ _ A' (F23.trans F')
  | error er=>rw [hq] at hK; exact fun hne L' h' F'=>hK hne _ _ (F23.trans F')
 have vl3:L.es.length ≤ σ.steps:=A.vl
 have e3:({ ({ σ with steps:=σ.steps + 1 }:TS) with most:=max ({ σ with steps:=σ.steps + 1 }:TS).most (l,m).2 }:TS)={ ({ σ with steps:=σ.steps + 1 }:TS) with most:=max σ.most m }:=rfl
 rw [e3] at A3
 have st3:σ.steps + 1=({ ({ σ with steps:=σ.steps + 1 }:TS) with most:=max σ.most m }:TS).steps:=rfl
 have if3:({ ({ σ with steps:=σ.steps + 1 }:TS) with most:=max σ.most m }:TS).ifs=σ.ifs:=rfl
 clear hst hex A2
 generalize ({ ({ σ with steps:=σ.steps + 1 }:TS) with most:=max σ.most m }:TS)=τ at *
 have okn:=fun i=>Zbl hkl i
 have gx:=Zai A3.x
 have kk:k=1∨k=2∨k=3∨k=4∨k=5:=by omega
 have h0:0 < l.length:=by rw [hll,v4]; split <;> decide
 have g0:=Zbj (l:=l) (i:=0) h0
 have hv0:V.agg [.vec (p.ins.map InD.v) .any,.vec (p.arrays.map ArD.v) .any,.vec (p.body.map Stm.v) .any]=p.v:=rfl
 have m2:p.arrays.length ≤ 9223372036854775807:=by omega
 unfold Zfe at hK
 rcases kk with rfl | rfl | rfl | rfl | rfl
 ·rw [if_pos rfl] at hK
  unfold setT at hK
  simp -dsimp -implicitDefEqProofs only [↓STP,STQ,seval]
  refine takenR okp A3 ok3.steps ?_
  cases ht:Zdc p τ.env s with
  | true =>
   rw [ht,if_pos rfl] at hK
   simp -dsimp -implicitDefEqProofs only [↓STP,STQ,seval]
   exact hK (by decide) _ _ (Fw.refl _ _)
  | false =>
   rw [ht,if_neg (by decide)] at hK
   have m4:L.es.length ≤ 1000000:=by have:=ok3.steps; omega
   have hfl:(L.es.filter fun r=>decide (r.1 ≠ s)).length ≤ L.es.length:=List.length_filter_le _ _
   simp -dsimp -implicitDefEqProofs only [↓STP,STQ,seval,gx,Lr.cs,g0,Kn.v_clen,Kn.v_mkEl]
   refine withoutR m4 ?_
   simp -dsimp -implicitDefEqProofs only [↓STP,STQ,seval,gx,Lr.cs,g0,Kn.v_clen,Kn.v_mkEl,eq_self]
   refine unknownR ?_
   simp -dsimp -implicitDefEqProofs only [↓STP,STQ,seval,Zab]
   rw [Zd0 (sz:=5) (by simp) Zjg rfl (by decide) (by decide) (by rw [List.length_map]; omega)]
   simp -dsimp -implicitDefEqProofs only [↓STP,STQ,seval,gx,Lr.cs,Zae,mkEl,V.cells]
   obtain ⟨A4,F4⟩:=A3.write (L':={ L with es:=(L.es.filter fun r=>decide (r.1 ≠ s)) ++ [(s,⟨(nthK l 0).kind,(nthK l 0).w,false,0⟩)],vc:=.any }) (σ':={ τ with env:={ τ.env with vars:=setV τ.env.vars s (some ((nthK l 0).kind,(nthK l 0).w)) } }) rfl rfl rfl rfl
    (fun t=>by
     show Zaf t (_ ++ _)=(setV τ.env.vars s (some ((nthK l 0).kind,(nthK l 0).w)) t).map _
     rw [findL_set,A3.es]; unfold setV
     by_cases c:t=s
     ·rw [if_pos c,if_pos c]; rfl
     ·rw [if_neg c,if_neg c]) (by simp only [List.length_append,List.length_cons,List.length_nil]; omega) A3.ll (.inl rfl) A3.cl A3.cw
   have hcs:Lr.cs p { L with es:=(L.es.filter fun r=>decide (r.1 ≠ s)) ++ [(s,⟨(nthK l 0).kind,(nthK l 0).w,false,0⟩)],vc:=.any } { τ with env:={ τ.env with vars:=setV τ.env.vars s (some ((nthK l 0).kind,(nthK l 0).w)) } } =
     [.vec (p.ins.map InD.v) .any,.vec (p.arrays.map ArD.v) .any,.vec (p.body.map Stm.v) .any,.vec ((L.es.filter fun r=>decide (r.1 ≠ s)).map nmV ++ [nmV (s,⟨(nthK l 0).kind,(nthK l 0).w,false,0⟩)]) .any,.vec ((lps τ.env).map nmV) L.lc,L.ov,I τ.steps,I τ.most,I τ.ifs]:=by
    unfold Lr.cs; rw [List.map_append]; rfl
   rw [hcs] at A4 F4
   exact hK _ _ A4 F4
 ·rw [if_neg (by decide),if_pos rfl] at hK
  have h1:1 < l.length:=by rw [hll,v4,if_pos (.inl rfl)]; decide
  have g1:=Zbj (l:=l) (i:=1) h1
  unfold Zhm at hK
  simp -dsimp -implicitDefEqProofs only [↓STP,STQ,seval,gx,Lr.cs]
  rw [hv0]
  refine arrayR m2 ?_
  have e2:=@ix_ars p s
  cases c2:arOf p s with
  | none =>
   rw [c2] at e2 hK
   simp only at e2 hK
   rw [e2]
   simp -dsimp -implicitDefEqProofs only [↓STP,STQ,seval]
   exact hK (by decide) _ _ (Fw.refl _ _)
  | some i =>
   rw [c2] at e2 hK
   simp only at e2 hK
   rw [e2]
   obtain ⟨d,hd,hn,hg⟩:=Zcq c2
   rw [hg] at hK
   have hds:=hp.ars d (List.mem_of_getElem? hd)
   have hdv:(p.arrays.map ArD.v)[i]?=some d.v:=by rw [List.getElem?_map,hd]; rfl
   have hwl:i < τ.env.words.length:=by
    rw [ok3.env.wlen]
    rcases Nat.lt_or_ge i p.arrays.length with h' | h'
    ·exact h'
    ·rw [List.getElem?_eq_none h'] at hd; cases hd
   have hws:=List.getElem?_eq_getElem hwl
   generalize τ.env.words[i]=ws at hws
   have hlen:=(ok3.env.words i ws d hws hd).1
   have hneg:¬ (i:Int) < 0:=by omega
   simp -dsimp -implicitDefEqProofs only [↓STP,STQ,seval,eq_false hneg,gx,Lr.cs,g0,Kn.v_clen,Kn.v_mkEl,hdv,Zdp]
   refine placeR (by omega) (by omega) (okn 0).lt ?_
   cases hpl:Zb6 (nthK l 0) d.size with
   | error er =>
    rw [hpl] at hK
    have hne:er ≠ 0:=Zhr er hpl
    rw [Zbq]
    simp -dsimp -implicitDefEqProofs only [↓STP,STQ,seval,eq_false hne]
    exact hK hne _ _ (Fw.refl _ _)
   | ok n =>
    rw [hpl,Zat] at hK
    rw [Zda]
    have hnl:n < ws.length:=by
     unfold Zb6 at hpl
     split at hpl
     ·cases hpl
     ·split at hpl
      ·cases hpl
      ·cases hpl; omega
    by_cases c:(nthK l 1).kind=1
    rotate_left
    ·rw [if_pos c] at hK
     simp -dsimp -implicitDefEqProofs only [↓STP,STQ,seval,g1,Kn.v_clen,Zab,eq_false c]
     exact hK (by decide) _ _ (Fw.refl _ _)
    rw [if_neg (by simp [c])] at hK
    obtain ⟨id,q1,q2⟩:=A3.ws i ws hws
    obtain ⟨o,id',d1,d2,d3,d4,d5⟩:=A3.outer hws
    have hidd:id'=id:=by
     rw [List.getElem?_map,q1] at d3
     have:=Option.some.inj d3
     simp only [refV,V.ref.injEq] at this
     exact this.1.symm
    subst hidd
    have hnI:((n:Nat):Int) < ((ws.length:Nat):Int):=by omega
    have l4:((i:Nat):Int) < ((L.rs.length:Nat):Int):=by omega
    have stw:=fun ρ m n' u=>Zbv (ρ:=ρ) (m:=m) (n:=n') (u:=u) (j:=n) (v:=I (((nthK l 1).w:Nat):Int)) d5 (by rw [Zby]; exact hnl) rfl rfl
    rw [Zgb] at stw
    simp -dsimp -implicitDefEqProofs only [↓STP,STQ,seval,g1,Kn.v_clen,Zab,eq_true c,gx,Lr.cs,d1,d2,d3,eq_true l4,eq_true hnI,Nat.mul_one,stw]
    obtain ⟨A4,F4⟩:=A3.setWord (ws':=ws.set n (nthK l 1).w) hws q1 (by rw [List.length_set])
    have hgw:τ.env.words.getD i []=ws:=by rw [List.getD_eq_getElem?_getD,hws]; rfl
    have A4':Rt p L { τ with env:={ τ.env with words:=setW τ.env.words i n (nthK l 1).w } } (h3.set id' (.cells (Zau (ws.set n (nthK l 1).w)))):=by
     unfold setW; rw [hgw]; exact A4
    exact hK _ _ A4' F4
 ·rw [if_neg (by decide),if_neg (by decide),if_pos rfl] at hK
  unfold ifT at hK
  simp -dsimp -implicitDefEqProofs only [↓STP,STQ,seval,g0,Kn.v_clen,Kn.v_mkEl]
  rw [← Stm.v_mk]
  refine branchR (e:=e) (k:=3) hp ha hb ga gb A3 ok3 (by omega) (by omega) hla ?_
  cases hq:(if (nthK l 0).kind ≠ 2 then (.error 5:TR TS) else andT (Zaj p a { τ with ifs:=τ.ifs + 1 }) fun σ1=>andT (Zaj p b { σ1 with env:=τ.env }) fun σ2 =>
   .ok { σ2 with ifs:=τ.ifs,env:={ τ.env with vars:=Zdn τ.env.vars σ1.env.vars σ2.env.vars,words:=maxW σ2.env.words σ1.env.words } }) with
  | ok τ' =>
   rw [hq] at hK
   intro L' h' A' F'
   simp -dsimp -implicitDefEqProofs only [↓STP,STQ,seval]
   exact hK _ _ A' F'
  | error er =>
   rw [hq] at hK
   intro hne L' h' F'
   simp -dsimp -implicitDefEqProofs only [↓STP,STQ,seval]
   exact hK hne _ _ F'
 ·rw [if_neg (by decide),if_neg (by decide),if_neg (by decide),if_pos rfl] at hK
  have h1:1 < l.length:=by rw [hll,v4,if_pos (.inr rfl)]; decide
  have g1:=Zbj (l:=l) (i:=1) h1
  simp -dsimp -implicitDefEqProofs only [↓STP,STQ,seval,g0,g1,Kn.v_clen,Kn.v_mkEl]
  rw [← Stm.v_mk]
  refine loopR (k:=4) (e:=e) (b:=b) okp hp (lv:=lv + 1) ha ga A3 ok3 (by omega) hkl ?_
  cases hq:forT p s l (Zaj p a) τ with
  | ok τ' =>
   rw [hq] at hK
   intro L' h' A' F'
   simp -dsimp -implicitDefEqProofs only [↓STP,STQ,seval]
   exact hK _ _ A' F'
  | error er =>
   rw [hq] at hK
   intro hne L' h' F'
   simp -dsimp -implicitDefEqProofs only [↓STP,STQ,seval]
   exact hK hne _ _ F'
 ·rw [if_neg (by decide),if_neg (by decide),if_neg (by decide),if_neg (by decide)] at hK
  by_cases c:0 < τ.ifs
  ·have c':(0:Int) < (τ.ifs:Int):=by omega
   rw [if_pos c] at hK
   simp -dsimp -implicitDefEqProofs only [↓STP,STQ,seval,gx,Lr.cs,eq_true c']
   exact hK (by decide) _ _ (Fw.refl _ _)
  ·have c':¬ (0:Int) < (τ.ifs:Int):=by omega
   rw [if_neg c] at hK
   simp -dsimp -implicitDefEqProofs only [↓STP,STQ,seval,gx,Lr.cs,eq_false c']
   exact hK _ _ A3 (Fw.refl _ _)
theorem Zj4 {l:List Stm} {lv:Nat} (hp:PV p) (hlen:l.length ≤ 9223372036854775807) (ih:∀ x ∈ l,SqS p x lv) (hv:VSs l lv):SqSs p l lv:=by
 intro L σ h K A ok hifs hK
 have good:∀ j,Zbz p (Zaj p (l.take j)):=fun j=>Zbm hp (VSs_all.2 fun x hx=>VSs_all.1 hv x (List.mem_of_mem_take hx))
 refine run74 (Nat.le_of_ble_eq_true rfl) ?_
 simp -dsimp -implicitDefEqProofs only [↓STP,STQ,seval,ir74,List.length_map]
 refine Zal (fun k s=>∃ j τ L' h',j ≤ l.length∧k=l.length - j∧Zaj p (l.take j) σ=.ok τ∧Rt p L' τ h'∧Fw L L' h h' ∧
  s=⟨upd (upd (upd ρ0 0 (.ptr L.x 0)) 1 (.vec (l.map Stm.v) .any)) 5 (I j),m0,0,[],h'⟩) (i:=l.length) ⟨0,σ,L,h,Nat.zero_le _,rfl,by rw [List.take_zero,Zaj],A,Fw.refl _ _,by simp -dsimp -implicitDefEqProofs only [↓STP,STQ,seval] <;> rfl⟩ ?_ mono
 rintro k s ⟨j,τ,L',h',hj,rfl,hr,A',F',rfl⟩
 have kp:=good j _ _ ok hr
 rcases Nat.lt_or_ge j l.length with hi | hi
 ·have hget:=Za6 (f:=Stm.v) hi
  have hx:=ih _ (List.getElem_mem hi)
  have w1:=wiM (show j < 9223372036854775807 by omega)
  have htk:=Zev hi hr
  have hnz:=@stmtT_nz' p l[j] τ
  generalize l[j]=x at *
  simp -dsimp -implicitDefEqProofs only [↓STP,STQ,seval,List.length_map,Int.ofNat_lt,hi,hget,storeSt,Stm.v_outs,Stm.v_clen,Stm.v_tk,Stm.v_ag,Stm.v_out,eq_self]
  rw [← F'.x]
  refine hx _ _ _ _ A' kp.ok (by rw [kp.ifs]; exact hifs) ?_
  cases hs1:Zc4 p x τ with
  | error er =>
   rw [hs1] at htk
   have hfa:=Zew htk
   rw [hfa] at hK
   intro hne L4 h4 F4
   simp -dsimp -implicitDefEqProofs only [↓STP,STQ,seval,eq_false hne]
   exact hK hne _ _ (F'.trans F4)
  | ok τ2 =>
   rw [hs1] at htk
   intro L4 h4 A4 F4
   simp -dsimp -implicitDefEqProofs only [↓STP,STQ,seval,w1]
   exact ⟨l.length - (j + 1),by omega,j + 1,τ2,L4,h4,hi,rfl,htk,A4,F'.trans F4,by rw [F'.x]⟩
 ·have hj':j=l.length:=by omega
  subst hj'
  rw [List.take_length] at hr
  rw [hr] at hK
  simp -dsimp -implicitDefEqProofs only [↓STP,STQ,seval,List.length_map,Int.lt_irrefl]
  exact hK _ _ A' F'
theorem stmtRR (okp:POk p) (hp:PV p) (hla:p.arrays.length ≤ 1000) (x:Stm):∀ lv,VS x lv→SOk x→SqS p x lv:=by
 induction x using Stm.ind with
 | h k s e a b iha ihb =>
  intro lv hv ok
  obtain ⟨v1,v2,v3,v4,v5,v6,v7,v8,v9,v10,v11⟩:=VS_mk.1 hv
  obtain ⟨_,_,_,la,lb,oke,oka,okb⟩:=Zfc ok
  have hm:=Zap
  exact stmtR okp hp hla hv ok (Zj4 hp (by omega) (fun x hx=>iha x hx _ (VSs_all.1 v10 x hx) (oka x hx)) v10) (Zj4 hp (by omega) (fun x hx=>ihb x hx _ (VSs_all.1 v11 x hx) (okb x hx)) v11) (Zbm hp v10) (Zbm hp v11)
theorem stmtsR (okp:POk p) (hp:PV p) (hla:p.arrays.length ≤ 1000) {l:List Stm} {lv:Nat} (hl:l.length ≤ maxLen) (hv:VSs l lv) (ok:∀ x ∈ l,SOk x):SqSs p l lv:=
 Zj4 hp (by have:=Zap; omega) (fun x hx=>stmtRR okp hp hla x _ (VSs_all.1 hv x hx) (ok x hx)) hv
end
end YtljoifdccjcidaaDoor
end Go.Ab
namespace Go.Ab
def strs (l:List ByteArray):List V:=l.map V.str
theorem Zlr {l:List ByteArray}:∀ e ∈ strs l,e.cells.length=1:=by
 intro e he
 obtain ⟨r,_,rfl⟩:=List.mem_map.1 he
 rfl
theorem strs_get {l:List ByteArray} {i:Nat} (h:i < l.length):(strs l)[i]?=some (.str l[i]):=by
 unfold strs; rw [List.getElem?_map,List.getElem?_eq_getElem h]; rfl
theorem Zja {l:List ByteArray}:(strs l).length=l.length:=by simp [strs]
theorem nodup_take {l:List ByteArray} {i:Nat} (hi:i < l.length) (h:(l.take i).Nodup) (hn:∀ a ∈ l.take i,a ≠ l[i]):(l.take (i + 1)).Nodup:=by
 rw [List.take_add_one,List.getElem?_eq_getElem hi,Option.toList_some,List.nodup_append]
 exact ⟨h,by simp,fun a ha b hb=>by rw [List.mem_singleton] at hb; subst hb; exact hn a ha⟩
namespace YtljoifdccjcidaaDoor
section
variable {K:Out→H→Prop} {p:Prg} {h:H}
theorem unlikeR (li:p.ins.length ≤ 1000) (la:p.arrays.length ≤ 1000) (hK:K (.ret (.bool (Zfg p))) h):R 73 [p.v] h K:=by
 refine run73 (Nat.le_of_ble_eq_true rfl) ?_
 have hv0:p.v=V.agg [.vec (p.ins.map InD.v) .any,.vec (p.arrays.map ArD.v) .any,.vec (p.body.map Stm.v) .any]:=rfl
 simp -dsimp -implicitDefEqProofs only [↓STP,STQ,seval,ir73,hv0]
 refine Zar (N:=p.ins.length) (fun j=>⟨upd (upd (upd ρ0 1 (.lptr 0 3 0)) 3 (.vec (strs ((p.ins.map InD.name).take j)) (.own 1))) 4 (I j),upd m0 0 (some [.vec (p.ins.map InD.v) .any,.vec (p.arrays.map ArD.v) .any,.vec (p.body.map Stm.v) .any]),2,[],h⟩) (fun j=>True) (by simp -dsimp -implicitDefEqProofs only [↓STP,STQ,seval] <;> rfl) trivial (fun j hj pj=>?_) (fun pj=>?_) mono
 ·have g:(p.ins.map InD.v)[j]?=some (InD.v p.ins[j]):=by rw [List.getElem?_map,List.getElem?_eq_getElem hj]; rfl
  have lj:(j:Int) < (p.ins.length:Int):=by omega
  have e:(p.ins.map InD.name).take (j + 1)=(p.ins.map InD.name).take j ++ [p.ins[j].name]:=by
   rw [List.take_add_one,List.getElem?_map,List.getElem?_eq_getElem hj]; rfl
  simp -dsimp -implicitDefEqProofs only [↓STP,STQ,seval,List.length_map,eq_true lj,g,Zam]
  rw [Zd0 (sz:=1) (by simp) Zlr rfl (by decide) (by decide) (by rw [Zja,List.length_take]; omega)]
  simp -dsimp -implicitDefEqProofs only [↓STP,STQ,seval,wi (show j < 9000000000000000000 by omega)]
  rw [e]; unfold strs; rw [List.map_append]; rfl
 simp -dsimp -implicitDefEqProofs only [↓STP,STQ,seval,List.length_map,Int.lt_irrefl]
 refine Zar (N:=p.arrays.length) (fun j=>⟨upd (upd (upd ρ0 1 (.lptr 0 3 0)) 3 (.vec (strs (p.ins.map InD.name ++ (p.arrays.map ArD.name).take j)) (.own 1))) 5 (I j),upd m0 0 (some [.vec (p.ins.map InD.v) .any,.vec (p.arrays.map ArD.v) .any,.vec (p.body.map Stm.v) .any]),2,[],h⟩) (fun j=>True)
  (by rw [List.take_zero,List.append_nil,List.take_of_length_le (by rw [List.length_map]; omega)]; simp -dsimp -implicitDefEqProofs only [↓STP,STQ,seval] <;> rfl) trivial (fun j hj pj=>?_) (fun pj=>?_) mono
 ·have g:(p.arrays.map ArD.v)[j]?=some (ArD.v p.arrays[j]):=by rw [List.getElem?_map,List.getElem?_eq_getElem hj]; rfl
  have lj:(j:Int) < (p.arrays.length:Int):=by omega
  have e:(p.arrays.map ArD.name).take (j + 1)=(p.arrays.map ArD.name).take j ++ [p.arrays[j].name]:=by
   rw [List.take_add_one,List.getElem?_map,List.getElem?_eq_getElem hj]; rfl
  simp -dsimp -implicitDefEqProofs only [↓STP,STQ,seval,List.length_map,eq_true lj,g,Zdp]
  rw [Zd0 (sz:=1) (by simp) Zlr rfl (by decide) (by decide) (by rw [Zja,List.length_append,List.length_take,List.length_map]; omega)]
  simp -dsimp -implicitDefEqProofs only [↓STP,STQ,seval,wi (show j < 9000000000000000000 by omega)]
  rw [e]; unfold strs; simp only [List.map_append,List.append_assoc]; rfl
 simp -dsimp -implicitDefEqProofs only [↓STP,STQ,seval,List.length_map,Int.lt_irrefl]
 have hall:p.ins.map InD.name ++ (p.arrays.map ArD.name).take p.arrays.length=p.ins.map InD.name ++ p.arrays.map ArD.name:=by
  rw [List.take_of_length_le (by rw [List.length_map]; omega)]
 rw [hall]
 have hll:(p.ins.map InD.name ++ p.arrays.map ArD.name).length ≤ 2000:=by rw [List.length_append,List.length_map,List.length_map]; omega
 unfold Zfg at hK
 generalize p.ins.map InD.name ++ p.arrays.map ArD.name=l at *
 refine Zar (N:=l.length) (fun i=>⟨upd (upd ρ0 3 (.vec (strs l) (.own 0))) 6 (I i),m0,1,[],h⟩) (fun i=>(l.take i).Nodup) (by simp -dsimp -implicitDefEqProofs only [↓STP,STQ,seval] <;> rfl) (by simp) (fun i hi pi=>?_) (fun pi=>?_) mono
 ·have li:(i:Int) < (l.length:Int):=by omega
  simp -dsimp -implicitDefEqProofs only [↓STP,STQ,seval,Zja,eq_true li]
  refine Zar (N:=i) (fun k=>⟨upd (upd (upd ρ0 3 (.vec (strs l) (.own 0))) 6 (I i)) 7 (I k),m0,1,[],h⟩) (fun k=>∀ a ∈ l.take k,a ≠ l[i]) (by simp -dsimp -implicitDefEqProofs only [↓STP,STQ,seval] <;> rfl) (by simp) (fun k hk pk=>?_) (fun pk=>?_) mono
  ·have lk:(k:Int) < (i:Int):=by omega
   have hkl:k < l.length:=by omega
   have g1:=strs_get hi
   have g2:=strs_get hkl
   by_cases c:l[i]=l[k]
   ·simp -dsimp -implicitDefEqProofs only [↓STP,STQ,seval,eq_true lk,g1,g2,binS,beqS,eq_true c]
    rw [decide_eq_false (fun hn=>by
     have:=(List.getElem_inj hn).1 c
     omega)] at hK
    exact hK
   ·simp -dsimp -implicitDefEqProofs only [↓STP,STQ,seval,eq_true lk,g1,g2,binS,beqS,eq_false c,wi (show k < 9000000000000000000 by omega)]
    exact Zhl pk (List.getElem?_eq_getElem hkl) (fun e=>c e.symm)
  ·simp -dsimp -implicitDefEqProofs only [↓STP,STQ,seval,Int.lt_irrefl,wi (show i < 9000000000000000000 by omega)]
   exact nodup_take hi pi pk
 ·simp -dsimp -implicitDefEqProofs only [↓STP,STQ,seval,Zja,Int.lt_irrefl]
  rw [List.take_length] at pi
  rw [decide_eq_true pi] at hK
  exact hK
end
end YtljoifdccjcidaaDoor
end Go.Ab
namespace Go.Ab
theorem new_set {h:H} {o o':O}:(h.new o).set h.next o'=h.new o':=by
 simp only [H.set,H.new]
 congr 1
 funext j
 simp only [upd]
 split <;> rfl
theorem app_n1 {st:S} {s s':Nat} {n:Int} {c:Cap} (hs:s' ∉ st.u):appV st s (.vec [] (.own s')) (.vec [I n] c) 1 8 false true=some (.ref st.h.next 0 1 1,st.withH (st.h.new (.cells [I n]))):=by
 simp [appV,lenV,flat,V.cells,hs,most]
theorem app_n2 {st:S} {s id k:Nat} {n:Int} {c:Cap} {cs:List V} (hg:st.h.get id=some cs) (hl:cs.length=k) (hk:k ≤ 4294967295):appV st s (.ref id 0 k 1) (.vec [I n] c) 1 8 false true=some (.ref st.h.next 0 (k + 1) 1,st.withH (st.h.move id (.cells (cs ++ [I n])))):=by
 have h1:k + 1 ≤ most:=by unfold most; omega
 simp [appV,lenV,flat,V.cells,hg,hl,h1]
theorem app_f1 {st:S} {s a b:Nat} {c:Cap}:appV st s (.vec [] .full) (.vec [.ref a 0 b 1] c) 1 24 false true=some (.ref st.h.next 0 1 1,st.withH (st.h.new (.cells [.ref a 0 b 1]))):=by
 simp [appV,lenV,flat,V.cells,most]
def addH (h:H) (o:Option Nat) (rs:List (Nat × Nat)):H:=match o with
 | some id=>h.move id (.cells (rs.map refV))
 | none=>h.new (.cells (rs.map refV))
theorem Rt.addWord {p:Prg} {L:Lr} {σ:TS} {h:H} (A:Rt p L σ h) {id:Nat} {ws:List Nat} (hid:id ∉ L.own) (hob:h.objs id=some (.cells (Zau ws))) (hlt:id < h.next) :
  Rt p { L with o:=some h.next,rs:=L.rs ++ [(id,ws.length)] } { σ with env:={ σ.env with words:=σ.env.words ++ [ws] } }
   ((addH h L.o (L.rs ++ [(id,ws.length)])).set L.x (.cells (Lr.cs p { L with o:=some h.next,rs:=L.rs ++ [(id,ws.length)] } { σ with env:={ σ.env with words:=σ.env.words ++ [ws] } }))):=by
 have xlt:=A.lt _ L.x_mem
 have idx:id ≠ L.x:=fun e=>hid (e ▸ L.x_mem)
 have hnx:(addH h L.o (L.rs ++ [(id,ws.length)])).next=h.next + 1:=by unfold addH; cases L.o <;> rfl
 have hobj:∀ j,j < h.next→L.o ≠ some j→(addH h L.o (L.rs ++ [(id,ws.length)])).objs j=h.objs j:=by
  intro j hj hne
  unfold addH
  cases ho:L.o with
  | none=>simp only; rw [Zac,if_neg (by omega)]
  | some o=>simp only; rw [Zb2,if_neg (by omega),if_neg (fun e=>hne (by rw [ho,e]))]
 have hnew:(addH h L.o (L.rs ++ [(id,ws.length)])).objs h.next=some (.cells ((L.rs ++ [(id,ws.length)]).map refV)):=by
  unfold addH
  cases L.o with
  | none=>simp only; rw [Zac,if_pos rfl]
  | some o=>simp only; rw [Zb2,if_pos rfl]
 refine ⟨by rw [Zaa,if_pos rfl],?_,A.es,by simp [A.len],fun i w hi=>?_,?_,fun j hj=>?_,A.vl,A.ll,A.cv,A.cl,A.cw⟩
 ·show (_:H).objs h.next=_
  rw [Zaa,if_neg (by omega)]; exact hnew
 ·have hi:(σ.env.words ++ [ws])[i]?=some w:=hi
  rcases Nat.lt_or_ge i σ.env.words.length with hl | hl
  ·rw [List.getElem?_append_left hl] at hi
   obtain ⟨id',a,b⟩:=A.ws i w hi
   have hm:=List.mem_of_getElem? a
   have hlt':=A.lt _ (L.r_mem hm)
   refine ⟨id',by show (L.rs ++ _)[i]?=_; rw [List.getElem?_append_left (by rw [A.len]; exact hl)]; exact a,?_⟩
   rw [Zaa,if_neg (A.xr hm),hobj id' hlt' (fun e=>A.or e hm rfl)]
   exact b
  ·rw [List.getElem?_append_right hl] at hi
   have h0:i - σ.env.words.length=0:=by
    rcases Nat.eq_zero_or_pos (i - σ.env.words.length) with h0 | h0
    ·exact h0
    ·rw [List.getElem?_eq_none (by simp; omega)] at hi; cases hi
   rw [h0] at hi
   cases hi
   refine ⟨id,by show (L.rs ++ _)[i]?=_; rw [List.getElem?_append_right (by rw [A.len]; exact hl),A.len,h0]; rfl,?_⟩
   rw [Zaa,if_neg idx,hobj id hlt (fun e=>hid (L.o_mem e))]
   exact hob
 ·have hd:=A.nd
  have hl:∀ j ∈ L.rs.map (·.1),j < h.next:=fun j hj=>by
   obtain ⟨r,hr,rfl⟩:=List.mem_map.1 hj
   exact A.lt _ (L.r_mem hr)
  have hn:id ∉ L.rs.map (·.1):=fun hj=>by
   obtain ⟨r,hr,rfl⟩:=List.mem_map.1 hj
   exact hid (L.r_mem hr)
  simp only [Lr.own,List.nodup_cons,List.mem_append,not_or,List.nodup_append] at hd
  show (L.x :: ((some h.next).toList ++ (L.rs ++ [(id,ws.length)]).map (·.1))).Nodup
  simp only [Option.toList_some,List.cons_append,List.nil_append,List.map_append,List.map_cons,List.map_nil,List.nodup_cons,List.mem_cons,List.mem_append,List.not_mem_nil,or_false,not_or,List.nodup_append]
  refine ⟨⟨by omega,hd.1.2,idx.symm⟩,⟨fun hj=>by have:=hl _ hj; omega,by omega⟩,hd.2.2.1,⟨by simp,List.nodup_nil⟩,fun a ha b hb=>?_⟩
  subst hb
  exact fun e=>hn (e ▸ ha)
 ·have hj:j ∈ L.x :: ((some h.next).toList ++ (L.rs ++ [(id,ws.length)]).map (·.1)):=hj
  rw [Zax,hnx]
  simp only [Option.toList_some,List.cons_append,List.nil_append,List.map_append,List.map_cons,List.map_nil,List.mem_cons,List.mem_append,List.not_mem_nil,or_false] at hj
  rcases hj with rfl | rfl | hj | rfl
  ·omega
  ·omega
  ·obtain ⟨r,hr,rfl⟩:=List.mem_map.1 hj
   have:=A.lt _ (L.r_mem hr); omega
  ·omega
end Go.Ab
namespace Go.Ab
def st0 (p:Prg) (m:Nat):List V:=[.vec (p.ins.map InD.v) .any,.vec (p.arrays.map ArD.v) .any,.vec (p.body.map Stm.v) .any,.vec [] .full,.vec [] .full,.vec [] .full,I 0,I m,I 0]
def Lj (x:Nat) (o:Option Nat) (rs:List (Nat × Nat)):Lr:=⟨x,[],.full,.full,o,.full,rs⟩
def σj (p:Prg) (j:Nat):TS:=⟨⟨fun _=>none,[],(p.arrays.take j).map fun d=>List.replicate d.size.toNat 1⟩,0,maxI p.ins,0⟩
theorem Rt_zero {p:Prg} {h:H}:Rt p (Lj h.next none []) (σj p 0) (h.new (.cells (st0 p (maxI p.ins)))):=by
 refine ⟨by rw [Zac]; exact if_pos rfl,rfl,fun s=>rfl,rfl,fun i ws hi=>(by cases hi),?_,fun id hid=>?_,Nat.le_refl _,Nat.le_refl _,.inr rfl,.inr rfl,.inr rfl⟩
 ·show ([h.next]:List Nat).Nodup
  simp
 ·have hid:id ∈ ([h.next]:List Nat):=hid
  rw [List.mem_singleton] at hid
  rw [hid,Zag]; omega
namespace YtljoifdccjcidaaDoor
section
variable {K:Out→H→Prop} {p:Prg} {h:H}
theorem throughR (v:VT p) (li:p.ins.length ≤ 1000) (la:p.arrays.length ≤ 1000)
  (hK:Ans (Zbk p) (fun σ=>∀ L' h',UpH h h'→Rt p L' σ h'→K (.ret (.tuple [.ptr L'.x 0,I 0])) h') (fun e=>e ≠ 0→∀ x h',UpH h h'→K (.ret (.tuple [.ptr x 0,I e])) h')):R 63 [p.v] h K:=by
 refine run63 (Nat.le_of_ble_eq_true rfl) ?_
 have hv0:p.v=V.agg [.vec (p.ins.map InD.v) .any,.vec (p.arrays.map ArD.v) .any,.vec (p.body.map Stm.v) .any]:=rfl
 unfold Zbk at hK
 simp -dsimp -implicitDefEqProofs only [↓STP,STQ,seval,ir63,hv0]
 rw [← hv0]
 refine unlikeR li la ?_
 cases hu:Zfg p with
 | false =>
  rw [hu,if_neg (by decide)] at hK
  simp -dsimp -implicitDefEqProofs only [↓STP,STQ,seval]
  exact hK (by decide) _ _ ⟨by rw [Zag]; omega,fun i hi=>by rw [Zac,if_neg (Nat.ne_of_lt hi)]⟩
 | true =>
 rw [hu,if_pos rfl] at hK
 simp -dsimp -implicitDefEqProofs only [↓STP,STQ,seval]
 refine Zar (N:=p.ins.length) (fun j=>⟨upd (upd (upd ρ0 1 (.lptr 0 3 0)) 4 (.ptr h.next 0)) 5 (I j),upd m0 0 (some [.vec (p.ins.map InD.v) .any,.vec (p.arrays.map ArD.v) .any,.vec (p.body.map Stm.v) .any]),1,[],h.new (.cells (st0 p (maxI (p.ins.take j))))⟩) (fun j=>True) (by simp -dsimp -implicitDefEqProofs only [↓STP,STQ,seval] <;> rfl) trivial (fun j hj pj=>?_) (fun pj=>?_) mono
 ·have g:(p.ins.map InD.v)[j]?=some (InD.v p.ins[j]):=by rw [List.getElem?_map,List.getElem?_eq_getElem hj]; rfl
  have lj:(j:Int) < (p.ins.length:Int):=by omega
  have hvi:=v.ins _ (List.getElem_mem hj)
  have e:maxI (p.ins.take (j + 1))=max (maxI (p.ins.take j)) p.ins[j].width.toNat:=by
   rw [List.take_add_one,List.getElem?_eq_getElem hj,Option.toList_some,Zhc]
  have gx:(h.new (.cells (st0 p (maxI (p.ins.take j))))).get h.next=some (st0 p (maxI (p.ins.take j))):=Zai (by rw [Zac,if_pos rfl])
  have w1':=hvi.w1
  have hmx:(if p.ins[j].width > ((maxI (p.ins.take j):Nat):Int) then p.ins[j].width else ((maxI (p.ins.take j):Nat):Int))=((max (maxI (p.ins.take j)) p.ins[j].width.toNat:Nat):Int):=by split <;> omega
  rw [e]
  simp -dsimp -implicitDefEqProofs only [↓STP,STQ,seval,List.length_map,eq_true lj,g,Zam,st0,get_new,Zbf,hmx,Zae,new_set,wi (show j < 9000000000000000000 by omega)]
  skip
 simp -dsimp -implicitDefEqProofs only [↓STP,STQ,seval,List.length_map,Int.lt_irrefl]
 rw [List.take_length]
 refine Zal (fun k s=>∃ j o rs h',j ≤ p.arrays.length∧k=p.arrays.length - j∧Rt p (Lj h.next o rs) (σj p j) h'∧(∀ i,i < h.next→h'.objs i=h.objs i)∧(∀ id ∈ (Lj h.next o rs).own,h.next ≤ id) ∧
  s=⟨upd (upd (upd ρ0 1 (.lptr 0 3 0)) 4 (.ptr h.next 0)) 6 (I j),upd m0 0 (some [.vec (p.ins.map InD.v) .any,.vec (p.arrays.map ArD.v) .any,.vec (p.body.map Stm.v) .any]),1,[],h'⟩) (i:=p.arrays.length) ⟨0,none,[],_,Nat.zero_le _,rfl,Rt_zero,fun i hi=>by rw [Zac,if_neg (Nat.ne_of_lt hi)],fun id hid=>by (have hid:id ∈ ([h.next]:List Nat):=hid; rw [List.mem_singleton] at hid; omega),by simp -dsimp -implicitDefEqProofs only [↓STP,STQ,seval] <;> rfl⟩ ?_ mono
 rintro k s ⟨j,o,rs,h',hj,rfl,A,hold,hown,rfl⟩
 have gx:=Zai A.x
 have hxx:(Lj h.next o rs).x=h.next:=rfl
 rw [hxx] at gx
 rcases Nat.lt_or_ge j p.arrays.length with hi | hi
 ·have g:(p.arrays.map ArD.v)[j]?=some (ArD.v p.arrays[j]):=by rw [List.getElem?_map,List.getElem?_eq_getElem hi]; rfl
  have lj:(j:Int) < (p.arrays.length:Int):=by omega
  have hvd:=v.ars _ (List.getElem_mem hi)
  have hsz:p.arrays[j].size=((p.arrays[j].size.toNat:Nat):Int):=by have:=hvd.s1; omega
  have hs1:=hvd.s1
  have hs2:=hvd.s2
  have hσ:σj p (j + 1)={ σj p j with env:={ (σj p j).env with words:=(σj p j).env.words ++ [List.replicate p.arrays[j].size.toNat 1] } }:=by
   unfold σj
   simp only
   rw [List.take_add_one,List.getElem?_eq_getElem hi,Option.toList_some,List.map_append]; rfl
  generalize p.arrays[j]=d at *
  generalize d.size.toNat=N at *
  simp -dsimp -implicitDefEqProofs only [↓STP,STQ,seval,List.length_map,eq_true lj]
  refine Zal (fun c s=>∃ k w n h'',k ≤ N∧c=N - k∧((k=0∧w=.vec [] (.own 1)∧n=2∧h''=h')∨(0 < k∧∃ id,w=.ref id 0 k 1∧n=1∧h''.objs id=some (.cells (Zau (List.replicate k 1)))∧h'.next ≤ id∧id < h''.next∧(∀ i,i < h'.next→h''.objs i=h'.objs i))) ∧
   s=⟨upd (upd (upd (upd (upd ρ0 1 (.lptr 0 3 0)) 4 (.ptr h.next 0)) 6 (I j)) 7 w) 8 (I k),upd m0 0 (some [.vec (p.ins.map InD.v) .any,.vec (p.arrays.map ArD.v) .any,.vec (p.body.map Stm.v) .any]),n,[],h''⟩) (i:=N) ⟨0,_,_,_,Nat.zero_le _,rfl,.inl ⟨rfl,rfl,rfl,rfl⟩,by simp -dsimp -implicitDefEqProofs only [↓STP,STQ,seval] <;> rfl⟩ ?_ mono
  rintro c s ⟨k,w,n,h'',hk,rfl,hw,rfl⟩
  rcases Nat.lt_or_ge k N with hkN | hkN
  ·have lk:(k:Int) < d.size:=by omega
   have w1:=wi (show k < 9000000000000000000 by omega)
   rcases hw with ⟨rfl,rfl,rfl,rfl⟩ | ⟨h0,id,rfl,rfl,q1,q2,q3,q4⟩
   ·have lk0:(0:Int) < d.size:=by omega
    simp -dsimp -implicitDefEqProofs only [↓STP,STQ,seval,List.length_map,eq_true lj,g,Zdp,eq_true lk0]
    rw [app_n1 (by simp)]
    simp -dsimp -implicitDefEqProofs only [↓STP,STQ,seval,w1]
    refine ⟨N - 1,by omega,1,.ref h''.next 0 1 1,1,h''.new (.cells [I 1]),by omega,rfl,.inr ⟨by decide,h''.next,rfl,rfl,by rw [Zac,if_pos rfl]; rfl,Nat.le_refl _,by rw [Zag]; omega,fun i hi=>by rw [Zac,if_neg (by omega)]⟩,rfl⟩
   ·simp -dsimp -implicitDefEqProofs only [↓STP,STQ,seval,List.length_map,eq_true lj,g,Zdp,eq_true lk]
    rw [app_n2 (Zai q1) (by rw [Zby,List.length_replicate]) (by omega)]
    simp -dsimp -implicitDefEqProofs only [↓STP,STQ,seval,w1]
    refine ⟨N - (k + 1),by omega,k + 1,.ref h''.next 0 (k + 1) 1,1,h''.move id (.cells (Zau (List.replicate k 1) ++ [I 1])),hkN,rfl,.inr ⟨by omega,h''.next,rfl,rfl,?_,by omega,by rw [Zif]; omega,fun i hi=>by rw [Zb2,if_neg (by omega),if_neg (by omega)]; exact q4 i hi⟩,rfl⟩
    rw [Zb2,if_pos rfl,List.replicate_succ']
    unfold Zau; rw [List.map_append]; rfl
  ·have hkN:k=N:=by omega
   subst hkN
   have lk:¬ (k:Int) < d.size:=by omega
   rcases hw with ⟨rfl,_⟩ | ⟨h0,id,rfl,rfl,q1,q2,q3,q4⟩
   ·omega
   have lto:∀ i ∈ (Lj h.next o rs).own,i < h'.next:=A.lt
   have hlt':h.next < h'.next:=lto h.next (Lr.x_mem _)
   have old2:∀ i,i < h.next→h''.objs i=h.objs i:=fun i hi=>(q4 i (by omega)).trans (hold i hi)
   have A1:Rt p (Lj h.next o rs) (σj p j) h'':=A.frame (by omega) fun i hi=>q4 i (lto i hi)
   have A2:=A1.addWord (id:=id) (ws:=List.replicate k 1) (fun hm=>by have:=lto id hm; omega) q1 q3
   rw [← hσ,List.length_replicate] at A2
   have w1:=wi (show j < 9000000000000000000 by omega)
   have gx1:=Zai A1.x
   rw [hxx] at gx1
   have xlt:=lto h.next (Lr.x_mem _)
   have hrl:rs.length=j:=by
    have h1:rs.length=(σj p j).env.words.length:=A.len
    rw [h1]; unfold σj
    simp only [List.length_map,List.length_take]; omega
   rcases o with _ | oid
   ·have hrs:rs=[]:=A1.o
    subst hrs
    have hov:(Lj h.next none []).ov=.vec [] .full:=rfl
    have gx2:=(get_new_ne (h:=h'') (o:=.cells [.ref id 0 k 1]) (show h.next ≠ h''.next by omega)).trans gx1
    simp -dsimp -implicitDefEqProofs only [↓STP,STQ,seval,List.length_map,eq_true lj,g,Zdp,eq_false lk,gx1,Lr.cs,hov]
    rw [app_f1]
    simp -dsimp -implicitDefEqProofs only [↓STP,STQ,seval,gx2,Lr.cs,hov,Zae,w1]
    exact ⟨p.arrays.length - (j + 1),by omega,j + 1,some h''.next,[(id,k)],_,hi,rfl,A2,fun i hi=>by rw [Zaa,if_neg (by have hx0:i ≠ h.next:=Nat.ne_of_lt hi; exact hx0)]; show (h''.new _).objs i=_; rw [Zac,if_neg (by omega)]; exact old2 i hi,fun i hi=>by (have hi:i ∈ h.next :: ((some h''.next).toList ++ ([(id,k)]).map (·.1)):=hi; simp only [Option.toList_some,List.cons_append,List.nil_append,List.map_append,List.map_cons,List.map_nil,List.mem_cons,List.mem_append,List.not_mem_nil,or_false] at hi; omega),rfl⟩
   ·have hov:(Lj h.next (some oid) rs).ov=.ref oid 0 rs.length 1:=rfl
    have hob:h''.objs oid=some (.cells (rs.map refV)):=A1.o
    have oidx:oid ≠ h.next:=A1.xo rfl
    have gx2:=(get_move_ne (h:=h'') (o:=.cells (rs.map refV ++ [.ref id 0 k 1])) (show h.next ≠ h''.next by omega) oidx.symm).trans gx1
    simp -dsimp -implicitDefEqProofs only [↓STP,STQ,seval,List.length_map,eq_true lj,g,Zdp,eq_false lk,gx1,Lr.cs,hov]
    rw [app_o2 (Zai hob) (by rw [List.length_map]) (by omega)]
    simp -dsimp -implicitDefEqProofs only [↓STP,STQ,seval,gx2,Lr.cs,hov,Zae,w1]
    have hlen:(rs ++ [(id,k)]).length=rs.length + 1:=by simp
    have hcs:Lr.cs p { Lj h.next (some oid) rs with o:=some h''.next,rs:=(Lj h.next (some oid) rs).rs ++ [(id,k)] } (σj p (j + 1))=[.vec (p.ins.map InD.v) .any,.vec (p.arrays.map ArD.v) .any,.vec (p.body.map Stm.v) .any,.vec [] .full,.vec [] .full,.ref h''.next 0 (rs.length + 1) 1,I (0:Nat),I (maxI p.ins),I (0:Nat)]:=by
     show [V.vec (p.ins.map InD.v) .any,.vec (p.arrays.map ArD.v) .any,.vec (p.body.map Stm.v) .any,.vec [] .full,.vec [] .full,.ref h''.next 0 (rs ++ [(id,k)]).length 1,I (0:Nat),I (maxI p.ins),I (0:Nat)]=_
     rw [hlen]
    have had:addH h'' (Lj h.next (some oid) rs).o ((Lj h.next (some oid) rs).rs ++ [(id,k)])=h''.move oid (.cells (rs.map refV ++ [.ref id 0 k 1])):=by
     show h''.move oid (.cells ((rs ++ [(id,k)]).map refV))=_
     rw [List.map_append]; rfl
    rw [hcs,had] at A2
    exact ⟨p.arrays.length - (j + 1),by omega,j + 1,some h''.next,rs ++ [(id,k)],_,hi,rfl,A2,fun i hi=>by rw [Zaa,if_neg (by have hx0:i ≠ h.next:=Nat.ne_of_lt hi; exact hx0)]; show (h''.move oid _).objs i=_; rw [Zb2,if_neg (by omega),if_neg (by have:=hown oid (Lr.o_mem rfl); omega)]; exact old2 i hi,fun i hi=>by (have hi:i ∈ h.next :: ((some h''.next).toList ++ (rs ++ [(id,k)]).map (·.1)):=hi; simp only [Option.toList_some,List.cons_append,List.nil_append,List.map_append,List.map_cons,List.map_nil,List.mem_cons,List.mem_append,List.not_mem_nil,or_false] at hi; rcases hi with e | e | e | e; omega; omega; exact hown i (by simp only [Lr.own,Lj,List.mem_cons,List.mem_append]; exact .inr (.inr e)); omega),rfl⟩
 ·have hje:j=p.arrays.length:=by omega
  subst hje
  have hi0:σj p p.arrays.length=Ze1 p:=by unfold σj Ze1; rw [List.take_length]
  rw [hi0] at A
  simp -dsimp -implicitDefEqProofs only [↓STP,STQ,seval,List.length_map,Int.lt_irrefl]
  refine stmtsR v.ok (PV_of v hu) la v.ok.lb v.body v.ok.body (Lj h.next o rs) (Ze1 p) h' _ A (Zjn v.ins v.ars) (by show 0 ≤ 1; omega) ?_
  cases hr:Zaj p p.body (Ze1 p) with
  | ok σ =>
   rw [hr] at hK
   intro L' h5 A5 F5
   simp -dsimp -implicitDefEqProofs only [↓STP,STQ,seval]
   have hx5:L'.x=h.next:=F5.x
   have up:UpH h h5:=⟨by have:=F5.nx; have:=A.lt h.next (Lr.x_mem _); omega,fun i hi=>by
    have hlt':h.next < h'.next:=A.lt h.next (Lr.x_mem _)
    rw [F5.same i (by omega) (fun hm=>by have:=hown i hm; omega)]; exact hold i hi⟩
   have:=hK L' h5 up A5
   rw [hx5] at this
   exact this
  | error er =>
   rw [hr] at hK
   intro hne L' h5 F5
   simp -dsimp -implicitDefEqProofs only [↓STP,STQ,seval]
   exact hK hne _ _ ⟨by have:=F5.nx; have:=A.lt h.next (Lr.x_mem _); omega,fun i hi=>by
    have hlt':h.next < h'.next:=A.lt h.next (Lr.x_mem _)
    rw [F5.same i (by omega) (fun hm=>by have:=hown i hm; omega)]; exact hold i hi⟩
end
end YtljoifdccjcidaaDoor
end Go.Ab
namespace Go.Ab
namespace YtljoifdccjcidaaDoor
section
variable {K:Out→H→Prop} {p:Prg} {h:H}
theorem checkR (v:VT p) (li:p.ins.length ≤ 1000) (la:p.arrays.length ≤ 1000) (hK:∀ h',UpH h h'→K (.ret (I (errT (Zbk p)))) h'):R 46 [p.v] h K:=by
 refine run46 (Nat.le_of_ble_eq_true rfl) ?_
 have hv0:p.v=V.agg [.vec (p.ins.map InD.v) .any,.vec (p.arrays.map ArD.v) .any,.vec (p.body.map Stm.v) .any]:=rfl
 simp -dsimp -implicitDefEqProofs only [↓STP,STQ,seval,ir46,hv0]
 rw [← hv0]
 refine throughR v li la ?_
 cases hr:Zbk p with
 | ok σ =>
  rw [hr] at hK
  intro L' h' up A'
  simp -dsimp -implicitDefEqProofs only [↓STP,STQ,seval]
  exact hK _ up
 | error e =>
  rw [hr] at hK
  intro hne x h' up
  simp -dsimp -implicitDefEqProofs only [↓STP,STQ,seval]
  exact hK _ up
end
end YtljoifdccjcidaaDoor
end Go.Ab
