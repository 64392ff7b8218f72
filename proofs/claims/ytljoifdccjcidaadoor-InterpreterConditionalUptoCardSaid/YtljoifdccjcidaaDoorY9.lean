/- Part of a proof: Small programs with two inputs; the chapter's examples. -/
import Derived.Test.YtljoifdccjcidaaDoorY8
import Derived.Test.YtljoifdccjcidaaDoorY7
import Derived.Lib.LaidTab
set_option linter.unusedVariables false
set_option linter.unusedSimpArgs false
namespace Go.Ab
def nA:ByteArray:=⟨#[97]⟩
def nB:ByteArray:=⟨#[98]⟩
def nC:ByteArray:=⟨#[99]⟩
theorem isA:isName nA:=⟨by decide,by decide,⟨97,[],rfl,by decide⟩,by decide,by simp [words26,nA]⟩
theorem isB:isName nB:=⟨by decide,by decide,⟨98,[],rfl,by decide⟩,by decide,by simp [words26,nB]⟩
theorem isC:isName nC:=⟨by decide,by decide,⟨99,[],rfl,by decide⟩,by decide,by simp [words26,nC]⟩
def dA (w:Int):InD:=⟨nA,1,w,0⟩
def dB (w:Int):InD:=⟨nB,2,w,0⟩
def twoP (w:Int) (l:List Stm):Prg:=⟨[dA w,dB w],[],l⟩
theorem VE_nm {s:ByteArray} {lv:Nat} (h:isName s) (hl:lv ≤ 24):VE (eName s) lv:=
 VE_mk.2 ⟨hl,rfl,fun _=>h,fun hn=>absurd (.inl rfl) hn,fun h=>absurd h (by decide),fun _=>rfl,by decide,fun _=>rfl,by simp⟩
theorem VE_op' {k:Int} {a b:Exp} {lv:Nat} (h1:1 ≤ k) (h7:k ≤ 7) (ha:VE a (lv + 1)) (hb:VE b (lv + 1)) (hl:lv ≤ 24):VE (eOp k a b) lv:=
 VE_mk.2 ⟨hl,rfl,fun h=>absurd h (by decide),fun _=>rfl,fun _=>⟨h1,h7⟩,fun h=>absurd rfl h,by decide,fun _=>rfl,fun x hx=>by
  rcases List.mem_cons.1 hx with rfl | hx
  ·exact ha
  ·rcases List.mem_cons.1 hx with rfl | hx
   ·exact hb
   ·cases hx⟩
theorem VE_sel' {c a b:Exp} {lv:Nat} (hc:VE c (lv + 1)) (ha:VE a (lv + 1)) (hb:VE b (lv + 1)) (hl:lv ≤ 24):VE (eSel c a b) lv:=
 VE_mk.2 ⟨hl,rfl,fun h=>absurd h (by decide),fun _=>rfl,fun h=>absurd h (by decide),fun _=>rfl,by decide,fun _=>rfl,fun x hx=>by
  rcases List.mem_cons.1 hx with rfl | hx
  ·exact hc
  ·rcases List.mem_cons.1 hx with rfl | hx
   ·exact ha
   ·rcases List.mem_cons.1 hx with rfl | hx
    ·exact hb
    ·cases hx⟩
theorem VSs_nil {lv:Nat}:VSs [] lv:=VSs_all.2 (by simp)
theorem VS_out' {e:Exp} {lv:Nat} (he:VE e (lv + 1)) (hl:lv ≤ 24):VS (sOut e) lv:=
 VS_mk.2 ⟨hl,by decide,by decide,rfl,fun h=>absurd rfl h.2,fun _=>rfl,fun _=>rfl,fun _ _=>rfl,by simpa using he,VSs_nil,VSs_nil⟩
theorem EOk_of {k o:Int} {n:Nat} {s:ByteArray} {ks:List Exp} (hk:I64 k) (ho:I64 o) (hn:n < 18446744073709551616) (hs:s.size ≤ maxLen) (hl:ks.length ≤ 3) (h:∀ x ∈ ks,EOk x):EOk (.mk k o n s ks):=.mk hk ho hn hs (by have:=maxLen_eq; omega) h
theorem i64 {k:Int} (h:0 ≤ k) (h':k ≤ 100):I64 k:=by unfold I64; omega
theorem noName_size:noName.size ≤ maxLen:=by rw [maxLen_eq]; decide
theorem EOk_nm {s:ByteArray} (h:s.size ≤ maxLen):EOk (eName s):=EOk_of (i64 (by decide) (by decide)) (i64 (by decide) (by decide)) (by decide) h (by decide) (by simp)
theorem EOk_nu {n:Nat} (h:n < 18446744073709551616):EOk (eNum n):=EOk_of (i64 (by decide) (by decide)) (i64 (by decide) (by decide)) h noName_size (by decide) (by simp)
theorem EOk_op {k:Int} {a b:Exp} (h0:0 ≤ k) (h7:k ≤ 7) (ha:EOk a) (hb:EOk b):EOk (eOp k a b):=EOk_of (i64 (by decide) (by decide)) (i64 h0 (by omega)) (by decide) noName_size (by simp) (by simp [ha,hb])
theorem EOk_sel {c a b:Exp} (hc:EOk c) (ha:EOk a) (hb:EOk b):EOk (eSel c a b):=EOk_of (i64 (by decide) (by decide)) (i64 (by decide) (by decide)) (by decide) noName_size (by simp) (by simp [hc,ha,hb])
theorem SOk_out {e:Exp} (he:EOk e):SOk (sOut e):=.mk (i64 (by decide) (by decide)) noName_size (by rw [maxLen_eq]; simp) (by rw [maxLen_eq]; decide) (by rw [maxLen_eq]; decide) (by simpa using he) (by simp) (by simp)
theorem SOk_set {y:ByteArray} {e:Exp} (hy:y.size ≤ maxLen) (he:EOk e):SOk (sSet y e):=.mk (i64 (by decide) (by decide)) hy (by rw [maxLen_eq]; simp) (by rw [maxLen_eq]; decide) (by rw [maxLen_eq]; decide) (by simpa using he) (by simp) (by simp)
theorem nA_size:nA.size ≤ maxLen:=by rw [maxLen_eq]; decide
theorem nB_size:nB.size ≤ maxLen:=by rw [maxLen_eq]; decide
theorem nC_size:nC.size ≤ maxLen:=by rw [maxLen_eq]; decide
theorem two_vt {w:Int} {l:List Stm} (w1:1 ≤ w) (w2:w ≤ 16) (hl:l.length ≤ 100) (hv:VSs l 1) (hs:∀ x ∈ l,SOk x):VT (twoP w l):=by
 have hm:=maxLen_eq
 refine ⟨⟨fun x hx=>?_,fun x hx=>(by cases hx),hs,by show 2 ≤ maxLen; omega,by show 0 ≤ maxLen; omega,by show l.length ≤ maxLen; omega⟩,hv,fun d hd=>?_,fun d hd=>(by cases hd)⟩
 ·rcases List.mem_cons.1 hx with rfl | hx
  ·exact ⟨i64 (show (0:Int) ≤ 1 by decide) (show (1:Int) ≤ 100 by decide),i64 (show 0 ≤ w by omega) (show w ≤ 100 by omega),i64 (show (0:Int) ≤ 0 by decide) (show (0:Int) ≤ 100 by decide),nA_size⟩
  ·rw [List.mem_singleton] at hx; subst hx
   exact ⟨i64 (show (0:Int) ≤ 2 by decide) (show (2:Int) ≤ 100 by decide),i64 (show 0 ≤ w by omega) (show w ≤ 100 by omega),i64 (show (0:Int) ≤ 0 by decide) (show (0:Int) ≤ 100 by decide),nB_size⟩
 ·rcases List.mem_cons.1 hd with rfl | hd
  ·exact ⟨isA,show (1:Int) ≤ 1 by decide,show (1:Int) ≤ 13 by decide,w1,w2,show (0:Int) ≤ 0 by decide,show (0:Int) ≤ 64 by decide⟩
  ·rw [List.mem_singleton] at hd; subst hd
   exact ⟨isB,show (1:Int) ≤ 2 by decide,show (2:Int) ≤ 13 by decide,w1,w2,show (0:Int) ≤ 0 by decide,show (0:Int) ≤ 64 by decide⟩
theorem two_fit {w:Int} {l:List Stm} {x y:Nat} (hx:x < 2 ^ w.toNat) (hy:y < 2 ^ w.toNat):fitB (twoP w l) [[x],[y]]=true∧insD (twoP w l).ins [[x],[y]] (atI0 [[x],[y]])=[(dA w,[x]),(dB w,[y])]:=by
 have ew1:wordsD [[x],[y]] [0,0] (dA w)=[x]:=rfl
 have ew2:wordsD [[x],[y]] [1,0] (dB w)=[y]:=rfl
 have o1:okD [[x],[y]] [0,0] (dA w):=⟨show 0 < 2 by decide,by show 0 + 1 ≤ 1; decide,fun v hv=>by rw [ew1,List.mem_singleton] at hv; subst hv; exact hx⟩
 have o2:okD [[x],[y]] [1,0] (dB w):=⟨show 1 < 2 by decide,by show 0 + 1 ≤ 1; decide,fun v hv=>by rw [ew2,List.mem_singleton] at hv; subst hv; exact hy⟩
 have n1:nextD [0,0] (dA w)=[1,0]:=rfl
 have n2:nextD [1,0] (dB w)=[1,1]:=rfl
 constructor
 ·show fitEnd [[x],[y]] (fitG [dA w,dB w] [[x],[y]] [0,0])=true
  rw [fitG,if_pos o1,n1,fitG,if_pos o2,n2,fitG]; rfl
 ·show insD [dA w,dB w] [[x],[y]] [0,0]=_
  rw [insD,insD,insD,n1,ew1,ew2]
theorem two_vars {w:Int} {l:List Stm} {x y:Nat} (hx:x < 2 ^ w.toNat) (hy:y < 2 ^ w.toNat):(startX (twoP w l) [[x],[y]]).vars nA=some x∧(startX (twoP w l) [[x],[y]]).vars nB=some y∧(startX (twoP w l) [[x],[y]]).told=[]:=by
 refine ⟨?_,?_,rfl⟩
 ·show findL nA (scalL (insD (twoP w l).ins [[x],[y]] (atI0 [[x],[y]])))=_
  rw [(two_fit hx hy).2]; rfl
 ·show findL nB (scalL (insD (twoP w l).ins [[x],[y]] (atI0 [[x],[y]])))=_
  rw [(two_fit hx hy).2]; rfl
theorem lok2 {x y:Nat} (hx:x < 65536) (hy:y < 65536):LsOk [[x],[y]]:=⟨by simp,fun l hl=>by
 rcases List.mem_cons.1 hl with rfl | hl
 ·exact ⟨by simp,fun v hv=>by rw [List.mem_singleton] at hv; omega⟩
 ·rw [List.mem_singleton] at hl; subst hl
  exact ⟨by simp,fun v hv=>by rw [List.mem_singleton] at hv; omega⟩⟩
theorem WordsAt.shape {h:H} {v:V} {ws:List Nat} (a:WordsAt h v ws):v=.vec (Ws ws) .any∨∃ id,v=.ref id 0 ws.length 1:=by
 rcases a with a | ⟨id,_,b,_⟩
 ·exact .inl a
 ·exact .inr ⟨id,b⟩
def exE:Exp:=eSel (eOp 4 (eName nA) (eName nB)) (eOp 2 (eName nB) (eName nA)) (eOp 2 (eName nA) (eName nB))
theorem ex_check1:errT (checkT (twoP 4 [sOut exE]))=0:=by kernel_rfl
theorem ex_check2:errT (checkT (twoP 4 [sOut (eName nC)]))=4:=by kernel_rfl
theorem ex_check3:errT (checkT (twoP 4 []))=0:=by kernel_rfl
end Go.Ab
namespace Go.Ab
theorem two_err {w:Int} {l:List Stm} {x y:Nat} (hc:errT (checkT (twoP w l))=0) (hx:x < 2 ^ w.toNat) (hy:y < 2 ^ w.toNat):errI (twoP w l) [[x],[y]]=0:=by
 obtain ⟨σ,h⟩:=errT_ok hc checkT_nz
 rw [errI_of_ok h,(two_fit hx hy).1,if_pos rfl]
theorem two_res {w:Int} {l:List Stm} {x y:Nat} (hc:errT (checkT (twoP w l))=0) (hx:x < 2 ^ w.toNat) (hy:y < 2 ^ w.toNat):resX (twoP w l) [[x],[y]]=(runsX (twoP w l) l (startX (twoP w l) [[x],[y]])).told:=by
 unfold resX
 rw [if_pos (two_err hc hx hy)]; rfl
theorem ex_vt1:VT (twoP 4 [sOut exE]):=by
 have a:VE (eName nA) 4:=VE_nm isA (by decide)
 have b:VE (eName nB) 4:=VE_nm isB (by decide)
 have oa:=EOk_nm nA_size
 have ob:=EOk_nm nB_size
 refine two_vt (by decide) (by decide) (by simp) (VSs_all.2 fun x hx=>?_) fun x hx=>?_
 ·rw [List.mem_singleton] at hx; subst hx
  exact VS_out' (VE_sel' (VE_op' (by decide) (by decide) a b (by decide)) (VE_op' (by decide) (by decide) b a (by decide)) (VE_op' (by decide) (by decide) a b (by decide)) (by decide)) (by decide)
 ·rw [List.mem_singleton] at hx; subst hx
  exact SOk_out (EOk_sel (EOk_op (by decide) (by decide) oa ob) (EOk_op (by decide) (by decide) ob oa) (EOk_op (by decide) (by decide) oa ob))
theorem ex_vt2:VT (twoP 4 [sOut (eName nC)]):=by
 refine two_vt (by decide) (by decide) (by simp) (VSs_all.2 fun x hx=>?_) fun x hx=>?_
 ·rw [List.mem_singleton] at hx; subst hx
  exact VS_out' (VE_nm isC (by decide)) (by decide)
 ·rw [List.mem_singleton] at hx; subst hx
  exact SOk_out (EOk_nm nC_size)
theorem ex_vt3:VT (twoP 4 []):=two_vt (by decide) (by decide) (by simp) VSs_nil (by simp)
theorem ex_res1:resX (twoP 4 [sOut exE]) [[3],[9]]=[6]:=by
 obtain ⟨v1,v2,v3⟩:=two_vars (w:=4) (l:=[sOut exE]) (x:=3) (y:=9) (by decide) (by decide)
 rw [two_res ex_check1 (by decide) (by decide)]
 generalize startX (twoP 4 [sOut exE]) [[3],[9]]=s at *
 rw [runsX,runsX,run_out,v3,exE,val_sel,val_op,val_op,val_op,val_name,val_name,v1,v2]; rfl
theorem ex_err2:errI (twoP 4 [sOut exE]) [[3],[16]]=1:=by
 obtain ⟨σ,h⟩:=errT_ok ex_check1 checkT_nz
 rw [errI_of_ok h]; decide
theorem ex_err3:errI (twoP 4 [sOut (eName nC)]) [[3],[9]]=4:=by
 unfold errI
 rw [ex_check2,if_pos (by decide)]
namespace YtljoifdccjcidaaDoor
section
variable {h:H} {K:Out→H→Prop}
theorem nameL {s:ByteArray} (hK:K (.ret (eName s).v) h):R 17 [.str s] h K:=by
 refine run17 (Nat.le_of_ble_eq_true rfl) ?_
 simp -dsimp -implicitDefEqProofs only [↓STP,STQ,seval,ir17,storeV]
 rw [eName,Exp.v_mk] at hK
 exact hK
theorem numL {n:Nat} (hK:K (.ret (eNum n).v) h):R 21 [W n] h K:=by
 refine run21 (Nat.le_of_ble_eq_true rfl) ?_
 simp -dsimp -implicitDefEqProofs only [↓STP,STQ,seval,ir21,storeV]
 rw [eNum,Exp.v_mk] at hK
 exact hK
theorem opL {k:Int} {a b:Exp} (hK:K (.ret (eOp k a b).v) h):R 18 [I k,a.v,b.v] h K:=by
 refine run18 (Nat.le_of_ble_eq_true rfl) ?_
 obtain ⟨k1,o1,n1,s1,ks1⟩:=a
 obtain ⟨k2,o2,n2,s2,ks2⟩:=b
 simp -dsimp -implicitDefEqProofs only [↓STP,STQ,seval,ir18,Exp.v_mk,storeV]
 rw [eOp,Exp.v_mk] at hK
 simp only [List.map_cons,List.map_nil,Exp.v_mk] at hK
 exact hK
theorem outputL {a:Exp} (hK:K (.ret (sOut a).v) h):R 20 [a.v] h K:=by
 refine run20 (Nat.le_of_ble_eq_true rfl) ?_
 obtain ⟨k1,o1,n1,s1,ks1⟩:=a
 simp -dsimp -implicitDefEqProofs only [↓STP,STQ,seval,ir20,Exp.v_mk,storeV]
 rw [sOut,Stm.v_mk] at hK
 simp only [List.map_cons,List.map_nil,Exp.v_mk] at hK
 exact hK
theorem twoL {w:Int} {l:List Stm} (hK:K (.ret (twoP w l).v) h):R 19 [I w,.vec (l.map Stm.v) .any] h K:=by
 refine run19 (Nat.le_of_ble_eq_true rfl) ?_
 simp -dsimp -implicitDefEqProofs only [↓STP,STQ,seval,ir19,storeV]
 exact hK
theorem opL' {k:Int} {a b:Exp} {va vb:V} (ha:va=a.v) (hb:vb=b.v) (hK:K (.ret (eOp k a b).v) h):R 18 [I k,va,vb] h K:=by subst ha hb; exact opL hK
theorem outputL' {a:Exp} {va:V} (ha:va=a.v) (hK:K (.ret (sOut a).v) h):R 20 [va] h K:=by subst ha; exact outputL hK
theorem twoL' {w:Int} {l:List Stm} {vs:V} (hl:vs=.vec (l.map Stm.v) .any) (hK:K (.ret (twoP w l).v) h):R 19 [I w,vs] h K:=by subst hl; exact twoL hK
theorem runI' {p:Prg} {ls:List (List Nat)} {vp vl:V} (hp:vp=p.v) (hl:vl=LV ls) (v:VT p) (ok:LsOk ls) (hK:∀ h' r,UpH h h'→WordsAt h' r (resX p ls)→K (.ret (.tuple [r,I (errI p ls)])) h'):R 13 [vp,vl] h K:=by subst hp hl; exact runI v ok hK
theorem checkI' {p:Prg} {ls:List (List Nat)} {vp vl:V} (hp:vp=p.v) (hl:vl=LV ls) (v:VT p) (ok:LsOk ls) (hK:∀ h',UpH h h'→K (.ret (I (errI p ls))) h'):R 16 [vp,vl] h K:=by subst hp hl; exact checkI v ok hK
theorem hname {s:ByteArray}:(eName s).v=V.agg [I 2,I 0,W 0,.str s,.vec [] .any]:=by rw [eName,Exp.v_mk]; rfl
theorem hop {k:Int} {a b:Exp}:(eOp k a b).v=V.agg [I 4,I k,W 0,.str noName,.vec [a.v,b.v] .any]:=by rw [eOp,Exp.v_mk]; rfl
theorem hsel {c a b:Exp}:(eSel c a b).v=V.agg [I 6,I 0,W 0,.str noName,.vec [c.v,a.v,b.v] .any]:=by rw [eSel,Exp.v_mk]; rfl
theorem hnot {a:Exp}:(eNot a).v=V.agg [I 5,I 0,W 0,.str noName,.vec [a.v] .any]:=by rw [eNot,Exp.v_mk]; rfl
theorem hout {a:Exp}:(sOut a).v=V.agg [I 5,.str noName,.vec [a.v] .any,.vec [] .any,.vec [] .any]:=by rw [sOut,Stm.v_mk]; rfl
theorem htwo {w:Int} {l:List Stm}:(twoP w l).v=V.agg [.vec [.agg [.str nA,I 1,I w,I 0],.agg [.str nB,I 2,I w,I 0]] .any,.vec [] .any,.vec (l.map Stm.v) .any]:=rfl
theorem awake30 (hK:∀ h',UpH h h'→K (.ret (.bool true)) h'):R 11 [] h K:=by
 refine run11 (Nat.le_of_ble_eq_true rfl) ?_
 have l1:LsOk [[3],[9]]:=lok2 (by decide) (by decide)
 have l2:LsOk [[3],[16]]:=lok2 (by decide) (by decide)
 have l3:LsOk [[15],[0]]:=lok2 (by decide) (by decide)
 simp -dsimp -implicitDefEqProofs only [↓STP,STQ,seval,ir11]
 refine nameL ?_
 simp -dsimp -implicitDefEqProofs only [↓STP,STQ,seval,hname]
 refine nameL ?_
 simp -dsimp -implicitDefEqProofs only [↓STP,STQ,seval,hname,storeV]
 refine opL' (a:=eName nA) (b:=eName nB) hname.symm hname.symm ?_
 simp -dsimp -implicitDefEqProofs only [↓STP,STQ,seval,hop]
 refine opL' (a:=eName nB) (b:=eName nA) hname.symm hname.symm ?_
 simp -dsimp -implicitDefEqProofs only [↓STP,STQ,seval,hop]
 refine opL' (a:=eName nA) (b:=eName nB) hname.symm hname.symm ?_
 simp -dsimp -implicitDefEqProofs only [↓STP,STQ,seval,hop,storeV]
 refine outputL' (a:=exE) (by rw [exE,hsel,hop,hop,hop]; rfl) ?_
 simp -dsimp -implicitDefEqProofs only [↓STP,STQ,seval,hout]
 refine twoL' (l:=[sOut exE]) (by rw [List.map_cons,List.map_nil,hout]) ?_
 simp -dsimp -implicitDefEqProofs only [↓STP,STQ,seval,htwo]
 refine runI' (p:=twoP 4 [sOut exE]) (ls:=[[3],[9]]) (by rw [htwo]; rfl) rfl ex_vt1 l1 fun h1 r1 u1 w1=>?_
 rw [ex_res1] at w1
 rw [two_err ex_check1 (by decide) (by decide)]
 rcases w1.shape with rfl | ⟨id1,rfl⟩
 all_goals
  simp -dsimp -implicitDefEqProofs only [↓STP,STQ,seval]
  refine outputL' (a:=exE) (by rw [exE,hsel,hop,hop,hop]; rfl) ?_
  simp -dsimp -implicitDefEqProofs only [↓STP,STQ,seval,hout]
  refine twoL' (l:=[sOut exE]) (by rw [List.map_cons,List.map_nil,hout]) ?_
  simp -dsimp -implicitDefEqProofs only [↓STP,STQ,seval,htwo]
  refine runI' (p:=twoP 4 [sOut exE]) (ls:=[[3],[16]]) (by rw [htwo]; rfl) rfl ex_vt1 l2 fun h2 r2 u2 w2=>?_
  rw [ex_err2]
  simp -dsimp -implicitDefEqProofs only [↓STP,STQ,seval]
  refine nameL ?_
  simp -dsimp -implicitDefEqProofs only [↓STP,STQ,seval,hname]
  refine outputL' (a:=eName nC) hname.symm ?_
  simp -dsimp -implicitDefEqProofs only [↓STP,STQ,seval,hout]
  refine twoL' (l:=[sOut (eName nC)]) (by rw [List.map_cons,List.map_nil,hout]) ?_
  simp -dsimp -implicitDefEqProofs only [↓STP,STQ,seval,htwo]
  refine runI' (p:=twoP 4 [sOut (eName nC)]) (ls:=[[3],[9]]) (by rw [htwo]; rfl) rfl ex_vt2 l1 fun h3 r3 u3 w3=>?_
  rw [ex_err3]
  simp -dsimp -implicitDefEqProofs only [↓STP,STQ,seval]
  refine same03W (a:=[6]) (b:=[6]) ((w1.frame u2.nx u2.old).frame u3.nx u3.old) (.inl rfl) (by decide) ?_
  rw [decide_eq_true rfl]
  simp -dsimp -implicitDefEqProofs only [↓STP,STQ,seval]
  refine twoL' (l:=[]) rfl ?_
  simp -dsimp -implicitDefEqProofs only [↓STP,STQ,seval,htwo]
  refine checkI' (p:=twoP 4 []) (ls:=[[15],[0]]) (by rw [htwo]; rfl) rfl ex_vt3 l3 fun h4 u4=>?_
  rw [two_err ex_check3 (by decide) (by decide)]
  simp -dsimp -implicitDefEqProofs only [↓STP,STQ,seval]
  exact hK h4 (((u1.trans u2).trans u3).trans u4)
end
end YtljoifdccjcidaaDoor
end Go.Ab
namespace Go.Ab
def capA (ys:List V) (s:Nat):Cap:=if ys.length=0 then .full else .own s
theorem app_fullA {st:S} {s sz bytes:Nat} {xs ys:List V} {ag:Bool} {c2:Cap} (hx:∀ e ∈ xs,e.cells.length=sz) (hy:∀ e ∈ ys,e.cells.length=sz∧mkEl ag e.cells=e) (hz:0 < sz) (hb:bytes ≤ 4096) (hl:xs.length + ys.length ≤ 4294967296) :
  appV st s (.vec xs .full) (.vec ys c2) sz bytes ag false=some (.vec (xs ++ ys) (capA ys s),st):=by
 rw [app_full hx hy hz hb hl]
 unfold capA
 by_cases c:ys.length=0
 ·have:ys=[]:=List.length_eq_zero_iff.1 c
  subst this
  rw [List.append_nil]; rfl
 ·rw [if_neg c,if_neg c]
def capB (zs ys:List V) (s0 s:Nat):Cap:=if ys.length=0 then capA zs s0 else .own s
def useB (zs ys:List V) (s0:Nat) (u:List Nat):List Nat:=if ys.length=0 then u else if zs.length=0 then u else s0 :: u
theorem app_capA {st:S} {s s0 sz bytes:Nat} {xs ys zs:List V} {ag:Bool} {c2:Cap} (hs:s0 ∉ st.u) (hx:∀ e ∈ xs,e.cells.length=sz) (hy:∀ e ∈ ys,e.cells.length=sz∧mkEl ag e.cells=e) (hz:0 < sz) (hb:bytes ≤ 4096) (hl:xs.length + ys.length ≤ 4294967296) :
  appV st s (.vec xs (capA zs s0)) (.vec ys c2) sz bytes ag false=some (.vec (xs ++ ys) (capB zs ys s0 s),{ st with u:=useB zs ys s0 st.u }):=by
 unfold capB useB capA
 by_cases d:zs.length=0
 ·rw [if_pos d,app_full hx hy hz hb hl]
  by_cases c:ys.length=0
  ·have:ys=[]:=List.length_eq_zero_iff.1 c
   subst this
   rw [List.append_nil]; rfl
  ·rw [if_neg c,if_neg c,if_neg c,if_pos d]
 ·rw [if_neg d,app_own hs hx hy hz hb hl]
  by_cases c:ys.length=0
  ·have:ys=[]:=List.length_eq_zero_iff.1 c
   subst this
   rw [List.append_nil]; rfl
  ·rw [if_neg c,if_neg c,if_neg c,if_neg d]
theorem mapS_cells' {l:List Stm}:∀ e ∈ l.map Stm.v,e.cells.length=5:=by
 intro e he
 obtain ⟨x,_,rfl⟩:=List.mem_map.1 he
 exact Stm.v_clen
theorem mapS_elems' {l:List Stm}:∀ e ∈ l.map Stm.v,e.cells.length=5∧mkEl true e.cells=e:=by
 intro e he
 obtain ⟨x,_,rfl⟩:=List.mem_map.1 he
 exact ⟨Stm.v_clen,Stm.v_ag⟩
theorem bulks_app:∀ {a b:List V},V.bulks (a ++ b)=V.bulks a + V.bulks b
 | [],b=>by rw [List.nil_append,V.bulks,Nat.zero_add]
 | x :: a,b=>by rw [List.cons_append,V.bulks,V.bulks,bulks_app]; omega
theorem stms_len':∀ {l:List Stm},l.length ≤ V.bulks (l.map Stm.v)
 | []=>Nat.zero_le _
 | x :: l=>by
  rw [List.length_cons,List.map_cons,V.bulks]
  have:=stms_len' (l:=l)
  obtain ⟨k,s,e,a,b⟩:=x
  have h6:1 ≤ (Stm.mk k s e a b).v.bulk:=by rw [stm_bulk]; omega
  omega
def Prg.app (p:Prg) (l:List Stm):Prg:=⟨p.ins,p.arrays,p.body ++ l⟩
theorem app_ok {p:Prg} (ok:POk p) (hb:p.v.bulk ≤ 1048576) {l:List Stm} (hl:∀ x ∈ l,SOk x) (hbl:V.bulks (l.map Stm.v) ≤ 5000000):POk (p.app l)∧(p.app l).v.bulk ≤ 20000000:=by
 have hm:=maxLen_eq
 rw [prg_bulk] at hb
 have h1:=stms_len' (l:=p.body)
 have h2:=stms_len' (l:=l)
 refine ⟨⟨ok.ins,ok.arrays,fun x hx=>?_,ok.li,ok.la,by show (p.body ++ l).length ≤ maxLen; rw [List.length_append]; omega⟩,?_⟩
 ·rcases List.mem_append.1 hx with hx | hx
  ·exact ok.body x hx
  ·exact hl x hx
 ·rw [prg_bulk]
  show 4 + V.bulks (p.ins.map InD.v) + V.bulks (p.arrays.map ArD.v) + V.bulks ((p.body ++ l).map Stm.v) ≤ 20000000
  rw [List.map_append,bulks_app]; omega
theorem okE {p:Prg} {ls:List (List Nat)} (h:errI p ls=0):∃ σ,checkT p=.ok σ∧fitB p ls=true:=by
 cases c:checkT p with
 | error e =>
  have hne:=checkT_nz e c
  rw [errI_of_error c hne] at h
  exact absurd h hne
 | ok σ =>
  rw [errI_of_ok c] at h
  refine ⟨σ,rfl,?_⟩
  cases q:fitB p ls with
  | true=>rfl
  | false=>rw [q] at h; exact absurd h (by decide)
theorem res_facts {p:Prg} (v:VT p) {ls:List (List Nat)}:(resX p ls).length ≤ 20000∧∀ x ∈ resX p ls,x < 2 ^ max (mostT (checkT p)) 1:=by
 unfold resX
 split
 ·rename_i h
  obtain ⟨σ,hσ,hf⟩:=okE h
  obtain ⟨hu,hs⟩:=check_inv hσ
  have hp:=PV_of v hu
  have T:=TOk_init v.ins v.ars
  have a:=stmts_run hp v.body (initT p) σ (startX p ls) T (ag_start hp hf) hs
  have k:=stmtsT_ok hp v.body (initT p) σ T hs
  have h1:=a.few
  have h2:=k.ok.steps
  refine ⟨?_,?_⟩
  ·show (runsX p p.body (startX p ls)).told.length ≤ 20000
   omega
  ·rw [hσ]; exact a.told
 ·exact ⟨Nat.zero_le _,fun x hx=>by cases hx⟩
theorem most_le {p:Prg} (v:VT p):mostT (checkT p) ≤ 60:=by
 cases c:checkT p with
 | error e=>exact Nat.zero_le _
 | ok σ =>
  obtain ⟨hu,hs⟩:=check_inv c
  exact (stmtsT_ok (PV_of v hu) v.body (initT p) σ (TOk_init v.ins v.ars) hs).ok.most
theorem app_src {st:S} {h:H} (hh:st.h=h) {s:Nat} {x v:V} {l:List Nat} (w:WordsAt h v l):appV st s x v 1 8 false false=appV st s x (.vec (Ws l) .any) 1 8 false false:=by
 subst hh
 rcases w with rfl | ⟨id,_,rfl,hg⟩
 ·rfl
 ·have e1:flat st.h (.ref id 0 l.length 1)=some (Ws l):=by
   simp only [flat,hg,List.drop_zero,Nat.mul_one]
   rw [List.take_of_length_le (by rw [Ws_length]; exact Nat.le_refl _)]
  have e2:flat st.h (.vec (Ws l) .any)=some (Ws l):=by simp only [flat,Ws_flat]
  have e3:lenV (.ref id 0 l.length 1)=some l.length:=rfl
  have e4:lenV (.vec (Ws l) .any)=some l.length:=by simp only [lenV,Ws_length]
  simp only [appV,e1,e2,e3,e4]
theorem Ws_elems {l:List Nat}:∀ e ∈ Ws l,e.cells.length=1∧mkEl false e.cells=e:=by
 intro e he
 obtain ⟨x,_,rfl⟩:=List.mem_map.1 he
 exact ⟨rfl,rfl⟩
def nBe:ByteArray:=⟨#[98,101,104,105,110,100]⟩
theorem nBe_size:nBe.size ≤ maxLen:=by rw [maxLen_eq]; decide
def beL (n:Nat):List Stm:=[sSet nBe (eNum n),sOut (eName nBe)]
theorem be_ok {n:Nat} (hn:n < 18446744073709551616):∀ x ∈ beL n,SOk x:=fun x hx=>by
 simp only [beL,List.mem_cons,List.not_mem_nil,or_false] at hx
 rcases hx with rfl | rfl
 ·exact SOk_set nBe_size (EOk_nu hn)
 ·exact SOk_out (EOk_nm nBe_size)
theorem be_bulk {n:Nat}:V.bulks ((beL n).map Stm.v) ≤ 5000000:=by
 simp only [beL,sSet,sOut,eNum,eName,List.map_cons,List.map_nil,V.bulks,stm_bulk,exp_bulk]
 decide
namespace YtljoifdccjcidaaDoor
section
variable {h:H} {K:Out→H→Prop}
theorem hnum' {n:Nat}:(eNum n).v=V.agg [I 1,I 0,W n,.str noName,.vec [] .any]:=by rw [eNum,Exp.v_mk]; rfl
theorem hset' {y:ByteArray} {a:Exp}:(sSet y a).v=V.agg [I 1,.str y,.vec [a.v] .any,.vec [] .any,.vec [] .any]:=by rw [sSet,Stm.v_mk]; rfl
theorem few30' {p:Prg} {ls:List (List Nat)} {vp vl:V} (hp:vp=p.v) (hls:vl=LV ls) (ok:POk p) (hb:p.v.bulk ≤ 20000000) (hl:ls.length ≤ maxLen) (hw:WordsOk ls) {n:Int} (hK:∀ b:Bool,(b=true→VP p∧ls.length ≤ 20∧∀ l ∈ ls,l.length ≤ 200)→K (.ret (.bool b)) h):R 12 [vp,vl,I n] h K:=by subst hp hls; exact few30 ok hb hl hw hK
theorem append30 {p:Prg} {ls:List (List Nat)} {n:Nat} (ok:POk p) (hb:p.v.bulk ≤ 1048576) (hl:ls.length ≤ maxLen) (hw:WordsOk ls) (hn:n < 18446744073709551616) (hK:∀ h',K (.ret (.bool true)) h'):R 5 [p.v,LV ls,W n] h K:=by
 refine run5 (Nat.le_of_ble_eq_true rfl) ?_
 have hv0:p.v=V.agg [.vec (p.ins.map InD.v) .any,.vec (p.arrays.map ArD.v) .any,.vec (p.body.map Stm.v) .any]:=rfl
 have hL:LV ls=.vec (ls.map fun l=>.vec (Ws l) .any) .any:=rfl
 simp -dsimp -implicitDefEqProofs only [↓STP,STQ,seval,ir5,hv0,hL]
 refine awake30 fun h1 u1=>?_
 simp -dsimp -implicitDefEqProofs only [↓STP,STQ,seval]
 rw [← hv0,← hL]
 refine few30 ok (by omega) hl hw fun b hvl=>?_
 cases b with
 | false =>
  simp -dsimp -implicitDefEqProofs only [↓STP,STQ,seval]
  exact hK _
 | true =>
 obtain ⟨vp,l20,l200⟩:=hvl rfl
 have v:=vp.vt ok
 have lok:LsOk ls:=⟨by omega,fun l hl=>⟨by have:=l200 l hl; omega,hw l hl⟩⟩
 have hsh:Int.fdiv (n:Int) (2 ^ min 4 IntKind.u64.bits)=((n / 16:Nat):Int):=fdiv_pow (m:=4)
 have hn2:n / 16 < 1152921504606846976:=by omega
 have lb:=stms_len' (l:=p.body)
 have lb2:p.body.length ≤ 1048576:=by rw [prg_bulk] at hb; omega
 simp -dsimp -implicitDefEqProofs only [↓STP,STQ,seval,hv0,hL,storeV,hsh]
 rw [app_fullA (sz:=5) (by simp) mapS_elems' (by decide) (by decide) (by rw [List.length_nil,List.length_map]; omega)]
 simp -dsimp -implicitDefEqProofs only [↓STP,STQ,seval,hv0,hL,List.nil_append]
 refine numL ?_
 simp -dsimp -implicitDefEqProofs only [↓STP,STQ,seval,hnum']
 refine nameL ?_
 simp -dsimp -implicitDefEqProofs only [↓STP,STQ,seval,hname]
 refine outputL' (a:=eName nBe) hname.symm ?_
 simp -dsimp -implicitDefEqProofs only [↓STP,STQ,seval,hout]
 rw [app_capA (sz:=5) (by simp) mapS_cells' (by intro e he; simp only [List.mem_cons,List.not_mem_nil,or_false] at he; rcases he with rfl | rfl <;> exact ⟨rfl,rfl⟩) (by decide) (by decide) (by rw [List.length_map]; show p.body.length + 2 ≤ 4294967296; omega)]
 obtain ⟨okq,hbq⟩:=app_ok ok hb (be_ok (n:=n / 16) (by omega)) be_bulk
 have hq0:(p.app (beL (n / 16))).v=V.agg [.vec (p.ins.map InD.v) .any,.vec (p.arrays.map ArD.v) .any,.vec (p.body.map Stm.v ++ [V.agg [.int .i64 1,.str nBe,.vec [V.agg [I 1,I 0,W (n / 16),.str noName,.vec [] .any]] .any,.vec [] .any,.vec [] .any],V.agg [I 5,.str noName,.vec [(eName nBe).v] .any,.vec [] .any,.vec [] .any]]) .any]:=by
  simp only [Prg.v,Prg.cells,Prg.app,beL,List.map_append,List.map_cons,List.map_nil,hout,hset',hnum']
 simp -dsimp -implicitDefEqProofs only [↓STP,STQ,seval,hv0,hL,storeV]
 refine few30' (p:=p.app (beL (n / 16))) (ls:=ls) hq0.symm rfl okq hbq hl hw fun b hvq=>?_
 cases b with
 | false =>
  simp -dsimp -implicitDefEqProofs only [↓STP,STQ,seval]
  exact hK _
 | true =>
 have vq:=(hvq rfl).1.vt okq
 simp -dsimp -implicitDefEqProofs only [↓STP,STQ,seval]
 refine runI' (p:=p) (ls:=ls) rfl rfl v lok fun h2 r1 u2 w1=>?_
 have ca:=append_err v (y:=nBe) (n:=n / 16) (q:=p.app (beL (n / 16))) hn2 rfl rfl rfl ls
 rcases w1.shape with rfl | ⟨id1,rfl⟩
 all_goals
  simp -dsimp -implicitDefEqProofs only [↓STP,STQ,seval]
  refine runI' (p:=p.app (beL (n / 16))) (ls:=ls) hq0.symm rfl vq lok fun h3 r2 u3 w2=>?_
  rcases w2.shape with rfl | ⟨id2,rfl⟩
  all_goals
   rcases ca with c4 | c2 | ⟨c1,c2⟩ | ⟨c1,c2,c3⟩
   ·rw [c4]
    simp -dsimp -implicitDefEqProofs only [↓STP,STQ,seval]
    exact hK _
   ·rw [c2]
    simp -dsimp -implicitDefEqProofs only [↓STP,STQ,seval]
    exact hK _
   ·rw [c2]
    by_cases d4:errI p ls=4
    ·rw [d4]
     simp -dsimp -implicitDefEqProofs only [↓STP,STQ,seval]
     exact hK _
    by_cases d2:errI p ls=2
    ·rw [d2]
     simp -dsimp -implicitDefEqProofs only [↓STP,STQ,seval]
     exact hK _
    simp -dsimp -implicitDefEqProofs only [↓STP,STQ,seval,eq_false d4,eq_false d2,eq_false c1]
    exact hK _
   ·rw [c1,c2]
    have w3:=w1.frame u3.nx u3.old
    simp -dsimp -implicitDefEqProofs only [↓STP,STQ,seval]
    rw [app_src (h:=h3) rfl w3,app_fullA (sz:=1) (by simp) Ws_elems (by decide) (by decide) (by rw [List.length_nil,Ws_length]; have:=(res_facts v (ls:=ls)).1; omega)]
    simp -dsimp -implicitDefEqProofs only [↓STP,STQ,seval,List.nil_append]
    rw [app_capA (sz:=1) (by unfold useB; split <;> (try split) <;> simp) Ws_cells (by intro e he; rw [List.mem_singleton] at he; subst he; exact ⟨rfl,rfl⟩) (by decide) (by decide) (by rw [Ws_length]; show (resX p ls).length + 1 ≤ 4294967296; have:=(res_facts v (ls:=ls)).1; omega)]
    simp -dsimp -implicitDefEqProofs only [↓STP,STQ,seval]
    refine same03W (b:=resX p ls ++ [n / 16]) w2 (.inl (by unfold Ws; rw [List.map_append]; rfl)) ((res_facts vq).1) ?_
    rw [decide_eq_true c3]
    simp -dsimp -implicitDefEqProofs only [↓STP,STQ,seval]
    exact hK _
end
end YtljoifdccjcidaaDoor
end Go.Ab
namespace Go.Ab
theorem runsX_one' {p:Prg} {x:Stm} {s:RS}:runsX p [x] s=runX p x s:=by rw [runsX,runsX]
def lqC (y:ByteArray) (c a b:Exp):List Stm:=[sSet y (eNum 0),sIf c [sSet y a] [sSet y b],sOut (eName y)]
def lrC (y:ByteArray) (c a b:Exp):List Stm:=[sSet y (eNum 0),sSet y (eNum 0),sSet y (eNum 0),sSet y (eSel c a b),sOut (eName y)]
theorem setV_twice {f:ByteArray→Option (Int × Nat)} {y:ByteArray} {u v:Option (Int × Nat)}:setV (setV f y u) y v=setV f y v:=by
 funext t; unfold setV; split <;> rfl
theorem setM_twice {f:ByteArray→Option Nat} {y:ByteArray} {u v:Option Nat}:setM (setM f y u) y v=setM f y v:=by
 funext t; unfold setM; split <;> rfl
def envC (σ:TS) (y:ByteArray):TE:={ σ.env with vars:=setV σ.env.vars y (some (1,wid 0)) }
structure CondOk (p:Prg) (σ:TS) (y:ByteArray) (c a b:Exp):Prop where
 steps:σ.steps + 5 ≤ 10000
 free:¬ takenT p σ.env y=true
 ex:∃ rc mc ra ma rb mb,exprT p (envC σ y) c=.ok (rc,mc)∧rc.kind=2∧exprT p (envC σ y) a=.ok (ra,ma)∧exprT p (envC σ y) b=.ok (rb,mb)∧rb.kind=ra.kind
theorem stmts_cons {p:Prg} {x:Stm} {l:List Stm} {σ τ:TS} (h:stmtsT p (x :: l) σ=.ok τ):∃ ρ,stmtT p x σ=.ok ρ∧stmtsT p l ρ=.ok τ:=by
 rw [stmtsT] at h; exact andT_inv h
theorem num0 {p:Prg} {σ:TE} {e:Kn × Nat} (h:exprT p σ (eNum 0)=.ok e):e.1=kcon 0:=by rw [exprT_num (by decide)] at h; cases h; rfl
theorem sel_inv {p:Prg} {σ:TE} {c a b:Exp} {r:Kn} {m:Nat} (h:exprT p σ (eSel c a b)=.ok (r,m)):∃ rc mc ra ma rb mb,exprT p σ c=.ok (rc,mc)∧rc.kind=2∧exprT p σ a=.ok (ra,ma)∧exprT p σ b=.ok (rb,mb)∧rb.kind=ra.kind:=by
 unfold eSel at h
 obtain ⟨l,ml,h1,h2⟩:∃ l ml,exprsT p σ [c,a,b]=.ok (l,ml)∧madeT p σ 6 0 0 noName l=.ok r:=by
  rw [exprT] at h
  obtain ⟨⟨l,ml⟩,h1,h⟩:=andT_inv h
  obtain ⟨q,h2,h⟩:=andT_inv h
  have hq:r=q:=(toldT_ok h).1
  subst hq
  exact ⟨l,ml,h1,h2⟩
 rw [exprsT] at h1
 obtain ⟨⟨rc,mc⟩,g1,h1⟩:=andT_inv h1
 rw [exprsT] at h1
 obtain ⟨⟨l1,m1⟩,g2,h1⟩:=andT_inv h1
 obtain ⟨⟨ra,ma⟩,g3,g2⟩:=andT_inv g2
 rw [exprsT] at g2
 obtain ⟨⟨l2,m2⟩,g4,g2⟩:=andT_inv g2
 obtain ⟨⟨rb,mb⟩,g5,g4⟩:=andT_inv g4
 rw [exprsT] at g4
 cases g4; cases g2; cases h1
 unfold madeT at h2
 rw [if_neg (by decide),if_neg (by decide),if_neg (by decide),if_neg (by decide),if_neg (by decide)] at h2
 split at h2
 ·cases h2
 ·rename_i hk
  exact ⟨rc,mc,ra,ma,rb,mb,g1,Decidable.byContradiction fun q=>hk (.inl q),g3,g5,Decidable.byContradiction fun q=>hk (.inr q)⟩
theorem sel_ok {p:Prg} {σ:TE} {c a b:Exp} {rc ra rb:Kn} {mc ma mb:Nat} (h1:exprT p σ c=.ok (rc,mc)) (hk:rc.kind=2) (h2:exprT p σ a=.ok (ra,ma)) (h3:exprT p σ b=.ok (rb,mb)) (hab:rb.kind=ra.kind) (wa:ra.w ≤ 60) (wb:rb.w ≤ 60) :
  ∃ m,exprT p σ (eSel c a b)=.ok (⟨ra.kind,max ra.w rb.w,false,0⟩,m):=by
 unfold eSel
 rw [exprT,exprsT,h1,andT_ok,exprsT,h2,andT_ok,exprsT,h3,andT_ok,exprsT]
 simp only [andT_ok]
 unfold madeT
 rw [if_neg (by decide),if_neg (by decide),if_neg (by decide),if_neg (by decide),if_neg (by decide),if_neg (by show ¬ (rc.kind ≠ 2∨rb.kind ≠ ra.kind); simp [hk,hab]),andT_ok]
 unfold toldT
 show ∃ m,(if ra.kind=1 then (if 60 < max ra.w rb.w then _ else _) else _)=_
 split
 ·rw [if_neg (by omega)]; exact ⟨_,rfl⟩
 ·exact ⟨_,rfl⟩
theorem lq_inv {p:Prg} {σ τ:TS} {y:ByteArray} {c a b:Exp} (hl:σ.env.loops=[]) (h:stmtsT p (lqC y c a b) σ=.ok τ):CondOk p σ y c a b:=by
 obtain ⟨σ1,h1,h⟩:=stmts_cons h
 obtain ⟨σ2,h2,h⟩:=stmts_cons h
 obtain ⟨σ3,h3,h⟩:=stmts_cons h
 obtain ⟨r0,m0,s1,e1,t1,rfl⟩:=set_inv h1
 have:=num0 e1
 simp only at this
 subst this
 obtain ⟨l,m,g1,g2,g3⟩:=stmt_inv h2
 obtain ⟨rc,mc,e2,rfl,rfl⟩:=one_inv g2
 have s2:=step_ok g1
 have g3:ifT [rc] (stmtsT p [sSet y a]) (stmtsT p [sSet y b]) _=.ok σ2:=g3
 unfold ifT at g3
 split at g3
 ·cases g3
 rename_i hk
 have hk:rc.kind=2:=Decidable.byContradiction hk
 obtain ⟨σa,ga,g3⟩:=andT_inv g3
 obtain ⟨σb,gb,g3⟩:=andT_inv g3
 rw [stmtsT_one'] at ga gb
 obtain ⟨ra,ma,s3,e3,t3,rfl⟩:=set_inv ga
 obtain ⟨rb,mb,s4,e4,t4,rfl⟩:=set_inv gb
 cases g3
 obtain ⟨r5,m5,s5,e5⟩:=out_inv h3
 refine ⟨?_,t1,rc,mc,ra,ma,rb,mb,?_,hk,?_,?_,?_⟩
 ·simp only at s5; omega
 ·exact e2
 ·exact e3
 ·exact e4
 ·apply Decidable.byContradiction
  intro hne
  unfold eName at e5
  rw [exprT] at e5
  obtain ⟨⟨l5,ml5⟩,_,e5⟩:=andT_inv e5
  obtain ⟨q5,n5,e5⟩:=andT_inv e5
  unfold madeT at n5
  rw [if_neg (by decide),if_pos rfl] at n5
  obtain ⟨t6,t7,t8⟩:=taken_inv t1
  refine nameT_no (by exact hl) ?_ t6 n5
  show bothV _ _ _ y=none
  unfold bothV
  show (match setV σ.env.vars y _ y with | some _=>both1 (setV _ y _ y) (setV _ y _ y) | none=>none)=none
  unfold setV
  rw [if_pos rfl,if_pos rfl,if_pos rfl]
  show (if ra.kind=rb.kind then _ else none)=none
  rw [if_neg (fun e=>hne e.symm)]
theorem lr_inv {p:Prg} {σ τ:TS} {y:ByteArray} {c a b:Exp} (h:stmtsT p (lrC y c a b) σ=.ok τ):CondOk p σ y c a b:=by
 obtain ⟨σ1,h1,h⟩:=stmts_cons h
 obtain ⟨σ2,h2,h⟩:=stmts_cons h
 obtain ⟨σ3,h3,h⟩:=stmts_cons h
 obtain ⟨σ4,h4,h⟩:=stmts_cons h
 obtain ⟨σ5,h5,h⟩:=stmts_cons h
 obtain ⟨r1,m1,s1,e1,t1,rfl⟩:=set_inv h1
 obtain ⟨r2,m2,s2,e2,t2,rfl⟩:=set_inv h2
 obtain ⟨r3,m3,s3,e3,t3,rfl⟩:=set_inv h3
 obtain ⟨r4,m4,s4,e4,t4,rfl⟩:=set_inv h4
 obtain ⟨r5,m5,s5,e5⟩:=out_inv h5
 have q1:=num0 e1
 have q2:=num0 e2
 have q3:=num0 e3
 simp only at q1 q2 q3
 subst q1 q2 q3
 have ee:=sel_inv e4
 simp only [setV_twice] at ee
 exact ⟨by simp only at s5; omega,t1,ee⟩
theorem set_ok' {p:Prg} {y:ByteArray} {e:Exp} {σ:TS} {r:Kn} {m:Nat} (hs:σ.steps + 1 ≤ 10000) (he:exprT p σ.env e=.ok (r,m)) (ht:¬ takenT p σ.env y=true) :
  ∃ τ,stmtT p (sSet y e) σ=.ok τ∧τ.env={ σ.env with vars:=setV σ.env.vars y (some (r.kind,r.w)) }∧τ.steps=σ.steps + 1∧τ.ifs=σ.ifs:=⟨_,set_ok hs he ht,rfl,rfl,rfl⟩
theorem if_ok' {p:Prg} {c:Exp} {A B:List Stm} {σ:TS} {rc:Kn} {mc:Nat} (hs:σ.steps + 1 ≤ 10000) (he:exprT p σ.env c=.ok (rc,mc)) (hk:rc.kind=2) {va vb:ByteArray→Option (Int × Nat)} {na nb:Nat}
  (ha:∀ σ':TS,σ'.env=σ.env→σ'.steps=σ.steps + 1→∃ τ,stmtsT p A σ'=.ok τ∧τ.env={ σ.env with vars:=va }∧τ.steps=σ.steps + 1 + na)
  (hb:∀ σ':TS,σ'.env=σ.env→σ'.steps=σ.steps + 1 + na→∃ τ,stmtsT p B σ'=.ok τ∧τ.env={ σ.env with vars:=vb }∧τ.steps=σ.steps + 1 + na + nb) :
  ∃ τ,stmtT p (sIf c A B) σ=.ok τ∧τ.env.vars=bothV σ.env.vars va vb∧τ.env.loops=σ.env.loops∧τ.steps=σ.steps + 1 + na + nb∧τ.ifs=σ.ifs:=by
 obtain ⟨σa,h1,h2,h3⟩:=ha { σ with steps:=σ.steps + 1,most:=max σ.most (max mc 0),ifs:=σ.ifs + 1 } rfl rfl
 obtain ⟨σb,g1,g2,g3⟩:=hb { σa with env:=σ.env } rfl h3
 refine ⟨{ σb with ifs:=σ.ifs,env:={ σ.env with vars:=bothV σ.env.vars σa.env.vars σb.env.vars,words:=maxW σb.env.words σa.env.words } },?_,?_,rfl,g3,rfl⟩
 ·rw [sIf,stmtT,stepT_le hs,andT_ok,exprs_one he,andT_ok]
  show ifT [rc] (stmtsT p A) (stmtsT p B) { σ with steps:=σ.steps + 1,most:=max σ.most (max mc 0) }=_
  unfold ifT
  rw [if_neg (by show ¬ rc.kind ≠ 2; simp [hk]),h1,andT_ok,g1,andT_ok]
 ·show bothV σ.env.vars σa.env.vars σb.env.vars=_
  rw [h2,g2]
theorem lq_ok {p:Prg} (hp:PV p) {σ:TS} (ok:TOk p σ) {y:ByteArray} {c a b:Exp} {lv:Nat} (va:VE a lv) (vb:VE b lv) (hl:σ.env.loops=[]) (hf:σ.ifs=0) (h:CondOk p σ y c a b):∃ τ,stmtsT p (lqC y c a b) σ=.ok τ:=by
 obtain ⟨hs,ht,rc,mc,ra,ma,rb,mb,e1,hk,e2,e3,hab⟩:=h
 have oke:EOkT p (envC σ y):=ok.env.setV (fun k w h=>by cases h; exact ⟨.inl rfl,wid_le (by decide) (by decide),fun h=>absurd h (by decide)⟩)
 have ka:=(exprT_ok hp oke a lv va ra ma e2).1
 have kb:=(exprT_ok hp oke b lv vb rb mb e3).1
 obtain ⟨σ1,h1,n1,s1,f1⟩:=set_ok' (e:=eNum 0) (y:=y) (by omega) (exprT_num (p:=p) (σ:=σ.env) (n:=0) (by decide)) ht
 have n1:σ1.env=envC σ y:=n1
 have tk:¬ takenT p σ1.env y=true:=by rw [n1]; exact ht
 obtain ⟨σ2,h2,v2,l2,s2,f2⟩:=if_ok' (p:=p) (σ:=σ1) (c:=c) (A:=[sSet y a]) (B:=[sSet y b]) (va:=setV σ1.env.vars y (some (ra.kind,ra.w))) (vb:=setV σ1.env.vars y (some (rb.kind,rb.w))) (na:=1) (nb:=1) (by omega) (by rw [n1]; exact e1) hk
  (fun σ' g1 g2=>by
   obtain ⟨τ,q1,q2,q3,_⟩:=set_ok' (p:=p) (σ:=σ') (e:=a) (y:=y) (r:=ra) (m:=ma) (by omega) (by rw [g1,n1]; exact e2) (by rw [g1]; exact tk)
   exact ⟨τ,by rw [stmtsT_one']; exact q1,by rw [q2,g1],by omega⟩)
  (fun σ' g1 g2=>by
   obtain ⟨τ,q1,q2,q3,_⟩:=set_ok' (p:=p) (σ:=σ') (e:=b) (y:=y) (r:=rb) (m:=mb) (by omega) (by rw [g1,n1]; exact e3) (by rw [g1]; exact tk)
   exact ⟨τ,by rw [stmtsT_one']; exact q1,by rw [q2,g1],by omega⟩)
 have hn:nameT p σ2.env y=.ok ⟨ra.kind,max ra.w rb.w,false,0⟩:=by
  unfold nameT
  rw [l2,n1,show (envC σ y).loops=[] from hl,v2]
  have e:bothV σ1.env.vars (setV σ1.env.vars y (some (ra.kind,ra.w))) (setV σ1.env.vars y (some (rb.kind,rb.w))) y=some (ra.kind,max ra.w rb.w):=by
   unfold bothV
   rw [n1]
   show (match setV σ.env.vars y _ y with | some _=>both1 (setV _ y _ y) (setV _ y _ y) | none=>none)=_
   unfold setV
   rw [if_pos rfl,if_pos rfl,if_pos rfl]
   show (if ra.kind=rb.kind then _ else none)=_
   rw [if_pos hab.symm]
  simp only [findL]
  rw [e]
 have kaw:=ka.w
 have kbw:=kb.w
 obtain ⟨m5,e5,_,_⟩:=exprT_name (p:=p) hn (show max ra.w rb.w ≤ 60 by omega)
 unfold lqC
 rw [stmtsT,h1,andT_ok,stmtsT,h2,andT_ok,stmtsT,out_ok (by omega) e5 (by omega),andT_ok,stmtsT]
 exact ⟨_,rfl⟩
theorem lr_ok {p:Prg} (hp:PV p) {σ:TS} (ok:TOk p σ) {y:ByteArray} {c a b:Exp} {lv:Nat} (va:VE a lv) (vb:VE b lv) (hl:σ.env.loops=[]) (hf:σ.ifs=0) (h:CondOk p σ y c a b):∃ τ,stmtsT p (lrC y c a b) σ=.ok τ:=by
 obtain ⟨hs,ht,rc,mc,ra,ma,rb,mb,e1,hk,e2,e3,hab⟩:=h
 have oke:EOkT p (envC σ y):=ok.env.setV (fun k w h=>by cases h; exact ⟨.inl rfl,wid_le (by decide) (by decide),fun h=>absurd h (by decide)⟩)
 have ka:=(exprT_ok hp oke a lv va ra ma e2).1
 have kb:=(exprT_ok hp oke b lv vb rb mb e3).1
 obtain ⟨m4,e4⟩:=sel_ok e1 hk e2 e3 hab ka.w kb.w
 obtain ⟨σ1,h1,n1,s1,f1⟩:=set_ok' (e:=eNum 0) (y:=y) (by omega) (exprT_num (p:=p) (σ:=σ.env) (n:=0) (by decide)) ht
 have n1:σ1.env=envC σ y:=n1
 have twice:∀ τ:TS,τ.env=envC σ y→({ τ.env with vars:=setV τ.env.vars y (some ((kcon 0).kind,(kcon 0).w)) }:TE)=envC σ y:=fun τ hh=>by
  rw [hh]; unfold envC; simp only [setV_twice]; rfl
 obtain ⟨σ2,h2,n2,s2,f2⟩:=set_ok' (e:=eNum 0) (y:=y) (σ:=σ1) (by omega) (exprT_num (p:=p) (σ:=σ1.env) (n:=0) (by decide)) (by rw [n1]; exact ht)
 rw [twice _ n1] at n2
 obtain ⟨σ3,h3,n3,s3,f3⟩:=set_ok' (e:=eNum 0) (y:=y) (σ:=σ2) (by omega) (exprT_num (p:=p) (σ:=σ2.env) (n:=0) (by decide)) (by rw [n2]; exact ht)
 rw [twice _ n2] at n3
 obtain ⟨σ4,h4,n4,s4,f4⟩:=set_ok' (p:=p) (e:=eSel c a b) (y:=y) (σ:=σ3) (r:=⟨ra.kind,max ra.w rb.w,false,0⟩) (m:=m4) (by omega) (by rw [n3]; exact e4) (by rw [n3]; exact ht)
 have hn:nameT p σ4.env y=.ok ⟨ra.kind,max ra.w rb.w,false,0⟩:=by
  unfold nameT
  rw [n4]
  simp only
  rw [n3,show (envC σ y).loops=[] from hl]
  simp only [findL]
  rw [show setV (envC σ y).vars y (some (ra.kind,max ra.w rb.w)) y=some (ra.kind,max ra.w rb.w) from if_pos rfl]
 have kaw:=ka.w
 have kbw:=kb.w
 obtain ⟨m5,e5,_,_⟩:=exprT_name (p:=p) hn (show max ra.w rb.w ≤ 60 by omega)
 unfold lrC
 rw [stmtsT,h1,andT_ok,stmtsT,h2,andT_ok,stmtsT,h3,andT_ok,stmtsT,h4,andT_ok,stmtsT,out_ok (by omega) e5 (by omega),andT_ok,stmtsT]
 exact ⟨_,rfl⟩
theorem cond_same {p q r:Prg} (v:VT p) {y:ByteArray} {c a b:Exp} {lv:Nat} (va:VE a lv) (vb:VE b lv) (qi:q.ins=p.ins) (qa:q.arrays=p.arrays) (qb:q.body=p.body ++ lqC y c a b) (ri:r.ins=p.ins) (ra:r.arrays=p.arrays) (rb:r.body=p.body ++ lrC y c a b) (ls:List (List Nat)) :
  (errI q ls=0 ↔ errI r ls=0)∧resX q ls=resX r ls:=by
 have key:errI q ls=0 ↔ errI r ls=0:=by
  have hq:=check_app qi qa qb
  have hr:=check_app ri ra rb
  cases hp:checkT p with
  | error e =>
   rw [hp,andT_error] at hq hr
   have hne:=checkT_nz e hp
   rw [errI_of_error hq hne,errI_of_error hr hne]
  | ok σ =>
   rw [hp,andT_ok] at hq hr
   obtain ⟨pv,ok,hl,hf⟩:=check_keep v hp
   have nz:∀ {u:Prg} {e:Int},checkT u=.error e→¬ errI u ls=0:=fun h=>by
    have hne:=checkT_nz _ h
    rw [errI_of_error h hne]; exact hne
   cases h1:checkT q with
   | ok τ =>
    obtain ⟨τ',h2⟩:=lr_ok pv ok va vb hl hf (lq_inv hl (hq.symm.trans h1))
    rw [errI_of_ok h1,errI_of_ok (hr.trans h2),fit_same qi,fit_same ri]
   | error e =>
    cases h2:checkT r with
    | ok τ =>
     obtain ⟨τ',h3⟩:=lq_ok pv ok va vb hl hf (lr_inv (hr.symm.trans h2))
     rw [← hq,h1] at h3
     cases h3
    | error e'=>exact ⟨fun h=>absurd h (nz h1),fun h=>absurd h (nz h2)⟩
 refine ⟨key,?_⟩
 unfold resX
 by_cases h:errI q ls=0
 ·rw [if_pos h,if_pos (key.1 h),out_app qi qa qb,out_app ri ra rb]
  generalize runsX p p.body (startX p ls)=s
  have e1:(runsX p (lqC y c a b) s).told=s.told ++ [if valX p { s with vars:=setM s.vars y (some 0) } c=1 then valX p { s with vars:=setM s.vars y (some 0) } a else valX p { s with vars:=setM s.vars y (some 0) } b]:=by
   unfold lqC
   rw [runsX,runsX,runsX,runsX,run_set,val_num,run_if,run_out]
   split
   ·rw [runsX_one',run_set,val_name]
    show s.told ++ [(setM (setM s.vars y (some 0)) y (some (valX p { s with vars:=setM s.vars y (some 0) } a)) y).getD 0]=_
    rw [setM_self]; rfl
   ·rw [runsX_one',run_set,val_name]
    show s.told ++ [(setM (setM s.vars y (some 0)) y (some (valX p { s with vars:=setM s.vars y (some 0) } b)) y).getD 0]=_
    rw [setM_self]; rfl
  have e2:(runsX p (lrC y c a b) s).told=s.told ++ [if valX p { s with vars:=setM s.vars y (some 0) } c=1 then valX p { s with vars:=setM s.vars y (some 0) } a else valX p { s with vars:=setM s.vars y (some 0) } b]:=by
   unfold lrC
   simp only [runsX,run_set,run_out,val_num,val_name,val_sel,setM_twice,setM_self,Option.getD_some]
  rw [e1,e2]
 ·rw [if_neg h,if_neg (fun hh=>h (key.2 hh))]
end Go.Ab
namespace Go.Ab
def nCh:ByteArray:=⟨#[99,104,111,115,101,110]⟩
theorem nCh_size:nCh.size ≤ maxLen:=by rw [maxLen_eq]; decide
def condV (p:Prg) (ls:List (List Nat)) (c a b:Exp):V:=.agg ([.vec (p.ins.map InD.v) .any,.vec (p.arrays.map ArD.v) .any,.vec (p.body.map Stm.v) .any,LV ls] ++ c.v.cells ++ a.v.cells ++ b.v.cells)
theorem lq_sok {c a b:Exp} (hc:EOk c) (ha:EOk a) (hb:EOk b):∀ x ∈ lqC nCh c a b,SOk x:=fun x hx=>by
 simp only [lqC,List.mem_cons,List.not_mem_nil,or_false] at hx
 rcases hx with rfl | rfl | rfl
 ·exact SOk_set nCh_size (EOk_nu (by decide))
 ·exact .mk (i64 (by decide) (by decide)) noName_size (by rw [maxLen_eq]; simp) (by rw [maxLen_eq]; simp) (by rw [maxLen_eq]; simp) (by simpa using hc) (by simpa using SOk_set nCh_size ha) (by simpa using SOk_set nCh_size hb)
 ·exact SOk_out (EOk_nm nCh_size)
theorem lr_sok {c a b:Exp} (hc:EOk c) (ha:EOk a) (hb:EOk b):∀ x ∈ lrC nCh c a b,SOk x:=fun x hx=>by
 simp only [lrC,List.mem_cons,List.not_mem_nil,or_false] at hx
 rcases hx with rfl | rfl | rfl | rfl | rfl
 ·exact SOk_set nCh_size (EOk_nu (by decide))
 ·exact SOk_set nCh_size (EOk_nu (by decide))
 ·exact SOk_set nCh_size (EOk_nu (by decide))
 ·exact SOk_set nCh_size (EOk_sel hc ha hb)
 ·exact SOk_out (EOk_nm nCh_size)
theorem lq_bulk {c a b:Exp} (hc:c.v.bulk ≤ 1048576) (ha:a.v.bulk ≤ 1048576) (hb:b.v.bulk ≤ 1048576):V.bulks ((lqC nCh c a b).map Stm.v) ≤ 5000000:=by
 simp only [lqC,sSet,sIf,sOut,eNum,eName,List.map_cons,List.map_nil,V.bulks,stm_bulk,exp_bulk]
 have h1:nCh.size=6:=by decide
 have h2:noName.size=0:=by decide
 omega
theorem lr_bulk {c a b:Exp} (hc:c.v.bulk ≤ 1048576) (ha:a.v.bulk ≤ 1048576) (hb:b.v.bulk ≤ 1048576):V.bulks ((lrC nCh c a b).map Stm.v) ≤ 5000000:=by
 simp only [lrC,sSet,eSel,sOut,eNum,eName,List.map_cons,List.map_nil,V.bulks,stm_bulk,exp_bulk]
 have h1:nCh.size=6:=by decide
 have h2:noName.size=0:=by decide
 omega
namespace YtljoifdccjcidaaDoor
section
variable {h:H} {K:Out→H→Prop}
theorem hexp (a:Exp):V.agg [I a.kind,I a.op,W a.num,.str a.name,.vec (a.kids.map Exp.v) .any]=a.v:=by rw [Exp.v_eq]; rfl
theorem hif {c:Exp} {A B:List Stm}:(sIf c A B).v=V.agg [I 3,.str noName,.vec [c.v] .any,.vec (A.map Stm.v) .any,.vec (B.map Stm.v) .any]:=by rw [sIf,Stm.v_mk]; rfl
theorem assignL' {a:Exp} {va:V} (ha:va=a.v) (hK:K (.ret (sSet nCh a).v) h):R 22 [va] h K:=by
 subst ha
 refine run22 (Nat.le_of_ble_eq_true rfl) ?_
 obtain ⟨k1,o1,n1,s1,ks1⟩:=a
 simp -dsimp -implicitDefEqProofs only [↓STP,STQ,seval,ir22,Exp.v_mk,storeV]
 rw [sSet,Stm.v_mk] at hK
 simp only [List.map_cons,List.map_nil,Exp.v_mk] at hK
 exact hK
theorem cond30 {p:Prg} {ls:List (List Nat)} {c a b:Exp} (ok:POk p) (okc:EOk c) (oka:EOk a) (okb:EOk b) (hb:p.v.bulk ≤ 1048576) (bc:c.v.bulk ≤ 1048576) (ba:a.v.bulk ≤ 1048576) (bb:b.v.bulk ≤ 1048576) (hl:ls.length ≤ maxLen) (hw:WordsOk ls) (hK:∀ h',K (.ret (.bool true)) h'):R 8 [condV p ls c a b] h K:=by
 refine run8 (Nat.le_of_ble_eq_true rfl) ?_
 have hv0:p.v=V.agg [.vec (p.ins.map InD.v) .any,.vec (p.arrays.map ArD.v) .any,.vec (p.body.map Stm.v) .any]:=rfl
 have hL:LV ls=.vec (ls.map fun l=>.vec (Ws l) .any) .any:=rfl
 have lb:=stms_len' (l:=p.body)
 have lb2:p.body.length ≤ 1048576:=by rw [prg_bulk] at hb; omega
 have hC:condV p ls c a b=.agg [.vec (p.ins.map InD.v) .any,.vec (p.arrays.map ArD.v) .any,.vec (p.body.map Stm.v) .any,LV ls,I c.kind,I c.op,W c.num,.str c.name,.vec (c.kids.map Exp.v) .any,I a.kind,I a.op,W a.num,.str a.name,.vec (a.kids.map Exp.v) .any,I b.kind,I b.op,W b.num,.str b.name,.vec (b.kids.map Exp.v) .any]:=by
  unfold condV; rw [Exp.v_cells,Exp.v_cells,Exp.v_cells]; rfl
 simp -dsimp -implicitDefEqProofs only [↓STP,STQ,seval,ir8,hC,hL]
 refine awake30 fun h1 u1=>?_
 simp -dsimp -implicitDefEqProofs only [↓STP,STQ,seval,storeV]
 rw [app_fullA (sz:=5) (by simp) mapS_elems' (by decide) (by decide) (by rw [List.length_nil,List.length_map]; omega)]
 simp -dsimp -implicitDefEqProofs only [↓STP,STQ,seval,List.nil_append]
 refine numL (n:=0) ?_
 simp -dsimp -implicitDefEqProofs only [↓STP,STQ,seval,hnum']
 refine assignL' (a:=eNum 0) hnum'.symm ?_
 simp -dsimp -implicitDefEqProofs only [↓STP,STQ,seval,hset']
 refine assignL' (a:=a) (hexp a) ?_
 simp -dsimp -implicitDefEqProofs only [↓STP,STQ,seval,hset']
 refine assignL' (a:=b) (hexp b) ?_
 simp -dsimp -implicitDefEqProofs only [↓STP,STQ,seval,hset']
 refine nameL ?_
 simp -dsimp -implicitDefEqProofs only [↓STP,STQ,seval,hname]
 refine outputL' (a:=eName nCh) hname.symm ?_
 simp -dsimp -implicitDefEqProofs only [↓STP,STQ,seval,hout]
 rw [app_capA (sz:=5) (by simp) mapS_cells' (by intro e he; simp only [List.mem_cons,List.not_mem_nil,or_false] at he; rcases he with rfl | rfl | rfl <;> exact ⟨rfl,rfl⟩) (by decide) (by decide) (by rw [List.length_map]; show p.body.length + 3 ≤ 4294967296; omega)]
 simp -dsimp -implicitDefEqProofs only [↓STP,STQ,seval,storeV]
 rw [app_fullA (sz:=5) (by simp) mapS_elems' (by decide) (by decide) (by rw [List.length_nil,List.length_map]; omega)]
 simp -dsimp -implicitDefEqProofs only [↓STP,STQ,seval,List.nil_append]
 refine numL (n:=0) ?_
 simp -dsimp -implicitDefEqProofs only [↓STP,STQ,seval,hnum']
 refine assignL' (a:=eNum 0) hnum'.symm ?_
 simp -dsimp -implicitDefEqProofs only [↓STP,STQ,seval,hset']
 refine numL (n:=0) ?_
 simp -dsimp -implicitDefEqProofs only [↓STP,STQ,seval,hnum']
 refine assignL' (a:=eNum 0) hnum'.symm ?_
 simp -dsimp -implicitDefEqProofs only [↓STP,STQ,seval,hset']
 refine numL (n:=0) ?_
 simp -dsimp -implicitDefEqProofs only [↓STP,STQ,seval,hnum']
 refine assignL' (a:=eNum 0) hnum'.symm ?_
 simp -dsimp -implicitDefEqProofs only [↓STP,STQ,seval,hset']
 refine assignL' (a:=eSel c a b) (by rw [hsel,← hexp a,← hexp b,← hexp c]; rfl) ?_
 simp -dsimp -implicitDefEqProofs only [↓STP,STQ,seval,hset']
 refine nameL ?_
 simp -dsimp -implicitDefEqProofs only [↓STP,STQ,seval,hname]
 refine outputL' (a:=eName nCh) hname.symm ?_
 simp -dsimp -implicitDefEqProofs only [↓STP,STQ,seval,hout]
 rw [app_capA (sz:=5) (by unfold useB; split <;> (try split) <;> simp) mapS_cells' (by intro e he; simp only [List.mem_cons,List.not_mem_nil,or_false] at he; rcases he with rfl | rfl | rfl | rfl | rfl <;> exact ⟨rfl,rfl⟩) (by decide) (by decide) (by rw [List.length_map]; show p.body.length + 5 ≤ 4294967296; omega)]
 simp -dsimp -implicitDefEqProofs only [↓STP,STQ,seval,storeV]
 obtain ⟨okq,hbq⟩:=app_ok ok hb (lq_sok okc oka okb) (lq_bulk bc ba bb)
 obtain ⟨okr,hbr⟩:=app_ok ok hb (lr_sok okc oka okb) (lr_bulk bc ba bb)
 refine few30' (p:=p.app (lqC nCh c a b)) (ls:=ls) (by simp only [Prg.v,Prg.cells,Prg.app,lqC,List.map_append,List.map_cons,List.map_nil,hout,hset',hnum',hif,hsel,hname,(hexp c).symm] <;> rfl) rfl okq hbq hl hw fun d hvq=>?_
 cases d with
 | false =>
  simp -dsimp -implicitDefEqProofs only [↓STP,STQ,seval]
  exact hK _
 | true =>
 simp -dsimp -implicitDefEqProofs only [↓STP,STQ,seval]
 refine few30' (p:=p.app (lrC nCh c a b)) (ls:=ls) (by simp only [Prg.v,Prg.cells,Prg.app,lrC,List.map_append,List.map_cons,List.map_nil,hout,hset',hnum',hif,hsel,hname,(hexp c).symm,(hexp a).symm,(hexp b).symm] <;> rfl) rfl okr hbr hl hw fun d hvr=>?_
 cases d with
 | false =>
  simp -dsimp -implicitDefEqProofs only [↓STP,STQ,seval]
  exact hK _
 | true =>
 obtain ⟨vpq,l20,l200⟩:=hvq rfl
 have vq:=vpq.vt okq
 have vr:=(hvr rfl).1.vt okr
 have lok:LsOk ls:=⟨by omega,fun l hl=>⟨by have:=l200 l hl; omega,hw l hl⟩⟩
 have v:VT p:=⟨ok,VSs_all.2 fun x hx=>VSs_all.1 vq.body x (List.mem_append_left _ hx),vq.ins,vq.ars⟩
 have hsv:=VSs_all.1 vr.body (sSet nCh (eSel c a b)) (List.mem_append_right _ (by simp [lrC]))
 have hev:VE (eSel c a b) 2:=(VS_mk.1 hsv).2.2.2.2.2.2.2.2.1 _ (by simp)
 have hkv:=(VE_mk.1 hev).2.2.2.2.2.2.2.2
 have cs:=cond_same v (q:=p.app (lqC nCh c a b)) (r:=p.app (lrC nCh c a b)) (y:=nCh) (c:=c) (a:=a) (b:=b) (hkv a (by simp)) (hkv b (by simp)) rfl rfl rfl rfl rfl rfl ls
 simp -dsimp -implicitDefEqProofs only [↓STP,STQ,seval]
 refine runI' (p:=p.app (lqC nCh c a b)) (ls:=ls) (by simp only [Prg.v,Prg.cells,Prg.app,lqC,List.map_append,List.map_cons,List.map_nil,hout,hset',hnum',hif,hsel,hname,(hexp c).symm] <;> rfl) rfl vq lok fun h2 r1 u2 w1=>?_
 rcases w1.shape with rfl | ⟨id1,rfl⟩
 all_goals
  simp -dsimp -implicitDefEqProofs only [↓STP,STQ,seval]
  refine runI' (p:=p.app (lrC nCh c a b)) (ls:=ls) (by simp only [Prg.v,Prg.cells,Prg.app,lrC,List.map_append,List.map_cons,List.map_nil,hout,hset',hnum',hif,hsel,hname,(hexp c).symm,(hexp a).symm,(hexp b).symm] <;> rfl) rfl vr lok fun h3 r2 u3 w2=>?_
  have w3:=w1.frame u3.nx u3.old
  rcases w2.shape with rfl | ⟨id2,rfl⟩
  all_goals
   by_cases dE:errI (p.app (lqC nCh c a b)) ls=0
   ·simp -dsimp -implicitDefEqProofs only [↓STP,STQ,seval,eq_true dE,eq_true (cs.1.1 dE)]
    refine same03W w3 w2 (res_facts vq).1 ?_
    rw [decide_eq_true cs.2]
    simp -dsimp -implicitDefEqProofs only [↓STP,STQ,seval]
    exact hK _
   ·simp -dsimp -implicitDefEqProofs only [↓STP,STQ,seval,eq_false dE,eq_false (fun hh=>dE (cs.1.2 hh))]
    refine same03W w3 w2 (res_facts vq).1 ?_
    rw [decide_eq_true cs.2]
    simp -dsimp -implicitDefEqProofs only [↓STP,STQ,seval]
    exact hK _
end
end YtljoifdccjcidaaDoor
end Go.Ab
namespace Go.Ab
end Go.Ab
namespace Go.Ab
end Go.Ab
namespace Go.Ab
structure EqS (p:Prg) (σ:TE) (s' s:RS):Prop where
 vars:∀ x r,nameT p σ x=.ok r→s'.vars x=s.vars x
 inw:s'.inw=s.inw
 words:s'.words=s.words
 told:s'.told=s.told
theorem EqS.refl {p:Prg} {σ:TE} {s:RS}:EqS p σ s s:=⟨fun _ _ _=>rfl,rfl,rfl,rfl⟩
theorem eq_vals {p:Prg} {σ:TE} {s' s:RS}:∀ {l:List Exp},(∀ x ∈ l,∀ r m,exprT p σ x=.ok (r,m)→valX p s' x=valX p s x)→∀ ks m,exprsT p σ l=.ok (ks,m)→l.map (valX p s')=l.map (valX p s)
 | [],_,_,_,_=>rfl
 | e :: es,h,ks,m,hs=>by
  rw [exprsT] at hs
  obtain ⟨⟨a,ma⟩,h1,hs⟩:=andT_inv hs
  obtain ⟨⟨b,mb⟩,h2,hs⟩:=andT_inv hs
  rw [List.map_cons,List.map_cons,h e (by simp) a ma h1,eq_vals (fun x hx=>h x (by simp [hx])) b mb h2]
theorem eq_val {p:Prg} {σ:TE} {s' s:RS} (q:EqS p σ s' s) (e:Exp):∀ r m,exprT p σ e=.ok (r,m)→valX p s' e=valX p s e:=by
 induction e using Exp.ind with
 | h k o n x ks ih =>
  intro r m h
  rw [exprT] at h
  obtain ⟨⟨l,ml⟩,h1,h⟩:=andT_inv h
  obtain ⟨t,h2,h⟩:=andT_inv h
  rw [valX_mk,valX_mk,eq_vals ih l ml h1]
  unfold valOf rdX
  rw [q.words,q.inw]
  by_cases c:k=2
  ·rw [if_neg (by rw [c]; decide),if_pos c,if_neg (by rw [c]; decide),if_pos c]
   unfold madeT at h2
   rw [if_neg (by rw [c]; decide),if_pos c] at h2
   rw [q.vars x t h2]
  ·rw [if_neg c,if_neg c]
def FoldT (p:Prg) (f:TS→TR TS) (g' g:RS→RS):Prop:=∀ σ τ s' s,TOk p σ→Ag p σ s→EqS p σ.env s' s→f σ=.ok τ→EqS p τ.env (g' s') (g s)
theorem nameT_mono {p:Prg} {σ τ:TE} {x:ByteArray} (hl:τ.loops=σ.loops) (hv:∀ u,τ.vars x=some u→∃ w,σ.vars x=some w) {r:Kn} (h:nameT p τ x=.ok r):∃ r',nameT p σ x=.ok r':=by
 unfold nameT at h ⊢
 rw [hl] at h
 split at h
 ·exact ⟨_,rfl⟩
 ·cases c:σ.vars x with
  | some u=>exact ⟨_,rfl⟩
  | none =>
   split at h
   ·rename_i u w hu
    obtain ⟨w',hw⟩:=hv _ hu
    rw [c] at hw; cases hw
   ·exact ⟨r,h⟩
theorem nameT_free {p:Prg} {σ:TE} {x:ByteArray} (h1:findL x σ.loops=none) (h2:σ.vars x=none) (h3:inOf p x=none) {r:Kn} (h:nameT p σ x=.ok r):False:=by
 unfold nameT at h
 rw [h1] at h
 simp only at h
 rw [h2] at h
 simp only at h
 rw [h3] at h
 cases h
theorem EqS.set {p:Prg} {σ:TE} {s' s:RS} (q:EqS p σ s' s) {x:ByteArray} {u:Option (Int × Nat)} {v:Option Nat}:EqS p { σ with vars:=setV σ.vars x u } { s' with vars:=setM s'.vars x v } { s with vars:=setM s.vars x v }:=by
 refine ⟨fun t r h=>?_,q.inw,q.words,q.told⟩
 show setM s'.vars x v t=setM s.vars x v t
 rw [setM_get,setM_get]
 by_cases c:t=x
 ·rw [if_pos c,if_pos c]
 ·rw [if_neg c,if_neg c]
  obtain ⟨r',h'⟩:=nameT_mono (τ:={ σ with vars:=setV σ.vars x u }) (σ:=σ) rfl (fun w hw=>by
   have hw:setV σ.vars x u t=some w:=hw
   unfold setV at hw
   rw [if_neg c] at hw
   exact ⟨w,hw⟩) h
  exact q.vars t r' h'
theorem iter_fold {p:Prg} {f:Nat→TS→TR TS} {g' g:Nat→RS→RS} {I:TS→Prop} {m:Nat} (hr:∀ n,n < m→∀ σ τ s' s,TOk p σ→I σ→Ag p σ s→EqS p σ.env s' s→f n σ=.ok τ→EqS p τ.env (g' n s') (g n s)∧Ag p τ (g n s)∧I τ) (hg:∀ n,n < m→GoodT p (f n)) :
  ∀ c n,n + c ≤ m→∀ σ τ s' s,TOk p σ→I σ→Ag p σ s→EqS p σ.env s' s→iterT f c n σ=.ok τ→EqS p τ.env (iterX g' c n s') (iterX g c n s)∧I τ
 | 0,n,_,σ,τ,s',s,ok,hi,a,q,h=>by rw [iterT] at h; cases h; exact ⟨q,hi⟩
 | c + 1,n,hm,σ,τ,s',s,ok,hi,a,q,h=>by
  rw [iterT] at h
  obtain ⟨ρ,h1,h2⟩:=andT_inv h
  obtain ⟨q1,a1,i1⟩:=hr n (by omega) σ ρ s' s ok hi a q h1
  rw [iterX,iterX]
  exact iter_fold hr hg c (n + 1) (by omega) ρ τ _ _ (hg n (by omega) σ ρ ok h1).ok i1 a1 q1 h2
theorem turn_fold {p:Prg} {x:ByteArray} {ls:List (ByteArray × Nat)} {fa:TS→TR TS} {ga' ga:RS→RS} (hf:FoldT p fa ga' ga) (hr:RunT p fa ga) (hg:GoodT p fa) {n:Nat} (hn:n < 1152921504606846976) (σ τ:TS) (s' s:RS) (ok:TOk p σ) (hi:Free p x ls σ) (a:Ag p σ s) (q:EqS p σ.env s' s) (h:turnT x fa n σ=.ok τ) :
  EqS p τ.env (ga' { s' with vars:=setM s'.vars x (some n) }) (ga { s with vars:=setM s.vars x (some n) })∧Ag p τ (ga { s with vars:=setM s.vars x (some n) })∧Free p x ls τ:=by
 obtain ⟨b1,b2⟩:=turn_run hr hg hn σ τ s ok hi a h
 refine ⟨?_,b1,b2⟩
 unfold turnT at h
 obtain ⟨ρ,h1,h⟩:=andT_inv h
 obtain ⟨ρ2,h2,h⟩:=andT_inv h
 obtain ⟨rfl,k1⟩:=stepT_ok ok h1
 have oke:=turn_ext (x:=x) k1.ok hn
 have a0:Ag p ({ σ with steps:=σ.steps + 1,env:={ σ.env with loops:=σ.env.loops ++ [(x,n)] } }:TS) { s with vars:=setM s.vars x (some n) }:=⟨AgE.turn hi a.env,a.told,Nat.le_trans a.few (Nat.le_succ _)⟩
 have q0:EqS p { σ.env with loops:=σ.env.loops ++ [(x,n)] } { s' with vars:=setM s'.vars x (some n) } { s with vars:=setM s.vars x (some n) }:=by
  refine ⟨fun t r h=>?_,q.inw,q.words,q.told⟩
  show setM s'.vars x (some n) t=setM s.vars x (some n) t
  rw [setM_get,setM_get]
  by_cases c:t=x
  ·rw [if_pos c,if_pos c]
  ·rw [if_neg c,if_neg c]
   unfold nameT at h
   cases d:findL t σ.env.loops with
   | some m =>
    exact q.vars t (kcon m) (by unfold nameT; rw [d])
   | none =>
    have d':findL t (σ.env.loops ++ [(x,n)])=none:=by
     cases d':findL t (σ.env.loops ++ [(x,n)]) with
     | none=>rfl
     | some m =>
      rcases findL_snoc d' with e | ⟨_,e,_⟩
      ·rw [d] at e; cases e
      ·exact absurd e c
    refine q.vars t r ?_
    unfold nameT
    rw [d]
    simp only [d'] at h
    exact h
 have q2:=hf _ _ _ _ oke a0 q0 h2
 have k2:=hg _ _ oke h2
 have hl:ρ2.env.loops=σ.env.loops ++ [(x,n)]:=k2.loops
 cases h
 refine ⟨fun t r h=>?_,q2.inw,q2.words,q2.told⟩
 have h:nameT p { ρ2.env with loops:=σ.env.loops } t=.ok r:=h
 unfold nameT at h
 cases d:findL t σ.env.loops with
 | some m=>exact q2.vars t (kcon m) (by unfold nameT; rw [hl,findL_snoc_old d])
 | none =>
  by_cases c:t=x
  ·subst c
   exact q2.vars t (kcon n) (by unfold nameT; rw [hl,findL_snoc_new d])
  ·have d':findL t (σ.env.loops ++ [(x,n)])=none:=by
    cases d':findL t (σ.env.loops ++ [(x,n)]) with
    | none=>rfl
    | some m =>
     rcases findL_snoc d' with e | ⟨_,e,_⟩
     ·rw [d] at e; cases e
     ·exact absurd e c
   refine q2.vars t r ?_
   unfold nameT
   rw [hl,d']
   simp only [d] at h
   exact h
theorem EqS.drop {p:Prg} {x:ByteArray} {ls:List (ByteArray × Nat)} {σ:TS} {s' s:RS} (hi:Free p x ls σ) (q:EqS p σ.env s' s) {v v':Option Nat}:EqS p σ.env { s' with vars:=setM s'.vars x v' } { s with vars:=setM s.vars x v }:=by
 refine ⟨fun t r h=>?_,q.inw,q.words,q.told⟩
 have c:t ≠ x:=fun e=>by subst e; exact nameT_free (by rw [hi.e]; exact hi.l) hi.v hi.i h
 show setM s'.vars x v' t=setM s.vars x v t
 rw [setM_get,setM_get,if_neg c,if_neg c]
 exact q.vars t r h
theorem for_fold {p:Prg} {x:ByteArray} {l:List Kn} {vs:List Nat} (hv:VFits vs l) (kl:∀ k ∈ l,KOk k) {fa:TS→TR TS} {ga' ga:RS→RS} (hf:FoldT p fa ga' ga) (hr:RunT p fa ga) (hg:GoodT p fa):FoldT p (forT p x l fa) (forX x (vs.getD 0 0) (vs.getD 1 0) ga') (forX x (vs.getD 0 0) (vs.getD 1 0) ga):=by
 intro σ τ s' s ok a q h
 obtain ⟨i0,i1,ht,h⟩:=for_is h
 have b1:=(nthK_ok kl 1).lt
 rw [(hv.nth 0).is i0,(hv.nth 1).is i1]
 unfold forX
 obtain ⟨a0,f0,k0⟩:=for_start a ok ht
 have q0:EqS p { σ.env with vars:=setV σ.env.vars x none } { s' with vars:=setM s'.vars x none } { s with vars:=setM s.vars x none }:=q.set
 by_cases hle:(nthK l 0).val ≤ (nthK l 1).val
 ·obtain ⟨q1,f1⟩:=iter_fold (f:=turnT x fa) (g':=fun n s=>ga' { s with vars:=setM s.vars x (some n) }) (g:=fun n s=>ga { s with vars:=setM s.vars x (some n) }) (m:=(nthK l 1).val + 1) (I:=Free p x σ.env.loops) (fun n hn σ τ s' s ok hi a q h=>turn_fold hf hr hg (by omega) σ τ s' s ok hi a q h) (fun n hn=>turnT_ok hg (by omega)) ((nthK l 1).val + 1 - (nthK l 0).val) (nthK l 0).val (by omega) _ τ _ _ k0 f0 a0 q0 h
  exact q1.drop f1
 ·rw [show (nthK l 1).val + 1 - (nthK l 0).val=0 by omega,iterT] at h
  rw [show (nthK l 1).val + 1 - (nthK l 0).val=0 by omega,iterX,iterX]
  cases h
  exact EqS.drop f0 q0
theorem if_fold {p:Prg} {l:List Kn} {vs:List Nat} {fa fb:TS→TR TS} {ga' ga gb' gb:RS→RS} (ra:FoldT p fa ga' ga) (rb:FoldT p fb gb' gb) (ha:GoodT p fa) (hb:GoodT p fb):FoldT p (ifT l fa fb) (fun s=>if vs.getD 0 0=1 then ga' s else gb' s) (fun s=>if vs.getD 0 0=1 then ga s else gb s):=by
 intro σ τ s' s ok a q h
 unfold ifT at h
 split at h
 ·cases h
 obtain ⟨σ1,h1,h⟩:=andT_inv h
 obtain ⟨σ2,h2,h⟩:=andT_inv h
 have k1:=ha { σ with ifs:=σ.ifs + 1 } _ ⟨ok.env,ok.steps,ok.most⟩ h1
 have k2:=hb { σ1 with env:=σ.env } _ ⟨ok.env,k1.ok.steps,k1.ok.most⟩ h2
 have hst1:σ.steps ≤ σ1.steps:=k1.steps
 have hm1:σ.most ≤ σ1.most:=k1.most
 have hl1:σ1.env.loops=σ.env.loops:=k1.loops
 have hl2:σ2.env.loops=σ.env.loops:=k2.loops
 cases h
 show EqS p _ (if vs.getD 0 0=1 then ga' s' else gb' s') (if vs.getD 0 0=1 then ga s else gb s)
 split
 ·have q1:=ra { σ with ifs:=σ.ifs + 1 } _ s' s ⟨ok.env,ok.steps,ok.most⟩ ⟨a.env,a.told,a.few⟩ q h1
  refine ⟨fun t r h=>?_,q1.inw,q1.words,q1.told⟩
  obtain ⟨r',h'⟩:=nameT_mono (τ:={ σ.env with vars:=bothV σ.env.vars σ1.env.vars σ2.env.vars,words:=maxW σ2.env.words σ1.env.words }) (σ:=σ1.env) hl1.symm (fun w hw=>by
   have hw:bothV σ.env.vars σ1.env.vars σ2.env.vars t=some (w.1,w.2):=hw
   obtain ⟨_,w1,w2,f1,f2,_⟩:=both_some hw
   exact ⟨_,f1⟩) h
  exact q1.vars t r' h'
 ·have q1:=rb { σ1 with env:=σ.env } _ s' s ⟨ok.env,k1.ok.steps,k1.ok.most⟩ (a.mono rfl hst1 hm1) q h2
  refine ⟨fun t r h=>?_,q1.inw,q1.words,q1.told⟩
  obtain ⟨r',h'⟩:=nameT_mono (τ:={ σ.env with vars:=bothV σ.env.vars σ1.env.vars σ2.env.vars,words:=maxW σ2.env.words σ1.env.words }) (σ:=σ2.env) hl2.symm (fun w hw=>by
   have hw:bothV σ.env.vars σ1.env.vars σ2.env.vars t=some (w.1,w.2):=hw
   obtain ⟨_,w1,w2,f1,f2,_⟩:=both_some hw
   exact ⟨_,f2⟩) h
  exact q1.vars t r' h'
end Go.Ab
namespace Go.Ab
theorem same_of {p:Prg} (hp:PV p):∀ {l:List Stm} {lv:Nat},VSs l lv→(∀ x ∈ l,FoldT p (stmtT p x) (runX p x) (runX p x))→FoldT p (stmtsT p l) (runsX p l) (runsX p l)
 | [],lv,hv,ih=>fun σ τ s' s ok a q h=>by rw [stmtsT] at h; cases h; rw [runsX,runsX]; exact q
 | x :: xs,lv,hv,ih=>fun σ τ s' s ok a q h=>by
  rw [stmtsT] at h
  obtain ⟨σ1,h1,h2⟩:=andT_inv h
  have hx:=VSs_all.1 hv x (by simp)
  have hxs:VSs xs lv:=VSs_all.2 fun y hy=>VSs_all.1 hv y (by simp [hy])
  have k:Keep p σ σ1:=stmtsT_ok hp (l:=[x]) (VSs_all.2 fun y hy=>by rw [List.mem_singleton] at hy; subst hy; exact hx) _ _ ok (by rw [stmtsT_one']; exact h1)
  rw [runsX,runsX]
  exact same_of hp hxs (fun y hy=>ih y (by simp [hy])) σ1 τ _ _ k.ok (stmt_run hp x _ hx σ σ1 s ok a h1) (ih x (by simp) σ σ1 s' s ok a q h1) h2
theorem stmt_same {p:Prg} (hp:PV p) (x:Stm):∀ lv,VS x lv→FoldT p (stmtT p x) (runX p x) (runX p x):=by
 induction x using Stm.ind with
 | h k y e a b iha ihb =>
  intro lv hv σ τ s' s ok ag q h
  obtain ⟨v1,v2,v3,v4,v5,v6,v7,v8,v9,v10,v11⟩:=VS_mk.1 hv
  have fa:=same_of hp v10 fun x hx=>iha x hx _ (VSs_all.1 v10 x hx)
  have fb:=same_of hp v11 fun x hx=>ihb x hx _ (VSs_all.1 v11 x hx)
  have ga:=stmtsT_ok hp v10
  have gb:=stmtsT_ok hp v11
  have ra:=stmts_run hp v10
  obtain ⟨l,m,h1,h2,h⟩:=stmt_inv h
  obtain ⟨_,k1⟩:=stepT_ok ok h1
  have vf:=vals_fit ag.env ok.env h2
  obtain ⟨kl,km,kn⟩:=exprsT_ok hp ok.env v9 l m h2
  have ok1:TOk p { σ with steps:=σ.steps + 1,most:=max σ.most m }:=⟨ok.env,k1.ok.steps,by have:=ok.most; show max σ.most m ≤ 60; omega⟩
  have ag1:Ag p { σ with steps:=σ.steps + 1,most:=max σ.most m } s:=ag.mono rfl (Nat.le_succ _) (Nat.le_max_left _ _)
  have hvals:e.map (valX p s')=e.map (valX p s):=eq_vals (fun x _=>eq_val q x) l m h2
  rw [runX_mk,runX_mk,hvals]
  unfold stmt1 at h
  unfold run1
  split at h
  ·rename_i c; rw [if_pos c,if_pos c]
   unfold setT at h
   split at h
   ·cases h
   ·cases h; exact q.set
  rename_i c1; rw [if_neg c1,if_neg c1]
  split at h
  ·rename_i c; rw [if_pos c,if_pos c]
   obtain ⟨j,d,e1,e2,e3,e4,e5,e6,rfl⟩:=store_inv h
   rw [e1]
   exact ⟨fun t r h=>q.vars t r h,q.inw,by show setW s'.words _ _ _=setW s.words _ _ _; rw [q.words],q.told⟩
  rename_i c2; rw [if_neg c2,if_neg c2]
  split at h
  ·rename_i c; rw [if_pos c,if_pos c]
   exact if_fold (vs:=e.map (valX p s)) fa fb ga gb _ τ s' s ok1 ag1 q h
  rename_i c3; rw [if_neg c3,if_neg c3]
  split at h
  ·rename_i c; rw [if_pos c,if_pos c]
   exact for_fold vf kl fa ra ga _ τ s' s ok1 ag1 q h
  rename_i c4; rw [if_neg c4,if_neg c4]
  split at h
  ·cases h
  ·cases h
   exact ⟨fun t r h=>q.vars t r h,q.inw,q.words,by show s'.told ++ _=s.told ++ _; rw [q.told]⟩
theorem stmts_same {p:Prg} (hp:PV p) {l:List Stm} {lv:Nat} (hv:VSs l lv):FoldT p (stmtsT p l) (runsX p l) (runsX p l):=same_of hp hv fun x hx=>stmt_same hp x _ (VSs_all.1 hv x hx)
structure More (p q:Prg) (u:ByteArray):Prop where
 ar:q.arrays=p.arrays
 iu:inOf p u=none
 au:arOf p u=none
 qu:∃ d,inOf q u=some d
 same:∀ x,x ≠ u→inOf q x=inOf p x
theorem More.ars {p q:Prg} {u:ByteArray} (h:More p q u) (x:ByteArray):arOf q x=arOf p x:=by unfold arOf; rw [h.ar]
def NoU (u:ByteArray) (σ:TE):Prop:=σ.vars u=none∧findL u σ.loops=none
def Or4 {α:Type} (rp rq:TR α):Prop:=rp=.error 4∨rq=rp
theorem more_name {p q:Prg} {u x:ByteArray} (h:More p q u) {σ:TE} (n:NoU u σ):Or4 (nameT p σ x) (nameT q σ x):=by
 by_cases c:x=u
 ·subst c
  left
  unfold nameT
  rw [n.2]; simp only; rw [n.1]; simp only; rw [h.iu]
 ·right
  unfold nameT
  rw [h.same x c]
theorem more_index {p q:Prg} {u x:ByteArray} (h:More p q u) {σ:TE} {k:Kn}:Or4 (indexT p σ x k) (indexT q σ x k):=by
 by_cases c:x=u
 ·subst c
  left
  unfold indexT
  rw [h.au]; simp only; rw [h.iu]
 ·right
  unfold indexT
  rw [h.ars,h.same x c,h.ar]
theorem more_made {p q:Prg} {u x:ByteArray} (h:More p q u) {σ:TE} (n:NoU u σ) {k o:Int} {c:Nat} {l:List Kn}:Or4 (madeT p σ k o c x l) (madeT q σ k o c x l):=by
 unfold madeT
 split
 ·exact .inr rfl
 split
 ·exact more_name h n
 split
 ·exact more_index h
 ·exact .inr rfl
theorem more_exprs {p q:Prg} {σ:TE}:∀ {l:List Exp},(∀ x ∈ l,Or4 (exprT p σ x) (exprT q σ x))→Or4 (exprsT p σ l) (exprsT q σ l)
 | [],_=>.inr (by rw [exprsT,exprsT])
 | x :: xs,h=>by
  rw [exprsT,exprsT]
  rcases h x (by simp) with h1 | h1
  ·left; rw [h1]; rfl
  ·rw [h1]
   cases exprT p σ x with
   | error e=>exact .inr rfl
   | ok a =>
    obtain ⟨a,m⟩:=a
    rw [andT_ok,andT_ok]
    simp only
    rcases more_exprs (l:=xs) (fun y hy=>h y (by simp [hy])) with h2 | h2
    ·left; rw [h2]; rfl
    ·right; rw [h2]
theorem more_expr {p q:Prg} {u:ByteArray} (h:More p q u) {σ:TE} (n:NoU u σ) (e:Exp):Or4 (exprT p σ e) (exprT q σ e):=by
 induction e using Exp.ind with
 | h k o c x ks ih =>
  rw [exprT,exprT]
  rcases more_exprs ih with h1 | h1
  ·left; rw [h1]; rfl
  ·rw [h1]
   cases exprsT p σ ks with
   | error e=>exact .inr rfl
   | ok a =>
    obtain ⟨a,m⟩:=a
    rw [andT_ok,andT_ok]
    simp only
    rcases more_made h n (k:=k) (o:=o) (c:=c) (x:=x) (l:=a) with h2 | h2
    ·left; rw [h2]; rfl
    ·right; rw [h2]
structure TwinT (σq σp:TS):Prop where
 env:σq.env=σp.env
 steps:σq.steps=σp.steps
 ifs:σq.ifs=σp.ifs
inductive Lock (u:ByteArray) (rp rq:TR TS):Prop
 | p4:rp=.error 4→Lock u rp rq
 | q4:rq=.error 4→Lock u rp rq
 | er (e:Int):rp=.error e→rq=.error e→Lock u rp rq
 | ok (σp σq:TS):rp=.ok σp→rq=.ok σq→TwinT σq σp→NoU u σp.env→Lock u rp rq
def LockT (u:ByteArray) (fp fq:TS→TR TS):Prop:=∀ σp σq,TwinT σq σp→NoU u σp.env→Lock u (fp σp) (fq σq)
theorem Lock.and {u:ByteArray} {rp rq:TR TS} {fp fq:TS→TR TS} (h:Lock u rp rq) (hf:∀ σp σq,rp=.ok σp→rq=.ok σq→TwinT σq σp→NoU u σp.env→Lock u (fp σp) (fq σq)):Lock u (andT rp fp) (andT rq fq):=by
 cases h with
 | p4 h=>exact .p4 (by rw [h]; rfl)
 | q4 h=>exact .q4 (by rw [h]; rfl)
 | er e h1 h2=>exact .er e (by rw [h1]; rfl) (by rw [h2]; rfl)
 | ok σp σq h1 h2 t n=>rw [h1,h2,andT_ok,andT_ok]; exact hf σp σq h1 h2 t n
theorem lock_iter {u:ByteArray} {fp fq:Nat→TS→TR TS} (hf:∀ n,LockT u (fp n) (fq n)):∀ c n,LockT u (iterT fp c n) (iterT fq c n)
 | 0,n=>fun σp σq t h=>by rw [iterT,iterT]; exact .ok σp σq rfl rfl t h
 | c + 1,n=>fun σp σq t h=>by
  rw [iterT,iterT]
  exact (hf n σp σq t h).and fun τp τq _ _ t' h'=>lock_iter hf c (n + 1) τp τq t' h'
theorem lock_step {u:ByteArray} {σp σq:TS} (t:TwinT σq σp) (h:NoU u σp.env):Lock u (stepT σp) (stepT σq):=by
 unfold stepT
 rw [t.steps]
 split
 ·exact .er 2 rfl rfl
 ·exact .ok _ _ rfl rfl ⟨t.env,rfl,t.ifs⟩ h
theorem noU_setV {u x:ByteArray} {σ:TE} (h:NoU u σ) (hx:x ≠ u) {v:Option (Int × Nat)}:NoU u { σ with vars:=setV σ.vars x v }:=⟨by show setV σ.vars x v u=none; unfold setV; rw [if_neg (fun e=>hx e.symm)]; exact h.1,h.2⟩
theorem lock_set {p q:Prg} {u x:ByteArray} (m:More p q u) {l:List Kn}:LockT u (setT p x l) (setT q x l):=by
 intro σp σq t h
 by_cases c:x=u
 ·subst c
  refine .q4 ?_
  unfold setT
  obtain ⟨d,hd⟩:=m.qu
  rw [if_pos (by unfold takenT; rw [hd]; rfl)]
 ·have e:takenT q σq.env x=takenT p σp.env x:=by unfold takenT; rw [m.same x c,m.ars,t.env]
  unfold setT
  rw [e]
  split
  ·exact .er 4 rfl rfl
  ·refine .ok _ _ rfl rfl ⟨?_,t.steps,t.ifs⟩ (noU_setV h c)
   simp only [t.env]
theorem lock_store {p q:Prg} {u x:ByteArray} (m:More p q u) {l:List Kn}:LockT u (storeT p x l) (storeT q x l):=by
 intro σp σq t h
 unfold storeT
 rw [m.ars,m.ar]
 cases arOf p x with
 | none=>exact .er 4 rfl rfl
 | some i =>
  simp only
  cases placeT (nthK l 0) (p.arrays.getD i ⟨x,0⟩).size with
  | error e=>exact .er e rfl rfl
  | ok n =>
   rw [andT_ok,andT_ok]
   split
   ·exact .er 5 rfl rfl
   ·refine .ok _ _ rfl rfl ⟨?_,t.steps,t.ifs⟩ h
    simp only [t.env]
theorem lock_if {u:ByteArray} {l:List Kn} {ap aq bp bq:TS→TR TS} (ha:LockT u ap aq) (hb:LockT u bp bq):LockT u (ifT l ap bp) (ifT l aq bq):=by
 intro σp σq t h
 unfold ifT
 split
 ·exact .er 5 rfl rfl
 refine (ha { σp with ifs:=σp.ifs + 1 } { σq with ifs:=σq.ifs + 1 } ⟨t.env,t.steps,by show σq.ifs + 1=σp.ifs + 1; rw [t.ifs]⟩ h).and fun τp τq _ _ t1 h1=>?_
 refine (hb { τp with env:=σp.env } { τq with env:=σq.env } ⟨t.env,t1.steps,t1.ifs⟩ h).and fun ρp ρq _ _ t2 h2=>?_
 refine .ok _ _ rfl rfl ⟨?_,t2.steps,t.ifs⟩ ⟨?_,h.2⟩
 ·show ({ σq.env with vars:=bothV σq.env.vars τq.env.vars ρq.env.vars,words:=maxW ρq.env.words τq.env.words }:TE)={ σp.env with vars:=bothV σp.env.vars τp.env.vars ρp.env.vars,words:=maxW ρp.env.words τp.env.words }
  rw [t.env,t1.env,t2.env]
 ·show bothV σp.env.vars _ _ u=none
  unfold bothV
  rw [h.1]
theorem lock_for {p q:Prg} {u x:ByteArray} (m:More p q u) {l:List Kn} {ap aq:TS→TR TS} (ha:LockT u ap aq):LockT u (forT p x l ap) (forT q x l aq):=by
 intro σp σq t h
 unfold forT
 split
 ·exact .er 1 rfl rfl
 by_cases c:x=u
 ·subst c
  refine .q4 ?_
  obtain ⟨d,hd⟩:=m.qu
  rw [if_pos (by unfold takenT; rw [hd]; rfl)]
 ·have e:takenT q σq.env x=takenT p σp.env x:=by unfold takenT; rw [m.same x c,m.ars,t.env]
  rw [e]
  split
  ·exact .er 4 rfl rfl
  ·refine lock_iter (fun n=>?_) _ _ _ _ ⟨?_,t.steps,t.ifs⟩ (noU_setV h c)
   ·intro τp τq t1 h1
    unfold turnT
    refine (lock_step t1 h1).and fun ρp ρq _ _ t2 h2=>?_
    refine (ha { ρp with env:={ ρp.env with loops:=ρp.env.loops ++ [(x,n)] } } { ρq with env:={ ρq.env with loops:=ρq.env.loops ++ [(x,n)] } } ⟨?_,t2.steps,t2.ifs⟩ ⟨h2.1,?_⟩).and fun κp κq _ _ t3 h3=>?_
    ·show ({ ρq.env with loops:=ρq.env.loops ++ [(x,n)] }:TE)={ ρp.env with loops:=ρp.env.loops ++ [(x,n)] }
     rw [t2.env]
    ·show findL u (ρp.env.loops ++ [(x,n)])=none
     cases d:findL u (ρp.env.loops ++ [(x,n)]) with
     | none=>rfl
     | some k =>
      rcases findL_snoc d with g | ⟨_,g,_⟩
      ·rw [h2.2] at g; cases g
      ·exact absurd g.symm c
    ·refine .ok _ _ rfl rfl ⟨?_,t3.steps,t3.ifs⟩ ⟨h3.1,h2.2⟩
     show ({ κq.env with loops:=ρq.env.loops }:TE)={ κp.env with loops:=ρp.env.loops }
     rw [t3.env,t2.env]
   ·simp only [t.env]
theorem locks_of {p q:Prg} {u:ByteArray}:∀ {l:List Stm},(∀ x ∈ l,LockT u (stmtT p x) (stmtT q x))→LockT u (stmtsT p l) (stmtsT q l)
 | [],_=>fun σp σq t h=>by rw [stmtsT,stmtsT]; exact .ok _ _ rfl rfl t h
 | x :: xs,hl=>fun σp σq t h=>by
  rw [stmtsT,stmtsT]
  exact (hl x (by simp) σp σq t h).and fun τp τq _ _ t1 h1=>locks_of (fun y hy=>hl y (by simp [hy])) τp τq t1 h1
theorem lock_stmt {p q:Prg} {u:ByteArray} (m:More p q u) (x:Stm):LockT u (stmtT p x) (stmtT q x):=by
 induction x using Stm.ind with
 | h k y e a b iha ihb =>
  intro σp σq t h
  rw [stmtT,stmtT]
  refine (lock_step t h).and fun τp τq _ _ t1 h1=>?_
  rw [t1.env]
  rcases more_exprs (fun x _=>more_expr m h1 x) (l:=e) with g | g
  ·exact .p4 (by rw [g]; rfl)
  ·rw [g]
   cases exprsT p τp.env e with
   | error er=>exact .er er rfl rfl
   | ok r =>
    rw [andT_ok,andT_ok]
    have t2:TwinT { τq with env:=τp.env,most:=max τq.most r.2 } { τp with most:=max τp.most r.2 }:=⟨rfl,t1.steps,t1.ifs⟩
    unfold stmt1
    split
    ·exact lock_set m _ _ t2 h1
    split
    ·exact lock_store m _ _ t2 h1
    split
    ·exact lock_if (locks_of iha) (locks_of ihb) _ _ t2 h1
    split
    ·exact lock_for m (locks_of iha) _ _ t2 h1
    ·rw [show ({ τq with env:=τp.env,most:=max τq.most r.2 }:TS).ifs=({ τp with most:=max τp.most r.2 }:TS).ifs from t1.ifs]
     split
     ·exact .er 1 rfl rfl
     ·exact .ok _ _ rfl rfl ⟨rfl,t1.steps,rfl⟩ h1
end Go.Ab
namespace Go.Ab
theorem getD_left {α:Type} {a b:List α} {i:Nat} {d:α} (h:i < a.length):(a ++ b).getD i d=a.getD i d:=by
 rw [List.getD_eq_getElem?_getD,List.getD_eq_getElem?_getD,List.getElem?_append_left h]
theorem getD_mid {α:Type} {a:List α} {x d:α}:(a ++ [x]).getD a.length d=x:=by
 rw [List.getD_eq_getElem?_getD,List.getElem?_append_right (Nat.le_refl _),Nat.sub_self]; rfl
theorem fit_more:∀ {l:List InD} {ls:List (List Nat)} {l1:List Nat} {a:List Nat} {k:Nat},a.length=ls.length→(∀ r,fitG l ls a=some r→fitG l (ls ++ [l1]) (a ++ [k])=some (r ++ [k])∧insD l (ls ++ [l1]) (a ++ [k])=insD l ls a∧r.length=ls.length) ∧
  (fitG l ls a=none→∀ r,fitG l (ls ++ [l1]) (a ++ [k])=some r→k < r.getD ls.length 0∧r.length=ls.length + 1)
 | [],ls,l1,a,k,hl=>⟨fun r h=>by rw [fitG] at h ⊢; cases h; exact ⟨rfl,rfl,hl⟩,fun h=>by rw [fitG] at h; cases h⟩
 | d :: ds,ls,l1,a,k,hl=>by
  have mono:∀ {ds:List InD} {ls:List (List Nat)} {a r:List Nat} {i:Nat},fitG ds ls a=some r→a.getD i 0 ≤ r.getD i 0∧r.length=a.length:=by
   intro ds
   induction ds with
   | nil=>intro ls a r i h; rw [fitG] at h; cases h; exact ⟨Nat.le_refl _,rfl⟩
   | cons d ds ih =>
    intro ls a r i h
    rw [fitG] at h
    split at h
    ·obtain ⟨h1,h2⟩:=ih (i:=i) h
     unfold nextD at h1 h2
     rw [List.length_set] at h2
     refine ⟨Nat.le_trans ?_ h1,h2⟩
     rw [List.getD_eq_getElem?_getD,List.getD_eq_getElem?_getD (l:=List.set _ _ _),List.getElem?_set]
     split
     ·rename_i e; subst e
      split
      ·rw [← List.getD_eq_getElem?_getD]; show _ ≤ a.getD (frmD d) 0 + sizeD d; omega
      ·rename_i e; rw [List.getElem?_eq_none (by omega)]; exact Nat.le_refl _
     ·exact Nat.le_refl _
    ·cases h
  by_cases c:frmD d < ls.length
  ·have e1:(ls ++ [l1]).getD (frmD d) []=ls.getD (frmD d) []:=getD_left c
   have e2:(a ++ [k]).getD (frmD d) 0=a.getD (frmD d) 0:=getD_left (by omega)
   have ew:wordsD (ls ++ [l1]) (a ++ [k]) d=wordsD ls a d:=by unfold wordsD; rw [e1,e2]
   have eo:okD (ls ++ [l1]) (a ++ [k]) d ↔ okD ls a d:=by
    unfold okD
    rw [e1,e2,ew,List.length_append]
    exact ⟨fun ⟨_,h2,h3⟩=>⟨c,h2,h3⟩,fun ⟨h1,h2,h3⟩=>⟨by omega,h2,h3⟩⟩
   have en:nextD (a ++ [k]) d=nextD a d ++ [k]:=by unfold nextD; rw [e2,List.set_append_left _ _ (by omega)]
   have hl2:(nextD a d).length=ls.length:=by unfold nextD; rw [List.length_set]; exact hl
   obtain ⟨i1,i2⟩:=fit_more (l:=ds) (ls:=ls) (l1:=l1) (a:=nextD a d) (k:=k) hl2
   rw [fitG,fitG,insD,insD,en,ew]
   by_cases o:okD ls a d
   ·rw [if_pos o,if_pos (eo.2 o)]
    exact ⟨fun r h=>by obtain ⟨j1,j2,j3⟩:=i1 r h; exact ⟨j1,by rw [j2],j3⟩,i2⟩
   ·rw [if_neg o,if_neg (fun h=>o (eo.1 h))]
    exact ⟨fun r h=>(by cases h),fun _ r h=>(by cases h)⟩
  ·have o:¬ okD ls a d:=fun h=>c h.1
   rw [fitG,fitG,if_neg o]
   refine ⟨fun r h=>(by cases h),fun _ r h=>?_⟩
   split at h
   ·rename_i oo
    have hf:frmD d=ls.length:=by
     have:=oo.1
     rw [List.length_append] at this
     have:frmD d < ls.length + 1:=this
     omega
    obtain ⟨m1,m2⟩:=mono (i:=ls.length) h
    have e3:(nextD (a ++ [k]) d).getD ls.length 0=k + sizeD d:=by
     unfold nextD
     rw [hf,← hl,getD_set_self (by simp),getD_mid]
    rw [e3] at m1
    have:1 ≤ sizeD d:=by unfold sizeD; omega
    refine ⟨by omega,?_⟩
    rw [m2]; unfold nextD; rw [List.length_set,List.length_append,hl]; rfl
   ·cases h
theorem at0_more {ls:List (List Nat)} {l1:List Nat}:atI0 (ls ++ [l1])=atI0 ls ++ [0]:=by
 unfold atI0; rw [List.length_append]; exact List.replicate_succ'
theorem lens_more {ls:List (List Nat)} {l1:List Nat}:(ls ++ [l1]).map List.length=ls.map List.length ++ [l1.length]:=by rw [List.map_append]; rfl
theorem nil_more {p:Prg} {ls:List (List Nat)}:fitB p (ls ++ [[]])=fitB p ls∧(fitB p ls=true→startX p (ls ++ [[]])=startX p ls):=by
 obtain ⟨h1,h2⟩:=fit_more (l:=p.ins) (ls:=ls) (l1:=[]) (a:=atI0 ls) (k:=0) (by unfold atI0; rw [List.length_replicate])
 rw [← at0_more] at h1 h2
 have key:fitB p (ls ++ [[]])=fitEnd (ls ++ [[]]) (fitG p.ins (ls ++ [[]]) (atI0 (ls ++ [[]]))):=rfl
 have key2:fitB p ls=fitEnd ls (fitG p.ins ls (atI0 ls)):=rfl
 rw [key,key2]
 cases c:fitG p.ins ls (atI0 ls) with
 | some r =>
  obtain ⟨g1,g2,g3⟩:=h1 r c
  rw [g1]
  refine ⟨?_,fun _=>by unfold startX; rw [g2]⟩
  show decide (r ++ [0]=(ls ++ [[]]).map List.length)=decide (r=ls.map List.length)
  rw [lens_more]
  have:(r ++ [0]=ls.map List.length ++ [([]:List Nat).length]) ↔ r=ls.map List.length:=by
   rw [show ([]:List Nat).length=0 from rfl]
   exact ⟨fun h=>List.append_cancel_right h,fun h=>by rw [h]⟩
  simp only [this]
 | none =>
  refine ⟨?_,fun h=>by cases h⟩
  cases d:fitG p.ins (ls ++ [[]]) (atI0 (ls ++ [[]])) with
  | none=>rfl
  | some r =>
   have g:=(h2 c r d).1
   refine decide_eq_false fun e=>?_
   rw [e,lens_more,show ls.length=(ls.map List.length).length by rw [List.length_map],getD_mid] at g
   exact absurd g (by decide)
theorem nil_res {p:Prg} {ls:List (List Nat)}:errI p (ls ++ [[]])=errI p ls∧resX p (ls ++ [[]])=resX p ls:=by
 obtain ⟨h1,h2⟩:=nil_more (p:=p) (ls:=ls)
 have e:errI p (ls ++ [[]])=errI p ls:=by unfold errI; rw [h1]
 refine ⟨e,?_⟩
 unfold resX
 rw [e]
 split
 ·rename_i h
  unfold outX
  rw [h2 (by
   unfold errI at h
   by_cases c:errT (checkT p)=0
   ·rw [if_neg (by simp [c])] at h
    cases q:fitB p ls with
    | true=>rfl
    | false=>rw [q] at h; exact absurd h (by decide)
   ·rw [if_pos c] at h; exact absurd h c)]
 ·rfl
end Go.Ab
namespace Go.Ab
theorem fitG_app:∀ {a b:List InD} {ls:List (List Nat)} {x:List Nat},fitG (a ++ b) ls x=match fitG a ls x with | some y=>fitG b ls y | none=>none
 | [],b,ls,x=>by rw [List.nil_append,fitG]
 | d :: ds,b,ls,x=>by
  rw [List.cons_append,fitG,fitG]
  split
  ·exact fitG_app
  ·rfl
theorem insD_app:∀ {a b:List InD} {ls:List (List Nat)} {x y:List Nat},fitG a ls x=some y→insD (a ++ b) ls x=insD a ls x ++ insD b ls y
 | [],b,ls,x,y,h=>by rw [fitG] at h; cases h; rw [List.nil_append,insD,List.nil_append]
 | d :: ds,b,ls,x,y,h=>by
  rw [fitG] at h
  split at h
  ·rw [List.cons_append,insD,insD,insD_app h,List.cons_append]
  ·cases h
def moreD (u:ByteArray) (n:Nat):InD:=⟨u,(n + 1:Nat),16,0⟩
theorem more_frm {u:ByteArray} {n:Nat}:frmD (moreD u n)=n:=by unfold frmD moreD; simp only; omega
theorem more_size {u:ByteArray} {n:Nat}:sizeD (moreD u n)=1:=rfl
theorem more_ok {u:ByteArray} {ls:List (List Nat)} {w:Nat} {r:List Nat} (hw:w < 65536) (hl:r.length=ls.length):fitG [moreD u ls.length] (ls ++ [[w]]) (r ++ [0])=some (r ++ [1])∧insD [moreD u ls.length] (ls ++ [[w]]) (r ++ [0])=[(moreD u ls.length,[w])]:=by
 have e1:(ls ++ [[w]]).getD ls.length []=[w]:=getD_mid
 have e2:(r ++ [0]).getD ls.length 0=0:=by rw [← hl]; exact getD_mid
 have ew:wordsD (ls ++ [[w]]) (r ++ [0]) (moreD u ls.length)=[w]:=by unfold wordsD; rw [more_frm,e1,e2]; rfl
 have o:okD (ls ++ [[w]]) (r ++ [0]) (moreD u ls.length):=by
  unfold okD
  rw [ew,more_frm,e1,e2,List.length_append]
  exact ⟨Nat.lt_succ_self _,Nat.le_refl _,fun v hv=>by rw [List.mem_singleton] at hv; subst hv; exact hw⟩
 rw [fitG,if_pos o,fitG,insD,insD,ew]
 refine ⟨?_,rfl⟩
 unfold nextD
 rw [more_frm,e2,← hl,List.set_append_right _ _ (Nat.le_refl _),Nat.sub_self]; rfl
theorem more_fit {p q:Prg} {u:ByteArray} {ls:List (List Nat)} {w:Nat} (hi:q.ins=p.ins ++ [moreD u ls.length]) (hw:w < 65536) :
  fitB q (ls ++ [[w]])=fitB p ls∧(fitB p ls=true→insD q.ins (ls ++ [[w]]) (atI0 (ls ++ [[w]]))=insD p.ins ls (atI0 ls) ++ [(moreD u ls.length,[w])]):=by
 obtain ⟨h1,h2⟩:=fit_more (l:=p.ins) (ls:=ls) (l1:=[w]) (a:=atI0 ls) (k:=0) (by unfold atI0; rw [List.length_replicate])
 rw [← at0_more] at h1 h2
 have key:fitB q (ls ++ [[w]])=fitEnd (ls ++ [[w]]) (fitG q.ins (ls ++ [[w]]) (atI0 (ls ++ [[w]]))):=rfl
 have key2:fitB p ls=fitEnd ls (fitG p.ins ls (atI0 ls)):=rfl
 rw [key,key2,hi,fitG_app]
 cases c:fitG p.ins ls (atI0 ls) with
 | some r =>
  obtain ⟨g1,g2,g3⟩:=h1 r c
  obtain ⟨m1,m2⟩:=more_ok (u:=u) hw g3
  rw [g1,insD_app g1,m2,g2]
  simp only
  rw [m1]
  refine ⟨?_,fun _=>trivial⟩
  show decide (r ++ [1]=(ls ++ [[w]]).map List.length)=decide (r=ls.map List.length)
  rw [lens_more]
  have:(r ++ [1]=ls.map List.length ++ [[w].length]) ↔ r=ls.map List.length:=by
   rw [show [w].length=1 from rfl]
   exact ⟨fun h=>List.append_cancel_right h,fun h=>by rw [h]⟩
  simp only [this]
 | none =>
  refine ⟨?_,fun h=>(by cases h)⟩
  cases d:fitG p.ins (ls ++ [[w]]) (atI0 (ls ++ [[w]])) with
  | none=>rfl
  | some r =>
   obtain ⟨g1,g2⟩:=h2 c r d
   have o:¬ okD (ls ++ [[w]]) r (moreD u ls.length):=fun hh=>by
    have h3:=hh.2.1
    rw [more_frm,more_size,show (ls ++ [[w]]).getD ls.length []=[w] from getD_mid] at h3
    have h3:r.getD ls.length 0 + 1 ≤ 1:=h3
    omega
   simp only
   rw [fitG,if_neg o]; rfl
theorem more_res {p q:Prg} (v:VT p) {u:ByteArray} {ls:List (List Nat)} {w:Nat} (hi:q.ins=p.ins ++ [moreD u ls.length]) (ha:q.arrays=p.arrays) (hb:q.body=p.body) (hw:w < 65536) :
  errI p ls=4∨errI q (ls ++ [[w]])=4∨(errI q (ls ++ [[w]])=errI p ls∧resX q (ls ++ [[w]])=resX p ls):=by
 by_cases hu:unlikeT q=true
 rotate_left
 ·right; left
  refine errI_of_error ?_ (by decide)
  unfold checkT
  rw [if_neg hu]
 have hn:=of_decide_eq_true hu
 rw [hi,ha,List.map_append,List.map_cons,List.map_nil,List.append_assoc] at hn
 have hn2:=List.nodup_append.1 hn
 have hup:unlikeT p=true:=decide_eq_true (List.nodup_append.2 ⟨hn2.1,(List.nodup_cons.1 (by simpa using hn2.2.1)).2,fun a ha' b hb' e=>hn2.2.2 a ha' b (List.mem_append_right _ hb') e⟩)
 have hui:u ∉ p.ins.map InD.name:=fun hh=>hn2.2.2 u hh u (by simp [moreD]) rfl
 have hua:u ∉ p.arrays.map ArD.name:=(List.nodup_cons.1 (show (u :: p.arrays.map ArD.name).Nodup by simpa [moreD] using hn2.2.1)).1
 have M:More p q u:=by
  refine ⟨ha,?_,?_,⟨moreD u ls.length,?_⟩,fun x hx=>?_⟩
  ·cases c:inOf p u with
   | none=>rfl
   | some d =>
    obtain ⟨m1,m2⟩:=inOf_mem c
    exact absurd (List.mem_map.2 ⟨d,m1,m2⟩) hui
  ·cases c:arOf p u with
   | none=>rfl
   | some i =>
    obtain ⟨d,m1,m2,_⟩:=arOf_some c
    exact absurd (List.mem_map.2 ⟨d,List.mem_of_getElem? m1,m2⟩) hua
  ·unfold inOf
   rw [hi,List.find?_append]
   have:p.ins.find? (fun d=>decide (d.name=u))=none:=by
    rw [List.find?_eq_none]
    intro d hd hh
    exact hui (List.mem_map.2 ⟨d,hd,of_decide_eq_true hh⟩)
   rw [this,Option.none_or,List.find?_cons,show decide ((moreD u ls.length).name=u)=true from decide_eq_true rfl]
  ·unfold inOf
   rw [hi,List.find?_append]
   have:List.find? (fun d=>decide (d.name=x)) [moreD u ls.length]=none:=by
    rw [List.find?_cons,show decide ((moreD u ls.length).name=x)=false from decide_eq_false (fun e=>hx e.symm)]; rfl
   rw [this]
   cases p.ins.find? (fun d=>decide (d.name=x)) <;> rfl
 have hcp:checkT p=stmtsT p p.body (initT p):=by unfold checkT; rw [if_pos hup]
 have hcq:checkT q=stmtsT q p.body (initT q):=by unfold checkT; rw [if_pos hu,hb]
 have tw:TwinT (initT q) (initT p):=⟨by unfold initT; rw [ha],rfl,rfl⟩
 obtain ⟨f1,f2⟩:=more_fit (u:=u) hi hw
 cases locks_of (fun x _=>lock_stmt M x) (l:=p.body) (initT p) (initT q) tw ⟨rfl,rfl⟩ with
 | p4 h=>exact .inl (errI_of_error (hcp.trans h) (by decide))
 | q4 h=>exact .inr (.inl (errI_of_error (hcq.trans h) (by decide)))
 | er e h1 h2 =>
  have hne:=checkT_nz e (hcp.trans h1)
  have e1:=errI_of_error (ls:=ls) (hcp.trans h1) hne
  have e2:=errI_of_error (ls:=ls ++ [[w]]) (hcq.trans h2) hne
  refine .inr (.inr ⟨by rw [e1,e2],?_⟩)
  unfold resX
  rw [e1,e2,if_neg hne,if_neg hne]
 | ok σp σq h1 h2 t n =>
  have e1:=errI_of_ok (ls:=ls) (hcp.trans h1)
  have e2:=errI_of_ok (ls:=ls ++ [[w]]) (hcq.trans h2)
  rw [f1] at e2
  refine .inr (.inr ⟨by rw [e1,e2],?_⟩)
  unfold resX
  rw [e1,e2]
  split
  ·rename_i hf
   have hfit:fitB p ls=true:=by
    cases q:fitB p ls with
    | true=>rfl
    | false=>rw [q] at hf; exact absurd hf (by decide)
   have hp:=PV_of v hup
   have hin:=f2 hfit
   have q0:EqS p (initT p).env (startX q (ls ++ [[w]])) (startX p ls):=by
    refine ⟨fun x r hr=>?_,?_,by unfold startX; rw [ha],rfl⟩
    ·have hx:x ≠ u:=fun e=>by subst e; exact nameT_no rfl rfl M.iu hr
     show findL x (scalL (insD q.ins (ls ++ [[w]]) (atI0 (ls ++ [[w]]))))=findL x (scalL (insD p.ins ls (atI0 ls)))
     rw [hin,scalL_app]
     cases c:findL x (scalL (insD p.ins ls (atI0 ls))) with
     | some k=>exact findL_app_some c
     | none =>
      rw [findL_app c]
      show findL x [(u,w)]=none
      unfold findL
      rw [if_neg (fun e=>hx e.symm)]; rfl
    ·funext y
     show (findL y (arrL (insD q.ins (ls ++ [[w]]) (atI0 (ls ++ [[w]]))))).getD []=(findL y (arrL (insD p.ins ls (atI0 ls)))).getD []
     rw [hin,arrL_app]
     show (findL y (arrL (insD p.ins ls (atI0 ls)) ++ [])).getD []=_
     rw [List.append_nil]
   unfold outX
   rw [runs_body (p:=p) (p':=q) ha,hb]
   exact (stmts_same hp v.body (initT p) σp (startX q (ls ++ [[w]])) (startX p ls) (TOk_init v.ins v.ars) (ag_start hp hfit) q0 h1).told
  ·rfl
end Go.Ab
namespace Go.Ab
def nUn:ByteArray:=⟨#[117,110,110,97,109,101,100]⟩
theorem nUn_size:nUn.size ≤ maxLen:=by rw [maxLen_eq]; decide
def Prg.more (p:Prg) (n:Nat):Prg:=⟨p.ins ++ [moreD nUn n],p.arrays,p.body⟩
theorem lv_elems {ls:List (List Nat)}:∀ e ∈ ls.map (fun l=>V.vec (Ws l) .any),e.cells.length=1∧mkEl false e.cells=e:=by
 intro e he
 obtain ⟨x,_,rfl⟩:=List.mem_map.1 he
 exact ⟨rfl,rfl⟩
theorem lv_cells {ls:List (List Nat)}:∀ e ∈ ls.map (fun l=>V.vec (Ws l) .any),e.cells.length=1:=fun e he=>(lv_elems e he).1
theorem ins_elems {l:List InD}:∀ e ∈ l.map InD.v,e.cells.length=4∧mkEl true e.cells=e:=by
 intro e he
 obtain ⟨x,_,rfl⟩:=List.mem_map.1 he
 exact ⟨rfl,rfl⟩
theorem ins_cells {l:List InD}:∀ e ∈ l.map InD.v,e.cells.length=4:=fun e he=>(ins_elems e he).1
theorem ins_len:∀ {l:List InD},l.length ≤ V.bulks (l.map InD.v)
 | []=>Nat.zero_le _
 | x :: l=>by
  rw [List.length_cons,List.map_cons,V.bulks]
  have:=ins_len (l:=l)
  have h6:1 ≤ x.v.bulk:=by simp only [InD.v,V.bulk]; omega
  omega
theorem more_pok {p:Prg} (ok:POk p) (hb:p.v.bulk ≤ 1048576) {n:Nat} (hn:n ≤ 20):POk (p.more n)∧(p.more n).v.bulk ≤ 20000000:=by
 have hm:=maxLen_eq
 rw [prg_bulk] at hb
 have h1:=ins_len (l:=p.ins)
 refine ⟨⟨fun x hx=>?_,ok.arrays,ok.body,by show (p.ins ++ [moreD nUn n]).length ≤ maxLen; rw [List.length_append,List.length_singleton]; omega,ok.la,ok.lb⟩,?_⟩
 ·have hx:x ∈ p.ins ++ [moreD nUn n]:=hx
  rcases List.mem_append.1 hx with hx | hx
  ·exact ok.ins x hx
  ·rw [List.mem_singleton] at hx; subst hx
   exact ⟨i64 (show (0:Int) ≤ ((n + 1:Nat):Int) by omega) (show ((n + 1:Nat):Int) ≤ 100 by omega),i64 (show (0:Int) ≤ 16 by decide) (show (16:Int) ≤ 100 by decide),i64 (show (0:Int) ≤ 0 by decide) (show (0:Int) ≤ 100 by decide),nUn_size⟩
 ·rw [prg_bulk]
  show 4 + V.bulks ((p.ins ++ [moreD nUn n]).map InD.v) + V.bulks (p.arrays.map ArD.v) + V.bulks (p.body.map Stm.v) ≤ 20000000
  rw [List.map_append,bulks_app]
  have:V.bulks ([moreD nUn n].map InD.v) ≤ 1000:=by simp only [List.map_cons,List.map_nil,V.bulks,InD.v,InD.cells,V.bulk,moreD]; decide
  omega
theorem lok_more {ls:List (List Nat)} (l13:ls.length ≤ 20) (h:LsOk ls) {l:List Nat} (hl:l.length ≤ 1) (hw:∀ v ∈ l,v < 65536):LsOk (ls ++ [l]):=⟨by rw [List.length_append,List.length_singleton]; omega,fun x hx=>by
 rcases List.mem_append.1 hx with hx | hx
 ·exact h.all x hx
 ·rw [List.mem_singleton] at hx; subst hx
  exact ⟨by omega,fun v hv=>by have:=hw v hv; omega⟩⟩
namespace YtljoifdccjcidaaDoor
section
variable {h:H} {K:Out→H→Prop}
theorem unused30 {p:Prg} {ls:List (List Nat)} {w:Nat} (ok:POk p) (hb:p.v.bulk ≤ 1048576) (hl:ls.length ≤ maxLen) (hw:WordsOk ls) (hwd:w < 65536) (hK:∀ h',K (.ret (.bool true)) h'):R 6 [p.v,LV ls,.int .u16 w] h K:=by
 refine run6 (Nat.le_of_ble_eq_true rfl) ?_
 have hv0:p.v=V.agg [.vec (p.ins.map InD.v) .any,.vec (p.arrays.map ArD.v) .any,.vec (p.body.map Stm.v) .any]:=rfl
 have hL:LV ls=.vec (ls.map fun l=>.vec (Ws l) .any) .any:=rfl
 have wx:IntKind.u64.wrap (w:Int)=(w:Int):=by rw [wrap_u64_self] <;> omega
 simp -dsimp -implicitDefEqProofs only [↓STP,STQ,seval,ir6,hv0,hL]
 refine awake30 fun h1 u1=>?_
 simp -dsimp -implicitDefEqProofs only [↓STP,STQ,seval]
 rw [← hv0,← hL]
 refine few30 ok (by omega) hl hw fun b hvl=>?_
 cases b with
 | false =>
  simp -dsimp -implicitDefEqProofs only [↓STP,STQ,seval]
  exact hK _
 | true =>
 obtain ⟨vp,l20,l200⟩:=hvl rfl
 have v:=vp.vt ok
 have lok:LsOk ls:=⟨by omega,fun l hl=>⟨by have:=l200 l hl; omega,hw l hl⟩⟩
 by_cases c13:(13:Int) ≤ (ls.length:Int)
 ·simp -dsimp -implicitDefEqProofs only [↓STP,STQ,seval,hL,List.length_map,eq_true c13]
  exact hK _
 simp -dsimp -implicitDefEqProofs only [↓STP,STQ,seval,hv0,hL,List.length_map,eq_false c13]
 refine runI' (p:=p) (ls:=ls) rfl rfl v lok fun h2 r1 u2 w1=>?_
 have n0:=nil_res (p:=p) (ls:=ls)
 obtain ⟨okq,hbq⟩:=more_pok ok hb (n:=ls.length) (by omega)
 have hins:=ins_len (l:=p.ins)
 have hpl:p.ins.length ≤ 1048576:=by rw [prg_bulk] at hb; omega
 have hq0:(p.more ls.length).v=V.agg [.vec (p.ins.map InD.v ++ [V.agg [.str nUn,I ((ls.length + 1:Nat):Int),.int .i64 16,.int .i64 0]]) .any,.vec (p.arrays.map ArD.v) .any,.vec (p.body.map Stm.v) .any]:=by
  simp only [Prg.v,Prg.cells,Prg.more,List.map_append,List.map_cons,List.map_nil]; rfl
 have wl:=wiM (show ls.length < 9223372036854775807 by omega)
 have lf:=(res_facts v (ls:=ls)).1
 rcases w1.shape with rfl | ⟨id1,rfl⟩
 all_goals
  simp -dsimp -implicitDefEqProofs only [↓STP,STQ,seval,hv0,hL]
  rw [app_fullA (sz:=1) (by simp) lv_elems (by decide) (by decide) (by rw [List.length_nil,List.length_map]; omega)]
  simp -dsimp -implicitDefEqProofs only [↓STP,STQ,seval,List.nil_append]
  rw [app_capA (sz:=1) (by simp) lv_cells (by intro e he; rw [List.mem_singleton] at he; subst he; exact ⟨rfl,rfl⟩) (by decide) (by decide) (by rw [List.length_map]; show ls.length + 1 ≤ 4294967296; omega)]
  simp -dsimp -implicitDefEqProofs only [↓STP,STQ,seval]
  refine runI' (p:=p) (ls:=ls ++ [[]]) rfl (by unfold LV; rw [List.map_append]; rfl) v (lok_more l20 lok (by decide) (by simp)) fun h3 r2 u3 w2=>?_
  rw [n0.2] at w2
  rw [n0.1]
  rcases w2.shape with rfl | ⟨id2,rfl⟩
  all_goals
   simp -dsimp -implicitDefEqProofs only [↓STP,STQ,seval,storeV,hL,List.length_map]
   rw [app_fullA (sz:=4) (by simp) ins_elems (by decide) (by decide) (by rw [List.length_nil,List.length_map]; omega)]
   simp -dsimp -implicitDefEqProofs only [↓STP,STQ,seval,List.nil_append,List.length_map,wl]
   rw [app_capA (sz:=4) (by unfold useB; split <;> (try split) <;> simp) ins_cells (by intro e he; rw [List.mem_singleton] at he; subst he; exact ⟨rfl,rfl⟩) (by decide) (by decide) (by rw [List.length_map]; show p.ins.length + 1 ≤ 4294967296; omega)]
   simp -dsimp -implicitDefEqProofs only [↓STP,STQ,seval,storeV]
   refine few30' (p:=p.more ls.length) (ls:=ls) hq0.symm rfl okq hbq hl hw fun b hvq=>?_
   cases b with
   | false =>
    simp -dsimp -implicitDefEqProofs only [↓STP,STQ,seval]
    exact hK _
   | true =>
   have vq:=(hvq rfl).1.vt okq
   simp -dsimp -implicitDefEqProofs only [↓STP,STQ,seval,hL]
   rw [app_fullA (sz:=1) (by simp) lv_elems (by decide) (by decide) (by rw [List.length_nil,List.length_map]; omega)]
   simp -dsimp -implicitDefEqProofs only [↓STP,STQ,seval,List.nil_append]
   rw [app_capA (sz:=1) (by unfold useB; split <;> (try split) <;> simp) lv_cells (by intro e he; rw [List.mem_singleton] at he; subst he; exact ⟨rfl,rfl⟩) (by decide) (by decide) (by rw [List.length_map]; show ls.length + 1 ≤ 4294967296; omega)]
   simp -dsimp -implicitDefEqProofs only [↓STP,STQ,seval,wx]
   refine runI' (p:=p.more ls.length) (ls:=ls ++ [[w]]) hq0.symm (by unfold LV; rw [List.map_append]; rfl) vq (lok_more l20 lok (by simp) (by simpa using hwd)) fun h4 r3 u4 w3=>?_
   have mr:=more_res v (q:=p.more ls.length) (u:=nUn) (ls:=ls) (w:=w) rfl rfl rfl hwd
   have x1:=(w1.frame u3.nx u3.old).frame u4.nx u4.old
   have x2:=w2.frame u4.nx u4.old
   rcases w3.shape with rfl | ⟨id3,rfl⟩
   all_goals
    by_cases dG:errI (p.more ls.length) (ls ++ [[w]])=4
    ·simp -dsimp -implicitDefEqProofs only [↓STP,STQ,seval,eq_true dG]
     refine same03W x1 x2 lf ?_
     rw [decide_eq_true rfl]
     simp -dsimp -implicitDefEqProofs only [↓STP,STQ,seval]
     exact hK _
    by_cases dE:errI p ls=4
    ·simp -dsimp -implicitDefEqProofs only [↓STP,STQ,seval,eq_false dG,eq_true dE]
     refine same03W x1 x2 lf ?_
     rw [decide_eq_true rfl]
     simp -dsimp -implicitDefEqProofs only [↓STP,STQ,seval]
     exact hK _
    rcases mr with c | c | ⟨c1,c2⟩
    ·exact absurd c dE
    ·exact absurd c dG
    simp -dsimp -implicitDefEqProofs only [↓STP,STQ,seval,eq_false dG,eq_false dE,c1]
    refine same03W x1 x2 lf ?_
    rw [decide_eq_true rfl]
    simp -dsimp -implicitDefEqProofs only [↓STP,STQ,seval]
    refine same03W x1 w3 lf ?_
    rw [decide_eq_true c2.symm]
    simp -dsimp -implicitDefEqProofs only [↓STP,STQ,seval]
    exact hK _
end
end YtljoifdccjcidaaDoor
end Go.Ab
namespace Go.Ab
theorem blen_half {n:Nat} (h:1 < n):max (blen n) 1=max (blen (n / 2)) 1 + 1:=by
 have h1:blen n=1 + blen (n / 2):=blen_pos (by omega)
 have h2:blen (n / 2)=1 + blen (n / 2 / 2):=blen_pos (by omega)
 omega
theorem blen_small {n:Nat} (h:n ≤ 1):max (blen n) 1=1:=by
 have:=(blen_le (k:=1) (n:=n)).2 (by omega)
 omega
namespace YtljoifdccjcidaaDoor
section
variable {h:H} {K:Out→H→Prop} {p:Prg}
theorem width02 {n:Nat} (hn:n < 18446744073709551616) (hK:K (.ret (I ((max (blen n) 1:Nat):Int))) h):R 38 [W n] h K:=by
 refine run38 (Nat.le_of_ble_eq_true rfl) ?_
 simp -dsimp -implicitDefEqProofs only [↓STP,STQ,seval,ir38]
 have hb64:max (blen n) 1 ≤ 64:=by have:=(blen_le (k:=64) (n:=n)).2 (by omega); omega
 refine codeT_loop (fun c s'=>∃ (k w:Nat),c=k∧k ≤ n∧(max (blen k) 1) + w=max (blen n) 1 + 1∧s'=⟨upd (upd ρ0 0 (W k)) 3 (I w),m0,0,[],h⟩) (i:=n) ⟨n,1,rfl,Nat.le_refl _,rfl,by simp -dsimp -implicitDefEqProofs only [↓STP,STQ,seval] <;> rfl⟩ ?_ mono
 rintro c s' ⟨k,w,rfl,hkn,hw,rfl⟩
 by_cases h1:1 < c
 ·have h1':(1:Int) < (c:Int):=by omega
  have g1:IntKind.u64.wrap (Int.tdiv (c:Int) 2)=((c / 2:Nat):Int):=by
   show IntKind.u64.wrap ((c / 2:Nat):Int)=_
   rw [wrap_u64_self] <;> omega
  have hh:=blen_half h1
  have g2:=wiM (show w < 9223372036854775807 by omega)
  simp -dsimp -implicitDefEqProofs only [↓STP,STQ,seval,eq_true h1',g1,g2]
  exact ⟨c / 2,by omega,c / 2,w + 1,rfl,by omega,by omega,rfl⟩
 ·have h1':¬ (1:Int) < (c:Int):=by omega
  have hh:=blen_small (n:=c) (by omega)
  simp -dsimp -implicitDefEqProofs only [↓STP,STQ,seval,eq_false h1']
  have e:w=max (blen n) 1:=by omega
  rw [e]
  exact hK
theorem words30 {d:InD} (h0:0 ≤ d.size) (hK:K (.ret (I ((sizeD d:Nat):Int))) h):R 32 [d.v] h K:=by
 refine run32 (Nat.le_of_ble_eq_true rfl) ?_
 by_cases c:(0:Int) < d.size
 ·have e:d.size=((sizeD d:Nat):Int):=by unfold sizeD; omega
  simp -dsimp -implicitDefEqProofs only [↓STP,STQ,seval,inV_cells,ir32,eq_true c]
  rw [e]
  exact hK
 ·have e:sizeD d=1:=by unfold sizeD; omega
  rw [e] at hK
  simp -dsimp -implicitDefEqProofs only [↓STP,STQ,seval,inV_cells,ir32,eq_false c]
  exact hK
theorem words30' {d:InD} {N:Nat} {vd:V} (hd:vd=d.v) (h0:0 ≤ d.size) (hN:sizeD d=N) (hK:K (.ret (I ((N:Nat):Int))) h):R 32 [vd] h K:=by subst hd hN; exact words30 h0 hK
theorem fit30 (v:VT p) {ls:List (List Nat)} (ok:LsOk ls) (hK:∀ h',UpH h h'→K (.ret (.bool (fitB p ls))) h'):R 25 [p.v,LV ls] h K:=by
 refine run25 (Nat.le_of_ble_eq_true rfl) ?_
 have hlen:=ok.len
 have pli:=v.ok.li
 have hm:=maxLen_eq
 simp -dsimp -implicitDefEqProofs only [↓STP,STQ,seval,Prg.v,Prg.cells,LV,ir25,List.length_map,mksN_ok (n:=ls.length) (sz:=1) (bytes:=8) (by omega) (by decide) (by decide),natVs_zero]
 unfold fitB at hK
 refine codeT_loop (fun c s'=>∃ j a h',j ≤ p.ins.length∧c=p.ins.length - j∧a.length=ls.length∧fitG (p.ins.drop j) ls a=fitG p.ins ls (List.replicate ls.length 0)∧h'.objs h.next=some (.cells (natVs a))∧h'.next=h.next + 1∧(∀ i,i < h.next→h'.objs i=h.objs i) ∧
  s'=⟨upd (upd (upd (upd ρ0 1 (LV ls)) 2 (.lptr 0 3 0)) 5 (.ref h.next 0 ls.length 1)) 6 (I j),upd m0 0 (some [.vec (p.ins.map InD.v) .any,.vec (p.arrays.map ArD.v) .any,.vec (p.body.map Stm.v) .any]),1,[],h'⟩)
  (i:=p.ins.length) ⟨0,List.replicate ls.length 0,_,Nat.zero_le _,rfl,by simp,rfl,by rw [new_objs,if_pos rfl],rfl,fun i hi=>by rw [new_objs,if_neg (Nat.ne_of_lt hi)],by simp -dsimp -implicitDefEqProofs only [↓STP,STQ,seval,LV] <;> rfl⟩ ?_ mono
 rintro c s' ⟨j,a,h',hj,rfl,hal,hr,ho,hn,hold,rfl⟩
 rcases Nat.lt_or_ge j p.ins.length with hi | hi
 ·have hget:=get_map (f:=InD.v) hi
  have hdm:p.ins[j] ∈ p.ins:=List.getElem_mem hi
  have hdi:=v.ins _ hdm
  have w1:=wiM (show j < 9223372036854775807 by omega)
  have hdr:p.ins.drop j=p.ins[j] :: p.ins.drop (j + 1):=List.drop_eq_getElem_cons hi
  rw [hdr,fitG] at hr
  generalize p.ins[j]=d at *
  by_cases hfr:(ls.length:Int) < d.frm
  ·have hno:¬ okD ls a d:=fun hh=>by have:=hh.1; unfold frmD at this; have:=hdi.f1; omega
   rw [if_neg hno] at hr
   rw [← hr] at hK
   simp -dsimp -implicitDefEqProofs only [↓STP,STQ,seval,Int.ofNat_lt,hi,hget,inV_cells,storeV,LV,List.length_map,eq_true hfr]
   exact hK h' ⟨by omega,hold⟩
  have hf1:=hdi.f1
  have hf:frmD d < ls.length:=by unfold frmD; omega
  have hf2:=hdi.f2
  have efr:((frmD d:Nat):Int)=d.frm - 1:=by unfold frmD; omega
  have hfI:IntKind.i64.wrap (d.frm - 1)=((frmD d:Nat):Int):=by
   rw [efr,wrap_i64] <;> omega
  have hsz:sizeD d ≤ 64:=by have:=hdi.s2; unfold sizeD; omega
  have gl:=LV_get hf
  obtain ⟨okl,okw⟩:=ok.get (frmD d)
  simp -dsimp -implicitDefEqProofs only [↓STP,STQ,seval,Int.ofNat_lt,hi,hget,inV_cells,storeV,LV,List.length_map,eq_false hfr]
  have hyes:okD ls a d→fitG (p.ins.drop (j + 1)) ls (nextD a d)=fitG p.ins ls (List.replicate ls.length 0):=fun q=>by rw [if_pos q] at hr; exact hr
  have hnot:¬ okD ls a d→none=fitG p.ins ls (List.replicate ls.length 0):=fun q=>by rw [if_neg q] at hr; exact hr
  clear hr
  unfold okD wordsD at hyes hnot
  unfold nextD at hyes
  generalize hfd:frmD d=f at *
  generalize hld:ls.getD f []=l at *
  generalize hkd:a.getD f 0=k0 at *
  generalize hsd:sizeD d=N at *
  have hfa:f < a.length:=by omega
  refine codeT_loop (fun c s'=>∃ i h'',i ≤ N∧c=N - i∧(i=0∨k0 + i ≤ l.length)∧(∀ v ∈ (l.drop k0).take i,v < 2 ^ d.width.toNat)∧h''.objs h.next=some (.cells (natVs (a.set f (k0 + i))))∧h''.next=h.next + 1∧(∀ i,i < h.next→h''.objs i=h.objs i) ∧
   s'=⟨upd (upd (upd (upd (upd (upd ρ0 1 (LV ls)) 2 (.lptr 0 3 0)) 5 (.ref h.next 0 ls.length 1)) 6 (I j)) 7 (.lptr 1 4 0)) 8 (I i),upd (upd m0 0 (some [.vec (p.ins.map InD.v) .any,.vec (p.arrays.map ArD.v) .any,.vec (p.body.map Stm.v) .any])) 1 (some [.str d.name,I d.frm,I d.width,I d.size]),2,[],h''⟩)
   (i:=N) ⟨0,h',Nat.zero_le _,rfl,.inl rfl,by simp,by
    have e:a.set f (k0 + 0)=a:=by
     apply List.ext_getElem?
     intro q
     rw [List.getElem?_set]
     split
     ·rename_i e; subst e
      rw [← hkd,List.getD_eq_getElem?_getD,List.getElem?_eq_getElem hfa]; rfl
     ·rfl
    rw [e]; exact ho,hn,hold,by simp -dsimp -implicitDefEqProofs only [↓STP,STQ,seval,LV] <;> rfl⟩ ?_ mono
  rintro c s' ⟨i,h'',hiN,rfl,hki,hws,ho2,hn2,hold2,rfl⟩
  have g2:=get_of ho2
  have lset:(a.set f (k0 + i)).length=a.length:=List.length_set
  have ga:=natVs_get (l:=a.set f (k0 + i)) (i:=f) (by omega)
  rw [getD_set_self hfa] at ga
  have hfI':((f:Nat):Int) < ((ls.length:Nat):Int):=by omega
  simp -dsimp -implicitDefEqProofs only [↓STP,STQ,seval,LV]
  refine words30' (d:=d) (N:=N) rfl hdi.s1 hsd ?_
  by_cases hlt:i < N
  ·have hltI:((i:Nat):Int) < ((N:Nat):Int):=by omega
   by_cases hge:l.length ≤ k0 + i
   ·have hgeI:((l.length:Nat):Int) ≤ ((k0 + i:Nat):Int):=by omega
    rw [← hnot (by rintro ⟨_,h2,_⟩; omega)] at hK
    simp -dsimp -implicitDefEqProofs only [↓STP,STQ,seval,eq_true hltI,LV,hfI,gl,inV_cells,InD.v_cells,eq_true hfI',Nat.mul_one,g2,ga,Ws_length,eq_true hgeI]
    exact hK h'' ⟨by omega,hold2⟩
   ·have hgeI:¬ ((l.length:Nat):Int) ≤ ((k0 + i:Nat):Int):=by omega
    have hkl:k0 + i < l.length:=by omega
    have hklI:((k0 + i:Nat):Int) < ((l.length:Nat):Int):=by omega
    have gw:=Ws_getD hkl
    have hvm:=mem_words hkl hlt
    have hv64:l.getD (k0 + i) 0 < 18446744073709551616:=okw _ (List.mem_of_mem_drop (List.mem_of_mem_take hvm))
    have htw:=take_words hkl
    have wf:=width_fits (n:=l.getD (k0 + i) 0) hdi.w1
    generalize l.getD (k0 + i) 0=v0 at *
    have w2:IntKind.i64.wrap (((k0 + i:Nat):Int) + 1)=((k0 + (i + 1):Nat):Int):=by rw [wrap_i64] <;> omega
    have w3:=wiM (show i < 9223372036854775807 by omega)
    have stw:=fun ρ m n' u=>storeF (ρ:=ρ) (m:=m) (n:=n') (u:=u) (j:=f) (v:=I ((k0 + (i + 1):Nat):Int)) g2 (by rw [natVs_len]; omega) rfl rfl
    rw [natVs_set,List.set_set] at stw
    have hnext:v0 < 2 ^ d.width.toNat→∃ (c:Nat),c < N - i∧∃ i' h3,i' ≤ N∧c=N - i'∧(i'=0∨k0 + i' ≤ l.length)∧(∀ v ∈ (l.drop k0).take i',v < 2 ^ d.width.toNat)∧h3.objs h.next=some (.cells (natVs (a.set f (k0 + i'))))∧h3.next=h.next + 1∧(∀ i,i < h.next→h3.objs i=h.objs i) ∧
      (⟨upd (upd (upd (upd (upd (upd ρ0 1 (LV ls)) 2 (.lptr 0 3 0)) 5 (.ref h.next 0 ls.length 1)) 6 (I j)) 7 (.lptr 1 4 0)) 8 (I ((i + 1:Nat):Int)),upd (upd m0 0 (some [.vec (p.ins.map InD.v) .any,.vec (p.arrays.map ArD.v) .any,.vec (p.body.map Stm.v) .any])) 1 (some [.str d.name,I d.frm,I d.width,I d.size]),2,[],h''.set h.next (.cells (natVs (a.set f (k0 + (i + 1)))))⟩:S) =
      ⟨upd (upd (upd (upd (upd (upd ρ0 1 (LV ls)) 2 (.lptr 0 3 0)) 5 (.ref h.next 0 ls.length 1)) 6 (I j)) 7 (.lptr 1 4 0)) 8 (I i'),upd (upd m0 0 (some [.vec (p.ins.map InD.v) .any,.vec (p.arrays.map ArD.v) .any,.vec (p.body.map Stm.v) .any])) 1 (some [.str d.name,I d.frm,I d.width,I d.size]),2,[],h3⟩:=fun hv0 =>
     ⟨N - (i + 1),by omega,i + 1,h''.set h.next (.cells (natVs (a.set f (k0 + (i + 1))))),hlt,rfl,.inr (by omega),fun v hv=>by
      rw [htw] at hv
      rcases List.mem_append.1 hv with hv | hv
      ·exact hws v hv
      ·rw [List.mem_singleton] at hv; subst hv; exact hv0,by rw [set_objs,if_pos rfl],hn2,fun q hq=>by rw [set_objs,if_neg (by omega)]; exact hold2 q hq,rfl⟩
    simp -dsimp -implicitDefEqProofs only [↓STP,STQ,seval,eq_true hltI,LV,hfI,gl,inV_cells,eq_true hfI',Nat.mul_one,g2,ga,Ws_length,eq_false hgeI,eq_true hklI,gw]
    refine width02 hv64 ?_
    by_cases hw:d.width < ((max (blen v0) 1:Nat):Int)
    ·have hge0:¬ v0 < 2 ^ d.width.toNat:=fun hh=>(wf.2 hh).elim (fun e=>by subst e; rw [blen_zero] at hw; have:=hdi.w1; omega) (fun e=>e hw)
     rw [← hnot (by rintro ⟨_,_,h3⟩; exact hge0 (h3 _ hvm))] at hK
     simp -dsimp -implicitDefEqProofs only [↓STP,STQ,seval,eq_true hw]
     exact hK h'' ⟨by omega,hold2⟩
    ·have hlt0:v0 < 2 ^ d.width.toNat:=wf.1 (.inr hw)
     simp -dsimp -implicitDefEqProofs only [↓STP,STQ,seval,eq_false hw,hfI,Nat.mul_one,eq_true hfI',g2,ga,stw,w2,w3]
     exact hnext hlt0
  ·have hiN':i=N:=by omega
   subst hiN'
   simp -dsimp -implicitDefEqProofs only [↓STP,STQ,seval,Int.lt_irrefl,w1]
   have hN1:1 ≤ i:=by rw [← hsd]; unfold sizeD; omega
   have hr:=hyes ⟨hf,by omega,hws⟩
   exact ⟨p.ins.length - (j + 1),by omega,j + 1,a.set f (k0 + i),h'',hi,rfl,by rw [List.length_set]; exact hal,hr,ho2,hn2,hold2,rfl⟩
 ·have hj':j=p.ins.length:=by omega
  subst hj'
  rw [List.drop_length,fitG] at hr
  rw [← hr] at hK
  simp -dsimp -implicitDefEqProofs only [↓STP,STQ,seval,Int.lt_irrefl,LV,List.length_map]
  have g1:=get_of ho
  refine codeT_for (N:=ls.length) (fun i=>⟨upd (upd (upd ρ0 1 (LV ls)) 5 (.ref h.next 0 ls.length 1)) 10 (I i),m0,0,[],h'⟩) (fun i=>a.take i=(ls.map List.length).take i) (by simp -dsimp -implicitDefEqProofs only [↓STP,STQ,seval,LV] <;> rfl) rfl (fun i hlt htk=>?_) (fun htk=>?_) mono
  ·have gl:=LV_get hlt
   have ga:=natVs_get (l:=a) (i:=i) (by omega)
   have hltI:((i:Nat):Int) < ((ls.length:Nat):Int):=by omega
   have w3:=wiM (show i < 9223372036854775807 by omega)
   have e1:ls.getD i []=ls[i]:=by rw [List.getD_eq_getElem?_getD,List.getElem?_eq_getElem hlt]; rfl
   have e2:a.getD i 0=a[i]:=by rw [List.getD_eq_getElem?_getD,List.getElem?_eq_getElem (by omega)]; rfl
   by_cases he:((a.getD i 0:Nat):Int)=(((ls.getD i []).length:Nat):Int)
   ·simp -dsimp -implicitDefEqProofs only [↓STP,STQ,seval,eq_true hltI,LV,List.length_map,gl,g1,ga,Nat.mul_one,Ws_length,eq_true he,w3]
    rw [List.take_add_one,List.take_add_one,htk,List.getElem?_eq_getElem (by omega),List.getElem?_map,List.getElem?_eq_getElem hlt]
    rw [e1,e2] at he
    have he:a[i]=ls[i].length:=by omega
    rw [he]; rfl
   ·have hno:fitEnd ls (some a)=false:=decide_eq_false fun hh=>he (by
     have this:a.getD i 0=(ls.map List.length).getD i 0:=congrArg (fun l=>l.getD i 0) hh
     rw [this,e1,List.getD_eq_getElem?_getD,List.getElem?_map,List.getElem?_eq_getElem hlt]; rfl)
    rw [hno] at hK
    simp -dsimp -implicitDefEqProofs only [↓STP,STQ,seval,eq_true hltI,LV,List.length_map,gl,g1,ga,Nat.mul_one,Ws_length,eq_false he,w3]
    exact hK h' ⟨by omega,hold⟩
  ·have hyes:fitEnd ls (some a)=true:=decide_eq_true (by
    have e1:a.take ls.length=a:=List.take_of_length_le (by omega)
    have e2:(ls.map List.length).take ls.length=ls.map List.length:=List.take_of_length_le (by rw [List.length_map]; exact Nat.le_refl _)
    rw [← e1,← e2,htk])
   rw [hyes] at hK
   simp -dsimp -implicitDefEqProofs only [↓STP,STQ,seval,LV,List.length_map,Int.lt_irrefl]
   exact hK h' ⟨by omega,hold⟩
end
end YtljoifdccjcidaaDoor
end Go.Ab
namespace Go.Ab
namespace YtljoifdccjcidaaDoor
section
variable {h:H} {K:Out→H→Prop}
theorem maxG' {p:Prg} {vp:V} (hp:vp=p.v) (v:VT p) (hK:∀ h',UpH h h'→K (.ret (.tuple [I (mostT (checkT p)),I (errT (checkT p))])) h'):R 24 [vp] h K:=by subst hp; exact maxG v hK
theorem fit30' {p:Prg} {ls:List (List Nat)} {vp vl:V} (hp:vp=p.v) (hl:vl=LV ls) (v:VT p) (ok:LsOk ls) (hK:∀ h',UpH h h'→K (.ret (.bool (fitB p ls))) h'):R 25 [vp,vl] h K:=by subst hp hl; exact fit30 v ok hK
theorem terminates30 {p:Prg} {ls:List (List Nat)} (ok:POk p) (hb:p.v.bulk ≤ 1048576) (hl:ls.length ≤ maxLen) (hw:WordsOk ls) (hK:∀ h',K (.ret (.bool true)) h'):R 10 [p.v,LV ls] h K:=by
 refine run10 (Nat.le_of_ble_eq_true rfl) ?_
 have hv0:p.v=V.agg [.vec (p.ins.map InD.v) .any,.vec (p.arrays.map ArD.v) .any,.vec (p.body.map Stm.v) .any]:=rfl
 have hL:LV ls=.vec (ls.map fun l=>.vec (Ws l) .any) .any:=rfl
 simp -dsimp -implicitDefEqProofs only [↓STP,STQ,seval,ir10,hv0,hL]
 refine awake30 fun h1 u1=>?_
 simp -dsimp -implicitDefEqProofs only [↓STP,STQ,seval]
 rw [← hv0,← hL]
 refine few30 ok (by omega) hl hw fun b hvl=>?_
 cases b with
 | false =>
  simp -dsimp -implicitDefEqProofs only [↓STP,STQ,seval]
  exact hK _
 | true =>
 obtain ⟨vp,l20,l200⟩:=hvl rfl
 have v:=vp.vt ok
 have lok:LsOk ls:=⟨by omega,fun l hl=>⟨by have:=l200 l hl; omega,hw l hl⟩⟩
 simp -dsimp -implicitDefEqProofs only [↓STP,STQ,seval,hv0,hL]
 refine maxG' (p:=p) rfl v fun h2 u2=>?_
 simp -dsimp -implicitDefEqProofs only [↓STP,STQ,seval]
 refine runI' (p:=p) (ls:=ls) rfl rfl v lok fun h3 r1 u3 w1=>?_
 obtain ⟨lf1,lf2⟩:=res_facts v (ls:=ls)
 have ml:=most_le v
 have hoL:=w1.out.2.2.2
 have lenE:errI p ls ≠ 0→resX p ls=[]:=fun hh=>if_neg hh
 by_cases e:errT (checkT p)=0
 rotate_left
 ·have e1:errI p ls=errT (checkT p):=if_pos e
  have e2:=lenE (by rw [e1]; exact e)
  rw [e2] at w1
  rw [e1]
  rcases w1.shape with rfl | ⟨id1,rfl⟩
  all_goals
   simp -dsimp -implicitDefEqProofs only [↓STP,STQ,seval,eq_false e,Ws_length,List.length_nil]
   exact hK _
 ·have hmx:(if (1:Int) > ((mostT (checkT p):Nat):Int) then (1:Int) else ((mostT (checkT p):Nat):Int))=((max (mostT (checkT p)) 1:Nat):Int):=by split <;> omega
  have g1:IntKind.u64.wrap ((max (mostT (checkT p)) 1:Nat):Int)=((max (mostT (checkT p)) 1:Nat):Int):=by rw [wrap_u64_self] <;> omega
  rcases w1.shape with rfl | ⟨id1,rfl⟩
  ·simp -dsimp -implicitDefEqProofs only [↓STP,STQ,seval,eq_true e]
   refine fit30' (p:=p) (ls:=ls) rfl rfl v lok fun h4 u4=>?_
   cases f:fitB p ls with
   | false =>
    have e1:errI p ls=1:=by unfold errI; rw [if_neg (by simp [e]),f]; rfl
    rw [e1]
    simp -dsimp -implicitDefEqProofs only [↓STP,STQ,seval]
    exact hK _
   | true =>
   have e1:errI p ls=0:=by unfold errI; rw [if_neg (by simp [e]),f]; rfl
   rw [e1]
   have w4:=w1.frame u4.nx u4.old
   simp -dsimp -implicitDefEqProofs only [↓STP,STQ,seval]
   refine codeT_for (N:=(resX p ls).length) (fun i=>⟨upd (upd (upd (upd ρ0 5 (I ((mostT (checkT p):Nat):Int))) 7 (.vec (Ws (resX p ls)) .any)) 8 (I 0)) 9 (I i),m0,0,[],h4⟩) (fun i=>True) (by simp -dsimp -implicitDefEqProofs only [↓STP,STQ,seval] <;> rfl) trivial (fun i hlt _=>?_) (fun _=>?_) mono
   ·obtain ⟨ptr,q1,q2⟩:=w4.idx hlt
    have hx:=lf2 _ (List.getElem_mem hlt)
    have hltI:((i:Nat):Int) < (((resX p ls).length:Nat):Int):=by omega
    have w5:=wiM (show i < 9223372036854775807 by omega)
    generalize (resX p ls)[i]=x at *
    have hsh:(x:Int).fdiv (2 ^ min (max (mostT (checkT p)) 1) IntKind.u64.bits)=0:=by
     rw [show min (max (mostT (checkT p)) 1) IntKind.u64.bits=max (mostT (checkT p)) 1 from Nat.min_eq_left (by show _ ≤ 64; omega),fdiv_pow,Nat.div_eq_of_lt hx]; rfl
    have hnn:¬ (((max (mostT (checkT p)) 1:Nat):Int) < 0):=by omega
    simp -dsimp -implicitDefEqProofs only [↓STP,STQ,seval,Ws_length,eq_true hltI,q1,q2,maxV_two,hmx,g1,eq_false hnn,hsh,w5]
   ·simp -dsimp -implicitDefEqProofs only [↓STP,STQ,seval,Ws_length,Int.lt_irrefl]
    exact hK _
  ·simp -dsimp -implicitDefEqProofs only [↓STP,STQ,seval,eq_true e]
   refine fit30' (p:=p) (ls:=ls) rfl rfl v lok fun h4 u4=>?_
   cases f:fitB p ls with
   | false =>
    have e1:errI p ls=1:=by unfold errI; rw [if_neg (by simp [e]),f]; rfl
    rw [e1]
    simp -dsimp -implicitDefEqProofs only [↓STP,STQ,seval]
    exact hK _
   | true =>
   have e1:errI p ls=0:=by unfold errI; rw [if_neg (by simp [e]),f]; rfl
   rw [e1]
   have w4:=w1.frame u4.nx u4.old
   simp -dsimp -implicitDefEqProofs only [↓STP,STQ,seval]
   refine codeT_for (N:=(resX p ls).length) (fun i=>⟨upd (upd (upd (upd ρ0 5 (I ((mostT (checkT p):Nat):Int))) 7 (.ref id1 0 (resX p ls).length 1)) 8 (I 0)) 9 (I i),m0,0,[],h4⟩) (fun i=>True) (by simp -dsimp -implicitDefEqProofs only [↓STP,STQ,seval] <;> rfl) trivial (fun i hlt _=>?_) (fun _=>?_) mono
   ·obtain ⟨ptr,q1,q2⟩:=w4.idx hlt
    have hx:=lf2 _ (List.getElem_mem hlt)
    have hltI:((i:Nat):Int) < (((resX p ls).length:Nat):Int):=by omega
    have w5:=wiM (show i < 9223372036854775807 by omega)
    generalize (resX p ls)[i]=x at *
    have hsh:(x:Int).fdiv (2 ^ min (max (mostT (checkT p)) 1) IntKind.u64.bits)=0:=by
     rw [show min (max (mostT (checkT p)) 1) IntKind.u64.bits=max (mostT (checkT p)) 1 from Nat.min_eq_left (by show _ ≤ 64; omega),fdiv_pow,Nat.div_eq_of_lt hx]; rfl
    have hnn:¬ (((max (mostT (checkT p)) 1:Nat):Int) < 0):=by omega
    simp -dsimp -implicitDefEqProofs only [↓STP,STQ,seval,Ws_length,eq_true hltI,q1,q2,maxV_two,hmx,g1,eq_false hnn,hsh,w5]
   ·simp -dsimp -implicitDefEqProofs only [↓STP,STQ,seval,Ws_length,Int.lt_irrefl]
    exact hK _
end
end YtljoifdccjcidaaDoor
end Go.Ab
namespace Go.Ab
open Go.RowKit Go.ChangeShapes
section
variable {H':Type} {enc:TypeId × Value→H'} {P:Program} {W:World} {ts:List TypeId}
theorem law_callsG {G:List (Nat × List V)} {E:Env} (hcall:∀ n,CallOK P G (call E n)) (hwr:WR (k0 W) h0 W G) {f:FuncId} {vals:Array Value} {vs:List V} (hargs:ArgsOK (k0 W) W vs vals) (hr:Runs E f vs h0 (fun o _=>o=.ret (.bool true))) :
  Calls P f vals W fun e W'=>e=.returned (.bool true)∧Below W.heap.size W W':=by
 obtain ⟨n,hn⟩:=hr
 refine ((hcall n _ _ _ _ hn).2 (k0 W) W vals hwr hargs).mono fun e W' h=>?_
 obtain ⟨o,h',rfl,k',hwr,hold,x,b,fb,rfl,_,hx⟩:=h
 have hx':VR k' W' (.bool true) x:=hx
 cases hx'
 exact ⟨rfl,hold.misc.2.1,hold.misc.1,hold.misc.2.2,hold.keeps.size,fun b hb=>hold.same b hb (fun id o ho=>by simp [h0] at ho)⟩
theorem law_contractG {B:DataW H'→Nat} (hB:BulkOK B) {N:Nat} {G:List (Nat × List V)} {E:Env} (hcall:∀ n,CallOK P G (call E n)) (hwr:WR (k0 W) h0 W G) {f:FuncId} {fn:Func} {s:ChangeSpec} {apart fresh handsOn:Bool} {base:Nat} {args:Array Value} {ds gs:List (DataW H')} {before:List MemPlace} {tb:TypeId}
  (hl:laidOutB P=true) (hc:closedT P ts=true) (hts:(fn.params.toList.all fun t=>ts.contains t && P.readableRec t && decide (t < P.types.size))=true) (hres:fn.resultTypes=#[tb]) (htb:P.underlying tb=some .bool)
  (hvars:s.vars=[]) (hfn:∀ ds:List (DataW H'),ds.length=fn.params.toList.length→s.fn H' ds={ results:=[.lit (.bool true)],args:=ds })
  (hval:∀ (j:Nat) t v,fn.params[j]?=some t→args[j]?=some v→Value.okWide P W .any base t v)
  (hW:DataW.Whole enc P fn.params.toList s.vars apart W args.toList ds gs before)
  (hbulk:(ds.map B).sum ≤ N)
  (hrun:∀ vs,TyArgs P fn.params.toList vs→V.bulks vs ≤ N→Runs E f vs h0 (fun o _=>o=.ret (.bool true))) :
  Calls P f args W fun e W'=>∃ v,e=.returned v∧s.post enc P fn apart fresh handsOn false W args v W':=by
 have hW0:=hW
 obtain ⟨p,q,hA,hV,rfl,_,_⟩:=hW
 rw [List.all_eq_true] at hts
 have hts':∀ t ∈ fn.params.toList,ts.contains t=true∧P.readableRec t=true∧t < P.types.size:=fun t ht=>by
  have:=hts t ht
  simp only [Bool.and_eq_true,decide_eq_true_eq] at this
  exact ⟨this.1.1,this.1.2,this.2⟩
 rw [hvars] at hV
 obtain ⟨rfl,rfl⟩:gs=[]∧q=[]:=by
  cases gs with
  | nil=>exact ⟨rfl,hV⟩
  | cons=>exact hV.elim
 obtain ⟨us,u1,u2,u3,u4⟩:=args_VB hB (b0:=base) hc (fun t ht=>(hts' t ht).1) hA (fun j t v h1 h2=>hval j t v (by simpa using h1) (by simpa using h2))
 refine (law_callsG hcall hwr (vs:=us) ⟨by simpa using u1.symm,fun j u hj=>?_⟩ (hrun us u3 (Nat.le_trans u4 hbulk))).mono fun e W' h=>?_
 ·obtain ⟨x,a,b⟩:=u2 j u hj
  exact ⟨x,by simpa using a,b⟩
 obtain ⟨rfl,hb⟩:=h
 have hfn:=hfn ds (trodAll_len hA)
 refine ⟨_,rfl,ds,[],p ++ [],[],p,[],hW0,?_,?_,?_,hb.frame _,fun h=>by cases h⟩
 ·rw [List.append_nil,hfn,hres]
  exact trodAll_mk1 (shut_bool htb true)
 ·rw [List.append_nil,hfn]
  exact trodAll_below hl hb (fun t ht=>(hts' t ht).2) hA
 ·rw [List.append_nil,hfn,hvars]; rfl
def litX:V→Value
 | .int k n=>.int k n
 | .bool b=>.bool b
 | _=>.nilFunc
theorem glob_vr {g:Nat} {vs:List V} (hp:∀ v ∈ vs,(∃ k n,v=.int k n)∨∃ b,v=.bool b) (hc:∀ (j:Nat) (v:V),vs[j]?=some v→W.cell? ⟨g,j,none⟩=some (litX v)):VR (k0 W) W (.iptr vs) (.pointer (some ⟨g,0,none⟩)):=by
 refine .iptr vs ⟨g,0,none⟩ (fun j=>litX (vs.getD j .undef)) rfl (fun j v hj=>?_) (fun j v hj=>?_)
 ·have e:vs.getD j .undef=v:=by rw [List.getD_eq_getElem?_getD,hj]; rfl
  have h1:=hc j v hj
  have ha:(⟨g,0,none⟩:Addr).add j=⟨g,j,none⟩:=by simp [Addr.add]; try omega
  rw [ha]
  simp only [e]
  refine ⟨h1,cell_lim h1,?_⟩
  rcases hp v (List.mem_of_getElem? hj) with ⟨k,n,rfl⟩ | ⟨b,rfl⟩ <;> rfl
 ·have e:vs.getD j .undef=v:=by rw [List.getD_eq_getElem?_getD,hj]; rfl
  simp only [e]
  rcases hp v (List.mem_of_getElem? hj) with ⟨k,n,rfl⟩ | ⟨b,rfl⟩
  ·exact .int k n
  ·exact .bool b
theorem wrG {G:List (Nat × List V)} (h:∀ g cells,(g,cells) ∈ G→VR (k0 W) W (.iptr cells) (.pointer (some ⟨g,0,none⟩))):WR (k0 W) h0 W G:=⟨rfl,fun id o h=>by simp [h0] at h,fun id id' o o' h=>by simp [h0] at h,h⟩
end
end Go.Ab
