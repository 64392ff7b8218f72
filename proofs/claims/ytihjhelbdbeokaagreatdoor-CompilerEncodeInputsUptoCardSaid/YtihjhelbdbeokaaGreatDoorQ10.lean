/- Part of a proof: Arguments that are lists of lists of words. -/
import Derived.Test.YtihjhelbdbeokaaGreatDoorQ8
import Derived.Test.YtihjhelbdbeokaaGreatDoorQ9
import Derived.Test.YtihjhelbdbeokaaGreatDoorQ7
import Derived.Lib.LaidTab
set_option linter.unusedVariables false
set_option linter.unusedSimpArgs false
namespace Go.Ab
def Zp8 (ls:List (List Nat)):Prop:=∀ l ∈ ls,∀ v ∈ l,v < 18446744073709551616
theorem Zvr {P:Program} {t e:TypeId} {css:List (List V)} (ht:P.underlying t=some (.slice e)) (he:P.underlying e=some (.int .u64)) (hc:∀ cs ∈ css,Ty P t cs):∃ ls:List (List Nat),css.map (mkEl false)=ls.map (fun l=>V.vec (Ws l) .any)∧ls.length=css.length∧Zp8 ls:=by
 induction css with
 | nil=>exact ⟨[],rfl,rfl,fun l hl=>by cases hl⟩
 | cons cs css ih =>
  obtain ⟨ag,es,ha,h0,hc1,hl⟩:=Zlv ht (hc cs (by simp))
  rw [agg_int he] at ha; cases ha
  obtain ⟨n,h1,h2,h3⟩:=map_ints he hc1
  obtain ⟨ws,g1,g2,g3⟩:=Ns_words h3
  obtain ⟨ls,i1,i2,i3⟩:=ih (fun cs h=>hc cs (by simp [h]))
  refine ⟨ws :: ls,by rw [List.map_cons,List.map_cons,i1,h0,h1,g1]; rfl,by simp [i2],fun l hl=>?_⟩
  rcases List.mem_cons.1 hl with rfl | hl
  ·exact g3
  ·exact i3 l hl
theorem Zxk {P:Program} {t e u:TypeId} {v:V} (ht:P.underlying t=some (.slice e)) (he:P.underlying e=some (.slice u)) (hu:P.underlying u=some (.int .u64)) (h:Zqa P t v):∃ ls:List (List Nat),v=LV ls∧ls.length ≤ maxLen∧Zp8 ls:=by
 obtain ⟨ag,cs,ha,rfl,h⟩:=h
 rw [Zoo ht] at ha; cases ha
 obtain ⟨ag,css,ha,rfl,hc,hl⟩:=Zlv ht h
 rw [Zoo he] at ha; cases ha
 obtain ⟨ls,h1,h2,h3⟩:=Zvr he hu hc
 exact ⟨ls,by simp [mkEl,h1,LV],by omega,h3⟩
end Go.Ab
namespace Go.Ab
namespace YtihjhelbdbeokaaGreatDoor
section
variable {h:H} {K:Out→H→Prop}
def SzE (l:List Exp):Prop:=∀ (h:H) (K:Out→H→Prop),(∀ n:Int,K (.ret (I n)) h)→R 84 [.vec (l.map Exp.v) .any] h K
def SzS (l:List Stm):Prop:=∀ (h:H) (K:Out→H→Prop),(∀ n:Int,K (.ret (I n)) h)→R 48 [.vec (l.map Stm.v) .any] h K
theorem szE_of (l:List Exp) (hl:l.length ≤ maxLen) (ih:∀ x ∈ l,SzE x.kids):SzE l:=by
 intro h K hK
 have hm:=Za4
 refine run84 (Nat.le_of_ble_eq_true rfl) ?_
 simp -dsimp -implicitDefEqProofs only [↓STP,STQ,seval,ir84]
 refine Zai (fun k st=>∃ (i:Nat) (t:Int),k=l.length - i∧i ≤ l.length∧st=⟨upd (upd (upd ρ0 0 (.vec (l.map Exp.v) .any)) 3 (I t)) 4 (I i),m0,0,[],h⟩) (i:=l.length) ?_ ?_ mono
 ·exact ⟨0,_,by omega,Nat.zero_le _,rfl⟩
 rintro k st ⟨i,t,rfl,hi,rfl⟩
 by_cases hlt:i < l.length
 rotate_left
 ·have:i=l.length:=by omega
  subst this
  simp -dsimp -implicitDefEqProofs only [↓STP,STQ,seval,List.length_map,Int.lt_irrefl]
  exact hK _
 have hget:=Za5 (f:=Exp.v) hlt
 have ihx:=ih _ (List.getElem_mem hlt)
 have w1:=wiM (show i < 9223372036854775807 by omega)
 generalize l[i]=x at *
 obtain ⟨k,o,n,s,ks⟩:=x
 simp -dsimp -implicitDefEqProofs only [↓STP,STQ,seval,List.length_map,Int.ofNat_lt,hlt,hget,Exp.v_mk]
 refine ihx _ _ fun n=>?_
 simp -dsimp -implicitDefEqProofs only [↓STP,STQ,seval,w1]
 exact ⟨l.length - (i + 1),by omega,i + 1,_,rfl,by omega,rfl⟩
theorem Zya (e:Exp):EOk e→SzE e.kids:=by
 induction e using Exp.ind with
 | h k o n s ks ih =>
  intro ok
  obtain ⟨_,_,_,_,hl,hks⟩:=Zlt ok
  exact szE_of ks hl fun x hx=>ih x hx (hks x hx)
theorem szE {l:List Exp} (hl:l.length ≤ maxLen) (ok:∀ x ∈ l,EOk x):SzE l:=szE_of l hl fun x hx=>Zya x (ok x hx)
theorem Zuk (l:List Stm) (hl:l.length ≤ maxLen) (ihe:∀ x ∈ l,SzE x.e) (iha:∀ x ∈ l,SzS x.thn) (ihb:∀ x ∈ l,SzS x.els):SzS l:=by
 intro h K hK
 have hm:=Za4
 refine run48 (Nat.le_of_ble_eq_true rfl) ?_
 simp -dsimp -implicitDefEqProofs only [↓STP,STQ,seval,ir48]
 refine Zai (fun k st=>∃ (i:Nat) (t:Int),k=l.length - i∧i ≤ l.length∧st=⟨upd (upd (upd ρ0 0 (.vec (l.map Stm.v) .any)) 3 (I t)) 4 (I i),m0,0,[],h⟩) (i:=l.length) ?_ ?_ mono
 ·exact ⟨0,_,by omega,Nat.zero_le _,rfl⟩
 rintro k st ⟨i,t,rfl,hi,rfl⟩
 by_cases hlt:i < l.length
 rotate_left
 ·have:i=l.length:=by omega
  subst this
  simp -dsimp -implicitDefEqProofs only [↓STP,STQ,seval,List.length_map,Int.lt_irrefl]
  exact hK _
 have hget:=Za5 (f:=Stm.v) hlt
 have h1:=ihe _ (List.getElem_mem hlt)
 have h2:=iha _ (List.getElem_mem hlt)
 have h3:=ihb _ (List.getElem_mem hlt)
 have w1:=wiM (show i < 9223372036854775807 by omega)
 generalize l[i]=x at *
 obtain ⟨k,s,e,a,b⟩:=x
 simp -dsimp -implicitDefEqProofs only [↓STP,STQ,seval,List.length_map,Int.ofNat_lt,hlt,hget,Stm.v_mk]
 refine h1 _ _ fun n=>?_
 simp -dsimp -implicitDefEqProofs only [↓STP,STQ,seval,hget,Stm.v_mk]
 refine h2 _ _ fun n=>?_
 simp -dsimp -implicitDefEqProofs only [↓STP,STQ,seval,hget,Stm.v_mk]
 refine h3 _ _ fun n=>?_
 simp -dsimp -implicitDefEqProofs only [↓STP,STQ,seval,w1]
 exact ⟨l.length - (i + 1),by omega,i + 1,_,rfl,by omega,rfl⟩
theorem Zi9 (x:Stm):SOk x→SzE x.e∧SzS x.thn∧SzS x.els:=by
 induction x using Stm.ind with
 | h k s e a b iha ihb =>
  intro ok
  obtain ⟨_,_,le,la,lb,oke,oka,okb⟩:=Ziq ok
  exact ⟨szE le oke,Zuk a la (fun x hx=>(iha x hx (oka x hx)).1) (fun x hx=>(iha x hx (oka x hx)).2.1) (fun x hx=>(iha x hx (oka x hx)).2.2),
   Zuk b lb (fun x hx=>(ihb x hx (okb x hx)).1) (fun x hx=>(ihb x hx (okb x hx)).2.1) (fun x hx=>(ihb x hx (okb x hx)).2.2)⟩
theorem szS {l:List Stm} (hl:l.length ≤ maxLen) (ok:∀ x ∈ l,SOk x):SzS l:=
 Zuk l hl (fun x hx=>(Zi9 x (ok x hx)).1) (fun x hx=>(Zi9 x (ok x hx)).2.1) (fun x hx=>(Zi9 x (ok x hx)).2.2)
theorem sizeR {p:Prg} (ok:POk p) (hK:∀ n:Int,K (.ret (I n)) h):R 26 [p.v] h K:=by
 refine run26 (Nat.le_of_ble_eq_true rfl) ?_
 simp -dsimp -implicitDefEqProofs only [↓STP,STQ,seval,ir26,Prg.v,Prg.cells]
 refine szS ok.lb ok.body _ _ fun n=>?_
 simp -dsimp -implicitDefEqProofs only [↓STP,STQ,seval]
 exact hK _
end
end YtihjhelbdbeokaaGreatDoor
end Go.Ab
namespace Go.Ab
namespace YtihjhelbdbeokaaGreatDoor
section
variable {K:Out→H→Prop} {p:Prg} {h:H}
theorem maxR (v:VT p) (li:p.ins.length ≤ 1000) (la:p.arrays.length ≤ 1000) (hK:∀ h',UpH h h'→K (.ret (.tuple [I (Zvo (Zbl p)),I (errT (Zbl p))])) h'):R 29 [p.v] h K:=by
 refine run29 (Nat.le_of_ble_eq_true rfl) ?_
 have hv0:p.v=V.agg [.vec (p.ins.map InD.v) .any,.vec (p.arrays.map ArD.v) .any,.vec (p.body.map Stm.v) .any]:=rfl
 simp -dsimp -implicitDefEqProofs only [↓STP,STQ,seval,ir29,hv0]
 rw [← hv0]
 refine Zql v li la ?_
 cases hr:Zbl p with
 | ok σ =>
  rw [hr] at hK
  intro L' h' up A'
  have gx:=Zam A'.x
  simp -dsimp -implicitDefEqProofs only [↓STP,STQ,seval,gx,Lr.cs]
  exact hK _ up
 | error e =>
  rw [hr] at hK
  intro hne x h' up
  simp -dsimp -implicitDefEqProofs only [↓STP,STQ,seval,eq_false hne]
  exact hK _ up
theorem soundR (v:VT p) (li:p.ins.length ≤ 1000) (la:p.arrays.length ≤ 1000) (hK:∀ h',UpH h h'→K (.ret (.bool (decide (errT (Zbl p)=0)))) h'):R 27 [p.v] h K:=by
 refine run27 (Nat.le_of_ble_eq_true rfl) ?_
 have hv0:p.v=V.agg [.vec (p.ins.map InD.v) .any,.vec (p.arrays.map ArD.v) .any,.vec (p.body.map Stm.v) .any]:=rfl
 simp -dsimp -implicitDefEqProofs only [↓STP,STQ,seval,ir27,hv0]
 rw [← hv0]
 refine checkR v li la fun h1 u1=>?_
 by_cases c:errT (Zbl p)=0
 ·rw [decide_eq_true c] at hK
  simp -dsimp -implicitDefEqProofs only [↓STP,STQ,seval,eq_true c]
  exact hK _ u1
 ·rw [decide_eq_false c] at hK
  simp -dsimp -implicitDefEqProofs only [↓STP,STQ,seval,eq_false c]
  exact hK _ u1
theorem lightR (v:VT p) (li:p.ins.length ≤ 1000) (la:p.arrays.length ≤ 1000) {m:Int} (hK:∀ h' b,UpH h h'→(b=true→errT (Zbl p)=0∧(Zvo (Zbl p):Int) ≤ m)→K (.ret (.bool b)) h'):R 28 [p.v,I m] h K:=by
 refine run28 (Nat.le_of_ble_eq_true rfl) ?_
 have hv0:p.v=V.agg [.vec (p.ins.map InD.v) .any,.vec (p.arrays.map ArD.v) .any,.vec (p.body.map Stm.v) .any]:=rfl
 simp -dsimp -implicitDefEqProofs only [↓STP,STQ,seval,ir28,hv0]
 rw [← hv0]
 refine maxR v li la fun h1 u1=>?_
 by_cases c:errT (Zbl p)=0
 ·by_cases d:(Zvo (Zbl p):Int) ≤ m
  ·simp -dsimp -implicitDefEqProofs only [↓STP,STQ,seval,eq_true c,eq_true d]
   exact hK _ _ u1 fun _=>⟨c,d⟩
  ·simp -dsimp -implicitDefEqProofs only [↓STP,STQ,seval,eq_true c,eq_false d]
   exact hK _ _ u1 fun hh=>(by cases hh)
 ·simp -dsimp -implicitDefEqProofs only [↓STP,STQ,seval,eq_false c]
  exact hK _ _ u1 fun hh=>(by cases hh)
theorem small35 (ok:POk p) (hb:p.v.bulk ≤ 20000000) {n:Int} (hK:∀ h' b,(b=true→VP p∧p.ins.length ≤ 6∧p.arrays.length ≤ 4∧p.body.length ≤ 30∧(errT (Zbl p)=0→Zvo (Zbl p) ≤ 40))→K (.ret (.bool b)) h'):R 11 [p.v,I n] h K:=by
 refine run11 (Nat.le_of_ble_eq_true rfl) ?_
 have hv0:p.v=V.agg [.vec (p.ins.map InD.v) .any,.vec (p.arrays.map ArD.v) .any,.vec (p.body.map Stm.v) .any]:=rfl
 have no:∀ h',K (.ret (.bool false)) h':=fun h'=>hK h' false fun hh=>by cases hh
 by_cases c1:(p.ins.length:Int) ≤ 6
 rotate_left
 ·simp -dsimp -implicitDefEqProofs only [↓STP,STQ,seval,ir11,hv0,List.length_map,eq_false c1]
  exact no _
 by_cases c2:(p.arrays.length:Int) ≤ 4
 rotate_left
 ·simp -dsimp -implicitDefEqProofs only [↓STP,STQ,seval,ir11,hv0,List.length_map,eq_true c1,eq_false c2]
  exact no _
 by_cases c3:(p.body.length:Int) ≤ 30
 rotate_left
 ·simp -dsimp -implicitDefEqProofs only [↓STP,STQ,seval,ir11,hv0,List.length_map,eq_true c1,eq_true c2,eq_false c3]
  exact no _
 simp -dsimp -implicitDefEqProofs only [↓STP,STQ,seval,ir11,hv0,List.length_map,eq_true c1,eq_true c2,eq_true c3]
 rw [← hv0]
 refine valid27 ok (fun _ _ hv=>by have:=Zwf ok hv; omega) fun b hv=>?_
 cases b with
 | false =>
  simp -dsimp -implicitDefEqProofs only [↓STP,STQ,seval]
  exact no _
 | true =>
 have vp:=hv.1 rfl
 have v:=vp.vt ok
 simp -dsimp -implicitDefEqProofs only [↓STP,STQ,seval,hv0]
 rw [← hv0]
 refine sizeR ok fun k=>?_
 by_cases c4:k ≤ n
 rotate_left
 ·simp -dsimp -implicitDefEqProofs only [↓STP,STQ,seval,eq_false c4]
  exact no _
 simp -dsimp -implicitDefEqProofs only [↓STP,STQ,seval,eq_true c4,hv0]
 rw [← hv0]
 refine soundR v (by omega) (by omega) fun h1 u1=>?_
 by_cases e:errT (Zbl p)=0
 ·rw [decide_eq_true e]
  simp -dsimp -implicitDefEqProofs only [↓STP,STQ,seval,hv0]
  rw [← hv0]
  refine lightR v (by omega) (by omega) fun h2 b u2 hl=>?_
  cases b with
  | false =>
   simp -dsimp -implicitDefEqProofs only [↓STP,STQ,seval]
   exact no _
  | true =>
   obtain ⟨_,l2⟩:=hl rfl
   simp -dsimp -implicitDefEqProofs only [↓STP,STQ,seval]
   exact hK _ true fun _=>⟨vp,by omega,by omega,by omega,fun _=>by omega⟩
 ·rw [decide_eq_false e]
  simp -dsimp -implicitDefEqProofs only [↓STP,STQ,seval]
  exact hK _ true fun _=>⟨vp,by omega,by omega,by omega,fun hh=>absurd hh e⟩
end
end YtihjhelbdbeokaaGreatDoor
end Go.Ab
namespace Go.Ab
theorem ListsF.shape {h:H} {v:V} {ls:List (List Nat)} (a:ListsF h v ls):v=.vec [] .any∨∃ id n,v=.ref id 0 n 1:=by
 rcases a with ⟨rfl,_⟩ | ⟨id,vs,_,rfl,_⟩
 ·exact .inl rfl
 ·exact .inr ⟨id,_,rfl⟩
theorem Zoi:∀ {l:List V} {v:V},v ∈ l→v.bulk ≤ V.bulks l
 | x :: l,v,h=>by
  rw [V.bulks]
  rcases List.mem_cons.1 h with rfl | h
  ·omega
  ·have:=Zoi h; omega
theorem Zro:∀ {l:List Nat},l.length ≤ V.bulks (Ws l)
 | []=>Nat.zero_le _
 | x :: l=>by
  have:=Zro (l:=l)
  show (l.length + 1) ≤ V.bulks (W x :: Ws l)
  rw [V.bulks]
  have:1 ≤ (W x).bulk:=by show 1 ≤ V.bulk (.int .u64 x); simp [V.bulk]
  omega
theorem Zs5 {ls:List (List Nat)} {n:Nat} (h:(LV ls).bulk ≤ n):∀ l ∈ ls,l.length ≤ n:=fun l hl=>by
 unfold LV at h
 rw [V.bulk] at h
 have h1:=Zoi (l:=ls.map fun l=>V.vec (Ws l) .any) (List.mem_map.2 ⟨l,hl,rfl⟩)
 rw [V.bulk] at h1
 have h2:=Zro (l:=l)
 omega
namespace YtihjhelbdbeokaaGreatDoor
section
variable {h:H} {K:Out→H→Prop}
theorem encodeG' {p:Prg} {ls:List (List Nat)} {vp vl:V} (hp:vp=p.v) (hl:vl=LV ls) (v:VT p) (l6:p.ins.length ≤ 100) (ok:LsOk ls) (hK:∀ h' r,UpH h h'→ListsF h' r (encP p ls)→K (.ret (.tuple [r,I (errI p ls)])) h'):R 17 [vp,vl] h K:=by subst hp hl; exact encodeG v l6 ok hK
theorem encodeR' {p:Prg} {ls:List (List Nat)} {vp vl:V} (hp:vp=p.v) (hl:vl=LV ls) (v:VT p) (li:p.ins.length ≤ 1000) (la:p.arrays.length ≤ 1000) (l6:p.ins.length ≤ 100) (ok:LsOk ls) (hK:∀ h' r,UpH h h'→ListsF h' r (encP p ls)→K (.ret (.tuple [r,I (errI p ls)])) h'):R 21 [vp,vl] h K:=by subst hp hl; exact encodeR v li la l6 ok hK
theorem enc_le {p:Prg} (v:VT p) (l6:p.ins.length ≤ 6) {ls:List (List Nat)} (h20:ls.length ≤ 20):(encP p ls).length ≤ 1000∧∀ l ∈ encP p ls,l.length ≤ 1000000:=by
 unfold encP
 split
 ·rename_i c
  refine ⟨by rw [Zj3,List.length_replicate]; omega,fun l hl=>?_⟩
  have hf:fitB p ls=true:=by
   unfold errI at c
   split at c
   ·rename_i hh; exact absurd c hh
   ·cases q:fitB p ls with
    | true=>rfl
    | false=>rw [q] at c; exact absurd c (by decide)
  obtain ⟨aE,haE⟩:=Zjw hf
  have:=Zwq (m:=0) v.ins haE (fun x hx=>by rw [(List.mem_replicate.1 hx).2]; exact Nat.le_refl _) l hl
  omega
 ·exact ⟨Nat.zero_le _,fun l hl=>by cases hl⟩
theorem encode35 {p:Prg} {ls:List (List Nat)} (ok:POk p) (hb:p.v.bulk ≤ 1048576) (hbl:(LV ls).bulk ≤ 1048576) (hw:Zp8 ls) (hK:∀ h',K (.ret (.bool true)) h'):R 5 [p.v,LV ls] h K:=by
 refine run5 (Nat.le_of_ble_eq_true rfl) ?_
 have hv0:p.v=V.agg [.vec (p.ins.map InD.v) .any,.vec (p.arrays.map ArD.v) .any,.vec (p.body.map Stm.v) .any]:=rfl
 have hL:LV ls=.vec (ls.map fun l=>.vec (Ws l) .any) .any:=rfl
 simp -dsimp -implicitDefEqProofs only [↓STP,STQ,seval,ir5,hv0,hL]
 rw [← hv0]
 refine small35 ok (by omega) fun h1 b hs=>?_
 cases b with
 | false =>
  simp -dsimp -implicitDefEqProofs only [↓STP,STQ,seval,hL]
  refine Zp6 ?_
  simp -dsimp -implicitDefEqProofs only [↓STP,STQ,seval]
  exact hK _
 | true =>
 obtain ⟨vp,l6,l4,l30,_⟩:=hs rfl
 have v:=vp.vt ok
 by_cases c:(20:Int) < (ls.length:Int)
 ·simp -dsimp -implicitDefEqProofs only [↓STP,STQ,seval,hL,List.length_map,eq_true c]
  refine Zp6 ?_
  simp -dsimp -implicitDefEqProofs only [↓STP,STQ,seval]
  exact hK _
 have lok:LsOk ls:=⟨by omega,fun l hl=>⟨by have:=Zs5 hbl l hl; omega,hw l hl⟩⟩
 obtain ⟨e1,e2⟩:=enc_le v l6 (ls:=ls) (by omega)
 simp -dsimp -implicitDefEqProofs only [↓STP,STQ,seval,hL,List.length_map,eq_false c,hv0]
 refine encodeG' (p:=p) (ls:=ls) rfl rfl v (by omega) lok fun h2 r1 u1 a1=>?_
 rcases a1.shape with rfl | ⟨i1,n1,rfl⟩
 all_goals
  simp -dsimp -implicitDefEqProofs only [↓STP,STQ,seval,hL,hv0]
  refine encodeR' (p:=p) (ls:=ls) rfl rfl v (by omega) (by omega) (by omega) lok fun h3 r2 u2 a2=>?_
  have a1:=a1.frame u2.nx u2.old
  rcases a2.shape with rfl | ⟨i2,n2,rfl⟩
  all_goals
   simp -dsimp -implicitDefEqProofs only [↓STP,STQ,seval]
   refine Zp6 ?_
   simp -dsimp -implicitDefEqProofs only [↓STP,STQ,seval]
   refine lists14 a1 a2 e1 e2 ?_
   simp -dsimp -implicitDefEqProofs only [↓STP,STQ,seval]
   exact hK _
end
end YtihjhelbdbeokaaGreatDoor
end Go.Ab
namespace Go.Ab
open Go.RowKit Go.ChangeShapes
section
variable {H':Type} {enc:TypeId × Value→H'} {P:Program} {W:World} {ts:List TypeId}
theorem Zs8 {G:List (Nat × List V)} {E:Env} (hcall:∀ n,Zby P G (call E n)) (hwr:WR (k0 W) h0 W G) {f:FuncId} {vals:Array Value} {vs:List V} (hargs:Zgi (k0 W) W vs vals) (hr:Runs E f vs h0 (fun o _=>o=.ret (.bool true))) :
  Calls P f vals W fun e W'=>e=.returned (.bool true)∧Below W.heap.size W W':=by
 obtain ⟨n,hn⟩:=hr
 refine ((hcall n _ _ _ _ hn).2 (k0 W) W vals hwr hargs).mono fun e W' h=>?_
 obtain ⟨o,h',rfl,k',hwr,hold,x,b,fb,rfl,_,hx⟩:=h
 have hx':VR k' W' (.bool true) x:=hx
 cases hx'
 exact ⟨rfl,hold.misc.2.1,hold.misc.1,hold.misc.2.2,hold.keeps.size,fun b hb=>hold.same b hb (fun id o ho=>by simp [h0] at ho)⟩
theorem Zmj {B:DataW H'→Nat} (hB:BulkOK B) {N:Nat} {G:List (Nat × List V)} {E:Env} (hcall:∀ n,Zby P G (call E n)) (hwr:WR (k0 W) h0 W G) {f:FuncId} {fn:Func} {s:ChangeSpec} {apart fresh handsOn:Bool} {base:Nat} {args:Array Value} {ds gs:List (DataW H')} {before:List MemPlace} {tb:TypeId}
  (hl:laidOutB P=true) (hc:Zgx P ts=true) (hts:(fn.params.toList.all fun t=>ts.contains t && P.readableRec t && decide (t < P.types.size))=true) (hres:fn.resultTypes=#[tb]) (htb:P.underlying tb=some .bool)
  (hvars:s.vars=[]) (hfn:∀ ds:List (DataW H'),ds.length=fn.params.toList.length→s.fn H' ds={ results:=[.lit (.bool true)],args:=ds })
  (hval:∀ (j:Nat) t v,fn.params[j]?=some t→args[j]?=some v→Value.okWide P W .any base t v)
  (hW:DataW.Whole enc P fn.params.toList s.vars apart W args.toList ds gs before)
  (hbulk:(ds.map B).sum ≤ N)
  (hrun:∀ vs,Zlr P fn.params.toList vs→V.bulks vs ≤ N→Runs E f vs h0 (fun o _=>o=.ret (.bool true))) :
  Calls P f args W fun e W'=>∃ v,e=.returned v∧s.post enc P fn apart fresh handsOn false W args v W':=by
 have hW0:=hW
 obtain ⟨p,q,hA,hV,rfl,_,_⟩:=hW
 rw [List.all_eq_true] at hts
 have hts':∀ t ∈ fn.params.toList,ts.contains t=true∧P.readableRec t=true∧t < P.types.size:=fun t ht=>by
  have:=hts t ht
  simp only [Bool.and_eq_true,decide_eq_true_eq] at this
  exact ⟨this.1.1,this.1.2,this.2⟩
 rw [hvars] at hV
 obtain ⟨rfl,rfl⟩:gs=[]∧q=[]:=by
  cases gs with
  | nil=>exact ⟨rfl,hV⟩
  | cons=>exact hV.elim
 obtain ⟨us,u1,u2,u3,u4⟩:=Zxj hB (b0:=base) hc (fun t ht=>(hts' t ht).1) hA (fun j t v h1 h2=>hval j t v (by simpa using h1) (by simpa using h2))
 refine (Zs8 hcall hwr (vs:=us) ⟨by simpa using u1.symm,fun j u hj=>?_⟩ (hrun us u3 (Nat.le_trans u4 hbulk))).mono fun e W' h=>?_
 ·obtain ⟨x,a,b⟩:=u2 j u hj
  exact ⟨x,by simpa using a,b⟩
 obtain ⟨rfl,hb⟩:=h
 have hfn:=hfn ds (Zi8 hA)
 refine ⟨_,rfl,ds,[],p ++ [],[],p,[],hW0,?_,?_,?_,hb.frame _,fun h=>by cases h⟩
 ·rw [List.append_nil,hfn,hres]
  exact trodAll_mk1 (shut_bool htb true)
 ·rw [List.append_nil,hfn]
  exact Zg1 hl hb (fun t ht=>(hts' t ht).2) hA
 ·rw [List.append_nil,hfn,hvars]; rfl
def litX:V→Value
 | .int k n=>.int k n
 | .bool b=>.bool b
 | _=>.nilFunc
theorem Zv9 {g:Nat} {vs:List V} (hp:∀ v ∈ vs,(∃ k n,v=.int k n)∨∃ b,v=.bool b) (hc:∀ (j:Nat) (v:V),vs[j]?=some v→W.cell? ⟨g,j,none⟩=some (litX v)):VR (k0 W) W (.iptr vs) (.pointer (some ⟨g,0,none⟩)):=by
 refine .iptr vs ⟨g,0,none⟩ (fun j=>litX (vs.getD j .undef)) rfl (fun j v hj=>?_) (fun j v hj=>?_)
 ·have e:vs.getD j .undef=v:=by rw [List.getD_eq_getElem?_getD,hj]; rfl
  have h1:=hc j v hj
  have ha:(⟨g,0,none⟩:Addr).add j=⟨g,j,none⟩:=by simp [Addr.add]; try omega
  rw [ha]
  simp only [e]
  refine ⟨h1,Zrl h1,?_⟩
  rcases hp v (List.mem_of_getElem? hj) with ⟨k,n,rfl⟩ | ⟨b,rfl⟩ <;> rfl
 ·have e:vs.getD j .undef=v:=by rw [List.getD_eq_getElem?_getD,hj]; rfl
  simp only [e]
  rcases hp v (List.mem_of_getElem? hj) with ⟨k,n,rfl⟩ | ⟨b,rfl⟩
  ·exact .int k n
  ·exact .bool b
theorem wrG {G:List (Nat × List V)} (h:∀ g cells,(g,cells) ∈ G→VR (k0 W) W (.iptr cells) (.pointer (some ⟨g,0,none⟩))):WR (k0 W) h0 W G:=⟨rfl,fun id o h=>by simp [h0] at h,fun id id' o o' h=>by simp [h0] at h,h⟩
end
end Go.Ab
