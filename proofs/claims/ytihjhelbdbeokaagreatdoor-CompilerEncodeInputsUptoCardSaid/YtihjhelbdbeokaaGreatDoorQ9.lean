/- Part of a proof: Lists of words that grow in the store; two such lists compared; the bits of a number. -/
import Derived.Test.YtihjhelbdbeokaaGreatDoorQ8
set_option linter.unusedVariables false
set_option linter.unusedSimpArgs false
namespace Go.Ab
theorem Zwg {els:List V} (h:∀ e ∈ els,e.cells=[e]):els.flatMap V.cells=els:=by
 induction els with
 | nil=>rfl
 | cons e es ih=>rw [List.flatMap_cons,h e List.mem_cons_self,ih fun x hx=>h x (List.mem_cons_of_mem _ hx)]; rfl
theorem sl_apps {h:H} {o:Option Nat} {cs els:List V} {bytes n:Nat} (a:SlAt h o cs) (hn:cs.length=n) (hel:∀ e ∈ els,e.cells=[e]) (h0:0 < els.length) (hb:bytes ≤ 4096) (hl:n + els.length < 1000000) :
  ∃ h':H,(∀ (st:S) (s:Nat) (ag:Bool) (c2:Cap),st.h=h→appV st s (slV o n) (.vec els c2) 1 bytes ag true=some (.ref h.next 0 (n + els.length) 1,st.withH h')) ∧
   SlAt h' (some h.next) (cs ++ els)∧h'.next=h.next + 1∧∀ i,i < h.next→o ≠ some i→h'.objs i=h.objs i:=by
 subst hn
 have hf:=Zwg hel
 have hne:els ≠ []:=fun e=>by rw [e] at h0; exact absurd h0 (Nat.lt_irrefl _)
 cases o with
 | none =>
  have a:cs=[]:=a
  subst a
  refine ⟨h.new (.cells els),fun st s ag c2 hs=>?_,⟨hne,by rw [Zae,if_pos rfl]; rfl⟩,rfl,fun i hi _=>by rw [Zae,if_neg (Nat.ne_of_lt hi)]⟩
  subst hs
  simp only [slV,appV,lenV,flat,hf,List.length_nil,Nat.zero_add]
  rw [if_pos ⟨by rw [Nat.mul_one],by decide,hb⟩,if_pos ⟨by unfold most; omega,h0⟩]
 | some id =>
  have hg:=Zam a.2
  refine ⟨h.move id (.cells (cs ++ els)),fun st s ag c2 hs=>?_,⟨by intro e; exact hne (List.append_eq_nil_iff.1 e).2,by rw [Zci,if_pos rfl]⟩,rfl,fun i hi hne=>by rw [Zci,if_neg (Nat.ne_of_lt hi),if_neg (fun e=>hne (by rw [e]))]⟩
  subst hs
  simp only [slV,appV,lenV,flat,hf,hg]
  rw [if_pos ⟨by rw [Nat.mul_one],by decide,hb⟩,if_pos ⟨by rw [Nat.mul_one],trivial,by unfold most; omega,h0⟩]
structure EncAt (b:Nat) (h0:H) (os:List (Option Nat)) (ls:List (List Nat)) (a:List Nat) (h:H):Prop where
 len:os.length=ls.length
 o:h.objs b=some (.cells (List.zipWith (fun o (l:List Nat)=>slV o l.length) os ls))
 t:h.objs (b + 1)=some (.cells (Zar a))
 sl:∀ (i:Nat) (o:Option Nat) (l:List Nat),os[i]?=some o→ls[i]?=some l→SlAt h o (Ws l)
 own:∀ (i id:Nat),os[i]?=some (some id)→b + 2 ≤ id∧id < h.next
 inj:∀ (i j id:Nat),os[i]?=some (some id)→os[j]?=some (some id)→i=j
 nx:b + 2 ≤ h.next
 old:∀ j,j < b→h.objs j=h0.objs j
theorem EncAt.zero {h:H} {n m:Nat}:EncAt h.next h (List.replicate n none) (List.replicate n []) (List.replicate m 0) ((h.new (.cells (List.replicate n (.vec [] .full)))).new (.cells (Zar (List.replicate m 0)))):=by
 refine ⟨by simp,?_,?_,fun i o l ho hl=>?_,fun i id hi=>?_,fun i j id hi _=>?_,by simp only [Zah]; omega,fun j hj=>?_⟩
 ·rw [Zae,if_neg (by simp only [Zah]; omega),Zae,if_pos rfl]
  congr 2
  apply List.ext_getElem?
  intro i
  rw [List.getElem?_zipWith]
  simp only [List.getElem?_replicate]
  split <;> rfl
 ·rw [Zae,if_pos (by rw [Zah])]
 ·rw [List.getElem?_replicate] at ho hl
  split at ho
  ·cases ho
   rename_i hlt
   rw [if_pos hlt] at hl
   cases hl
   rfl
  ·cases ho
 ·rw [List.getElem?_replicate] at hi
  split at hi <;> cases hi
 ·rw [List.getElem?_replicate] at hi
  split at hi <;> cases hi
 ·rw [Zae,if_neg (by simp only [Zah]; omega),Zae,if_neg (by omega)]
theorem EncAt.get {b:Nat} {h0 h:H} {os:List (Option Nat)} {ls:List (List Nat)} {a:List Nat} (E:EncAt b h0 os ls a h) {f:Nat} (hf:f < ls.length) :
  ∃ o,os[f]?=some o∧(List.zipWith (fun o (l:List Nat)=>slV o l.length) os ls)[f]?=some (slV o (ls.getD f []).length)∧SlAt h o (Ws (ls.getD f [])):=by
 have ho:f < os.length:=by rw [E.len]; exact hf
 have e:ls[f]?=some (ls.getD f []):=by rw [List.getD_eq_getElem?_getD,List.getElem?_eq_getElem hf]; rfl
 refine ⟨os[f],List.getElem?_eq_getElem ho,?_,E.sl f _ _ (List.getElem?_eq_getElem ho) e⟩
 rw [List.getElem?_zipWith,List.getElem?_eq_getElem ho,e]
theorem EncAt.more {b:Nat} {h0 h:H} {os:List (Option Nat)} {ls:List (List Nat)} {a:List Nat} (E:EncAt b h0 os ls a h) {f:Nat} (hf:f < ls.length) {bs:List Nat} (h1:0 < bs.length) (hl:(ls.getD f []).length + bs.length < 1000000) :
  ∃ (o:Option Nat) (h':H),(List.zipWith (fun o (l:List Nat)=>slV o l.length) os ls)[f]?=some (slV o (ls.getD f []).length) ∧
   (∀ (st:S) (s:Nat) (ag:Bool) (c2:Cap),st.h=h→appV st s (slV o (ls.getD f []).length) (.vec (Ws bs) c2) 1 8 ag true=some (.ref h.next 0 ((ls.getD f []).length + bs.length) 1,st.withH h')) ∧
   h'.get b=some (List.zipWith (fun o (l:List Nat)=>slV o l.length) os ls)∧h'.get (b + 1)=some (Zar a) ∧
   EncAt b h0 (os.set f (some h.next)) (ls.set f (ls.getD f [] ++ bs)) a (h'.set b (.cells ((List.zipWith (fun o (l:List Nat)=>slV o l.length) os ls).set f (.ref h.next 0 ((ls.getD f []).length + bs.length) 1)))):=by
 obtain ⟨o,q1,q2,q3⟩:=E.get hf
 have nx:=E.nx
 have hlen:=E.len
 obtain ⟨h',a1,a2,a3,a4⟩:=sl_apps (els:=Ws bs) (bytes:=8) q3 Zbb (fun e he=>by obtain ⟨x,_,rfl⟩:=List.mem_map.1 he; rfl) (by rw [Zbb]; exact h1) (by decide) (by rw [Zbb]; exact hl)
 rw [Zbb] at a1
 have ob:o ≠ some b:=fun e=>by have:=E.own f b (by rw [q1,e]); omega
 have ot:o ≠ some (b + 1):=fun e=>by have:=E.own f (b + 1) (by rw [q1,e]); omega
 refine ⟨o,h',q2,a1,Zam (by rw [a4 b (by omega) ob]; exact E.o),Zam (by rw [a4 (b + 1) (by omega) ot]; exact E.t),⟨by rw [List.length_set,List.length_set]; exact hlen,?_,?_,fun i o' l ho hl=>?_,fun i id hi=>?_,fun i j id hi hj=>?_,by rw [Zbd]; omega,fun j hj=>?_⟩⟩
 ·rw [Zac,if_pos rfl]
  refine congrArg (fun x=>some (O.cells x)) ?_
  apply List.ext_getElem?
  intro i
  rw [List.getElem?_zipWith,List.getElem?_set,List.getElem?_set,List.getElem?_set,List.getElem?_zipWith,List.length_zipWith]
  by_cases c:f=i
  ·subst c
   rw [if_pos rfl,if_pos rfl,if_pos rfl,if_pos (by omega),if_pos (by omega),if_pos hf]
   simp only [slV,List.length_append]
  ·rw [if_neg c,if_neg c,if_neg c]
 ·rw [Zac,if_neg (by omega),a4 (b + 1) (by omega) ot]; exact E.t
 ·rw [List.getElem?_set] at ho hl
  by_cases c:f=i
  ·subst c
   rw [if_pos rfl,if_pos (by omega)] at ho hl
   cases ho; cases hl
   have e:Ws (ls.getD f [] ++ bs)=Ws (ls.getD f []) ++ Ws bs:=by simp [Ws]
   rw [e]
   exact a2.keep fun id hi=>by cases hi; rw [Zac,if_neg (by omega)]
  ·rw [if_neg c] at ho hl
   refine (E.sl i o' l ho hl).keep fun id hi=>?_
   subst hi
   have:=E.own i id ho
   rw [Zac,if_neg (by omega),a4 id this.2 (fun e=>c (E.inj f i id (by rw [q1,e]) ho))]
 ·rw [List.getElem?_set] at hi
  rw [Zbd]
  by_cases c:f=i
  ·subst c
   rw [if_pos rfl,if_pos (by omega)] at hi
   cases hi; omega
  ·rw [if_neg c] at hi
   have:=E.own i id hi; omega
 ·rw [List.getElem?_set] at hi hj
  by_cases c:f=i
  ·by_cases d:f=j
   ·omega
   ·rw [if_pos c,if_pos (by omega)] at hi
    rw [if_neg d] at hj
    cases hi
    have:=E.own j _ hj; omega
  ·by_cases d:f=j
   ·rw [if_neg c] at hi
    rw [if_pos d,if_pos (by omega)] at hj
    cases hj
    have:=E.own i _ hi; omega
   ·rw [if_neg c] at hi
    rw [if_neg d] at hj
    exact E.inj i j id hi hj
 ·rw [Zac,if_neg (by omega),a4 j (by omega) (fun e=>by have:=E.own f j (by rw [q1,e]); omega)]; exact E.old j hj
theorem EncAt.step {b:Nat} {h0 h:H} {os:List (Option Nat)} {ls:List (List Nat)} {a a':List Nat} (E:EncAt b h0 os ls a h):EncAt b h0 os ls a' (h.set (b + 1) (.cells (Zar a'))):=by
 have nx:=E.nx
 refine ⟨E.len,by rw [Zac,if_neg (by omega)]; exact E.o,by rw [Zac,if_pos rfl],fun i o l ho hl=>(E.sl i o l ho hl).keep fun id hi=>?_,E.own,E.inj,E.nx,fun j hj=>by rw [Zac,if_neg (by omega)]; exact E.old j hj⟩
 subst hi
 have:=E.own i id ho
 rw [Zac,if_neg (by omega)]
def ListsF (h:H) (v:V) (ls:List (List Nat)):Prop:=
 (v=.vec [] .any∧ls=[])∨∃ (id:Nat) (vs:List V),id < h.next∧v=.ref id 0 ls.length 1∧h.get id=some vs∧vs.length=ls.length∧∀ (i:Nat) (x:V) (l:List Nat),vs[i]?=some x→ls[i]?=some l→x.out=some x.outv∧WordsAt h x.outv l
theorem EncAt.lists {b:Nat} {h0 h:H} {os:List (Option Nat)} {ls:List (List Nat)} {a:List Nat} (E:EncAt b h0 os ls a h):ListsF h (.ref b 0 ls.length 1) ls:=by
 have nx:=E.nx
 refine .inr ⟨b,_,by omega,rfl,Zam E.o,by rw [List.length_zipWith,E.len,Nat.min_self],fun i x l hx hl=>?_⟩
 rw [List.getElem?_zipWith,hl] at hx
 cases ho:os[i]? with
 | none=>rw [ho] at hx; cases hx
 | some o =>
  rw [ho] at hx
  cases hx
  have s:=E.sl i o l ho hl
  cases o with
  | none =>
   have s:Ws l=[]:=s
   have:l=[]:=by unfold Ws at s; exact List.map_eq_nil_iff.1 s
   subst this
   exact ⟨rfl,.inl rfl⟩
  | some id=>exact ⟨rfl,.inr ⟨id,(E.own i id ho).2,rfl,Zam s.2⟩⟩
theorem ListsF.frame {h h':H} {v:V} {ls:List (List Nat)} (a:ListsF h v ls) (hn:h.next ≤ h'.next) (e:∀ j,j < h.next→h'.objs j=h.objs j):ListsF h' v ls:=by
 rcases a with a | ⟨id,vs,h1,h2,h3,h4,h5⟩
 ·exact .inl a
 ·exact .inr ⟨id,vs,by omega,h2,by unfold H.get at h3 ⊢; rw [e id h1]; exact h3,h4,fun i x l hx hl=>⟨(h5 i x l hx hl).1,(h5 i x l hx hl).2.frame hn e⟩⟩
def Zgy (w n:Nat):List Nat:=(List.range w).map fun k=>n / 2 ^ k % 2
theorem Zbm {w n:Nat}:(Zgy w n).length=w:=by simp [Zgy]
theorem Zt2 {w n:Nat}:Zgy (w + 1) n=Zgy w n ++ [n / 2 ^ w % 2]:=by simp [Zgy,List.range_succ]
namespace YtihjhelbdbeokaaGreatDoor
section
variable {h:H} {K:Out→H→Prop}
theorem words14 {a b:List Nat} {av bv:V} (ha:WordsAt h av a) (hb:WordsAt h bv b) (hl:a.length ≤ 1000000) (hK:K (.ret (.bool (decide (a=b)))) h):R 20 [av,bv] h K:=by
 obtain ⟨p1,p2,p3,p4⟩:=ha.out
 obtain ⟨o1,o2,o3,o4⟩:=hb.out
 refine run20 (Nat.le_of_ble_eq_true rfl) ?_
 by_cases hlen:(a.length:Int)=b.length
 ·simp -dsimp -implicitDefEqProofs only [↓STP,STQ,seval,ir20,p4,o4,hlen]
  have hlen':a.length=b.length:=by omega
  refine Zao (N:=a.length) (fun i=>⟨upd (upd (upd ρ0 0 av) 1 bv) 5 (I i),m0,0,[],h⟩) (fun i=>a.take i=b.take i) (by simp -dsimp -implicitDefEqProofs only [↓STP,STQ,seval,p3,o3] <;> rfl) rfl (fun i hlt htk=>?_) (fun htk=>?_) mono
  ·obtain ⟨ptr1,r1,r2⟩:=ha.idx hlt
   obtain ⟨ptr,q1,q2⟩:=hb.idx (i:=i) (by omega)
   by_cases he:(a[i]:Int)=((b[i]'(by omega):Nat):Int)
   ·simp -dsimp -implicitDefEqProofs only [↓STP,STQ,seval,p4,o4,Int.ofNat_lt,hlt,r1,r2,q1,q2,he,wi (show i < 9000000000000000000 by omega),p3,o3]
    rw [List.take_add_one,List.take_add_one,htk,List.getElem?_eq_getElem hlt,List.getElem?_eq_getElem (by omega)]
    have:a[i]=b[i]'(by omega):=by omega
    rw [this]
   ·simp -dsimp -implicitDefEqProofs only [↓STP,STQ,seval,p4,o4,Int.ofNat_lt,hlt,r1,r2,q1,q2,he]
    have:a ≠ b:=fun h=>he (by subst h; rfl)
    rw [decide_eq_false this] at hK
    exact hK
  ·simp -dsimp -implicitDefEqProofs only [↓STP,STQ,seval,p4,o4,Int.lt_irrefl]
   have:a=b:=by
    have e1:a.take a.length=a:=List.take_of_length_le (by omega)
    have e2:b.take a.length=b:=List.take_of_length_le (by omega)
    rw [← e1,← e2,htk]
   rw [decide_eq_true this] at hK
   exact hK
 ·simp -dsimp -implicitDefEqProofs only [↓STP,STQ,seval,ir20,p4,o4,hlen]
  have:a ≠ b:=fun h=>hlen (by subst h; rfl)
  rw [decide_eq_false this] at hK
  exact hK
theorem lists14 {ls:List (List Nat)} {av bv:V} (ha:ListsF h av ls) (hb:ListsF h bv ls) (hn:ls.length ≤ 1000) (hl:∀ l ∈ ls,l.length ≤ 1000000) (hK:K (.ret (.bool true)) h):R 22 [av,bv] h K:=by
 refine run22 (Nat.le_of_ble_eq_true rfl) ?_
 rcases ha with ⟨rfl,he⟩ | ⟨i1,v1,a1,rfl,a3,a4,a5⟩
 ·rcases hb with ⟨rfl,_⟩ | ⟨i2,v2,b1,rfl,b3,b4,b5⟩
  ·simp -dsimp -implicitDefEqProofs only [↓STP,STQ,seval,ir22]
   refine Zai (fun c s'=>s'=⟨upd (upd (upd ρ0 0 (.vec [] .any)) 1 (.vec [] .any)) 5 (I 0),m0,0,[],h⟩) (i:=0) (by simp -dsimp -implicitDefEqProofs only [↓STP,STQ,seval] <;> rfl) ?_ mono
   rintro c s' rfl
   simp -dsimp -implicitDefEqProofs only [↓STP,STQ,seval,Int.lt_irrefl]
   exact hK
  ·subst he
   simp -dsimp -implicitDefEqProofs only [↓STP,STQ,seval,ir22,List.length_nil]
   refine Zai (fun c s'=>s'=⟨upd (upd (upd ρ0 0 (.vec [] .any)) 1 (.ref i2 0 0 1)) 5 (I 0),m0,0,[],h⟩) (i:=0) (by simp -dsimp -implicitDefEqProofs only [↓STP,STQ,seval] <;> rfl) ?_ mono
   rintro c s' rfl
   simp -dsimp -implicitDefEqProofs only [↓STP,STQ,seval,Int.lt_irrefl]
   exact hK
 ·rcases hb with ⟨rfl,he⟩ | ⟨i2,v2,b1,rfl,b3,b4,b5⟩
  ·subst he
   simp -dsimp -implicitDefEqProofs only [↓STP,STQ,seval,ir22,List.length_nil]
   refine Zai (fun c s'=>s'=⟨upd (upd (upd ρ0 0 (.ref i1 0 0 1)) 1 (.vec [] .any)) 5 (I 0),m0,0,[],h⟩) (i:=0) (by simp -dsimp -implicitDefEqProofs only [↓STP,STQ,seval] <;> rfl) ?_ mono
   rintro c s' rfl
   simp -dsimp -implicitDefEqProofs only [↓STP,STQ,seval,Int.lt_irrefl]
   exact hK
  ·simp -dsimp -implicitDefEqProofs only [↓STP,STQ,seval,ir22]
   refine Zao (N:=ls.length) (fun i=>⟨upd (upd (upd ρ0 0 (.ref i1 0 ls.length 1)) 1 (.ref i2 0 ls.length 1)) 5 (I i),m0,0,[],h⟩) (fun _=>True) (by simp -dsimp -implicitDefEqProofs only [↓STP,STQ,seval] <;> rfl) trivial (fun i hlt _=>?_) (fun _=>?_) mono
   ·have g1:v1[i]?=some v1[i]:=List.getElem?_eq_getElem (by omega)
    have g2:v2[i]?=some v2[i]:=List.getElem?_eq_getElem (by omega)
    have gl:ls[i]?=some ls[i]:=List.getElem?_eq_getElem hlt
    obtain ⟨c1,c2⟩:=a5 i _ _ g1 gl
    obtain ⟨d1,d2⟩:=b5 i _ _ g2 gl
    have hltI:((i:Nat):Int) < ((ls.length:Nat):Int):=by omega
    have w:=wiM (show i < 9223372036854775807 by omega)
    simp -dsimp -implicitDefEqProofs only [↓STP,STQ,seval,eq_true hltI,Nat.mul_one,a3,b3,g1,g2,c1,d1]
    refine words14 c2 d2 (hl _ (List.getElem_mem hlt)) ?_
    rw [decide_eq_true rfl]
    simp -dsimp -implicitDefEqProofs only [↓STP,STQ,seval,w]
   ·simp -dsimp -implicitDefEqProofs only [↓STP,STQ,seval,Int.lt_irrefl]
    exact hK
end
end YtihjhelbdbeokaaGreatDoor
end Go.Ab
namespace Go.Ab
theorem lt_u64 {n w:Nat} (w2:w ≤ 60) (hn:n < 2 ^ w):n < 18446744073709551616:=
 Nat.lt_of_lt_of_le hn (Nat.le_trans (Nat.pow_le_pow_right (by decide) w2) (by decide))
theorem Zxt {i n:Nat}:Ws (Zgy (i + 1) n)=Ws (Zgy i n) ++ [W (n / 2 ^ i % 2)]:=by rw [Zt2]; simp [Ws]
theorem Zx1 {q:Nat} (h:q < 18446744073709551616):IntKind.u64.wrap (Int.tdiv (q:Int) 2)=((q / 2:Nat):Int):=by
 show IntKind.u64.wrap ((q / 2:Nat):Int)=_
 rw [Zay] <;> omega
theorem Zx0 {q:Nat} (h:q < 18446744073709551616):IntKind.u64.wrap (Int.tmod (q:Int) 2)=((q % 2:Nat):Int):=by
 show IntKind.u64.wrap ((q % 2:Nat):Int)=_
 rw [Zay] <;> omega
namespace YtihjhelbdbeokaaGreatDoor
section
variable {h:H} {K:Out→H→Prop} {p:Prg}
theorem Zwc {n w:Nat} (w1:1 ≤ w) (w2:w ≤ 60) (hn:n < 2 ^ w) (hK:K (.ret (.tuple [.vec (Ws (Zgy w n)) .any,I 0])) h):R 40 [W n,I w] h K:=by
 have h64:=lt_u64 w2 hn
 have hb:max (blen n) 1 ≤ w:=by have:=(blen_le (k:=w) (n:=n)).2 hn; omega
 have c1:¬ ((w:Int) < 1):=by omega
 have c2:¬ ((60:Int) < (w:Int)):=by omega
 have c3:¬ ((w:Int) < ((max (blen n) 1:Nat):Int)):=by omega
 refine run40 (Nat.le_of_ble_eq_true rfl) ?_
 simp -dsimp -implicitDefEqProofs only [↓STP,STQ,seval,ir40,eq_false c1,eq_false c2]
 refine Zhs h64 ?_
 simp -dsimp -implicitDefEqProofs only [↓STP,STQ,seval,eq_false c3]
 refine Zai (fun c s'=>∃ i,i ≤ w∧c=w - i∧s'=⟨upd (upd (upd (upd ρ0 0 (W n)) 6 (.vec (Ws (Zgy i n)) (.own 0))) 20 (I w)) 21 (I i),m0,1,[],h⟩) (i:=w) ⟨0,Nat.zero_le _,rfl,by simp -dsimp -implicitDefEqProofs only [↓STP,STQ,seval] <;> rfl⟩ ?_ mono
 rintro c s' ⟨i,hi,rfl,rfl⟩
 rcases Nat.lt_or_ge i w with hlt | hge
 ·have hltI:((i:Nat):Int) < ((w:Nat):Int):=by omega
  have hsh:(n:Int).fdiv (2 ^ min i IntKind.u64.bits)=((n / 2 ^ i:Nat):Int):=by
   rw [show min i IntKind.u64.bits=i from Nat.min_eq_left (by show i ≤ 64; omega),fdiv_pow]
  have hnn:¬ (((i:Nat):Int) < 0):=by omega
  have hd:n / 2 ^ i < 18446744073709551616:=Nat.lt_of_le_of_lt (Nat.div_le_self _ _) h64
  have ha:Zp5 .and .u64 ((n / 2 ^ i:Nat):Int) 1=some (W (n / 2 ^ i % 2)):=by
   have:=bits_and (a:=n / 2 ^ i) (b:=1) hd (by decide)
   rw [Nat.and_one_is_mod] at this
   exact this
  have w3:=wiM (show i < 9223372036854775807 by omega)
  simp -dsimp -implicitDefEqProofs only [↓STP,STQ,seval,eq_true hltI,eq_false hnn,hsh,ha]
  rw [Zcu (sz:=1) (by simp) Zrw rfl (by decide) (by decide) (by rw [Zbb,Zbm]; omega)]
  simp -dsimp -implicitDefEqProofs only [↓STP,STQ,seval,w3]
  refine ⟨w - (i + 1),by omega,i + 1,hlt,rfl,?_⟩
  rw [Zxt]
 ·have e:i=w:=by omega
  subst e
  simp -dsimp -implicitDefEqProofs only [↓STP,STQ,seval,Int.lt_irrefl]
  exact hK
theorem Zwb {n w:Nat} (w1:1 ≤ w) (w2:w ≤ 60) (hn:n < 2 ^ w) (hK:K (.ret (.tuple [.vec (Ws (Zgy w n)) .any,I 0])) h):R 44 [W n,I w] h K:=by
 have h64:=lt_u64 w2 hn
 have hb:max (blen n) 1 ≤ w:=by have:=(blen_le (k:=w) (n:=n)).2 hn; omega
 have c1:¬ ((w:Int) < 1):=by omega
 have c2:¬ ((60:Int) < (w:Int)):=by omega
 have c3:¬ ((w:Int) < ((max (blen n) 1:Nat):Int)):=by omega
 refine run44 (Nat.le_of_ble_eq_true rfl) ?_
 simp -dsimp -implicitDefEqProofs only [↓STP,STQ,seval,ir44,eq_false c1,eq_false c2]
 refine Zt8 h64 ?_
 simp -dsimp -implicitDefEqProofs only [↓STP,STQ,seval,eq_false c3]
 refine Zai (fun c s'=>∃ i,i ≤ w∧c=w - i∧s'=⟨upd (upd (upd (upd ρ0 0 (W (n / 2 ^ i))) 1 (I w)) 6 (.vec (Ws (Zgy i n)) (.own 0))) 7 (I i),m0,1,[],h⟩) (i:=w) ⟨0,Nat.zero_le _,rfl,by simp -dsimp -implicitDefEqProofs only [↓STP,STQ,seval,Nat.pow_zero,Nat.div_one] <;> rfl⟩ ?_ mono
 rintro c s' ⟨i,hi,rfl,rfl⟩
 rcases Nat.lt_or_ge i w with hlt | hge
 ·have hltI:((i:Nat):Int) < ((w:Nat):Int):=by omega
  have hd:n / 2 ^ i < 18446744073709551616:=Nat.lt_of_le_of_lt (Nat.div_le_self _ _) h64
  have e2:n / 2 ^ (i + 1)=n / 2 ^ i / 2:=by rw [Nat.pow_succ,Nat.div_div_eq_div_mul]
  have w3:=wiM (show i < 9223372036854775807 by omega)
  have g1:=Zx0 hd
  have g2:=Zx1 hd
  simp -dsimp -implicitDefEqProofs only [↓STP,STQ,seval,eq_true hltI,g1]
  rw [Zcu (sz:=1) (by simp) Zrw rfl (by decide) (by decide) (by rw [Zbb,Zbm]; omega)]
  simp -dsimp -implicitDefEqProofs only [↓STP,STQ,seval,w3,g2]
  refine ⟨w - (i + 1),by omega,i + 1,hlt,rfl,?_⟩
  rw [Zxt,e2]; rfl
 ·have e:i=w:=by omega
  subst e
  simp -dsimp -implicitDefEqProofs only [↓STP,STQ,seval,Int.lt_irrefl]
  exact hK
end
end YtihjhelbdbeokaaGreatDoor
end Go.Ab
namespace Go.Ab
def encW (w:Nat) (l:List Nat):List Nat:=l.flatMap (Zgy w)
def encG:List InD→List (List Nat)→List Nat→List (List Nat)→List (List Nat)
 | [],_,_,o=>o
 | d :: ds,ls,a,o=>encG ds ls (Znr a d) (o.set (frmD d) (o.getD (frmD d) [] ++ encW d.width.toNat (Zgb ls a d)))
def encP (p:Prg) (ls:List (List Nat)):List (List Nat):=if errI p ls=0 then encG p.ins ls (atI0 ls) (List.replicate ls.length []) else []
theorem Zcs {w:Nat}:∀ {l:List Nat},(encW w l).length=w * l.length
 | []=>rfl
 | x :: l=>by
  have ih:=Zcs (w:=w) (l:=l)
  unfold encW at ih ⊢
  rw [List.flatMap_cons,List.length_append,Zbm,ih,List.length_cons,Nat.mul_add,Nat.mul_one,Nat.add_comm]
theorem Zn2 {w x:Nat} {l:List Nat}:encW w (l ++ [x])=encW w l ++ Zgy w x:=by unfold encW; rw [List.flatMap_append]; simp
theorem Ziy {α:Type} {l:List α} {f:Nat} {d:α} (h:f < l.length):l.set f (l.getD f d)=l:=by
 apply List.ext_getElem?
 intro q
 rw [List.getElem?_set]
 split
 ·rename_i e
  subst e
  rw [List.getD_eq_getElem?_getD,List.getElem?_eq_getElem h]; rfl
 ·rfl
theorem Zhi {α:Type} {l:List α} {f:Nat} {x d:α} (h:f < l.length):(l.set f x).getD f d=x:=by
 rw [List.getD_eq_getElem?_getD,List.getElem?_set,if_pos rfl,if_pos h]; rfl
theorem Zqx {n:Nat}:(List.replicate n [V.vec [] .full]).flatten=List.replicate n (V.vec [] .full):=by
 induction n with
 | zero=>rfl
 | succ n ih=>rw [List.replicate_succ,List.flatten_cons,ih,List.replicate_succ]; rfl
theorem Zj3:∀ {l:List InD} {ls:List (List Nat)} {a:List Nat} {o:List (List Nat)},(encG l ls a o).length=o.length
 | [],_,_,_=>rfl
 | d :: ds,ls,a,o=>by rw [encG,Zj3,List.length_set]
theorem Zwq:∀ {l:List InD} {ls:List (List Nat)} {a a':List Nat} {o:List (List Nat)} {m:Nat},(∀ d ∈ l,VIn d)→fitG l ls a=some a'→(∀ x ∈ o,x.length ≤ m)→∀ x ∈ encG l ls a o,x.length ≤ m + 1024 * l.length
 | [],_,_,_,o,m,_,_,h,x,hx=>by have:=h x hx; simp; omega
 | d :: ds,ls,a,a',o,m,hv,hf,h,x,hx=>by
  rw [fitG] at hf
  split at hf
  ·rename_i hok
   have hd:=hv d List.mem_cons_self
   have:∀ x ∈ o.set (frmD d) (o.getD (frmD d) [] ++ encW d.width.toNat (Zgb ls a d)),x.length ≤ m + 1024:=fun x hx=>by
    rcases List.mem_or_eq_of_mem_set hx with hx | rfl
    ·have:=h x hx; omega
    ·rw [List.length_append,Zcs]
     have h1:(o.getD (frmD d) []).length ≤ m:=by
      rw [List.getD_eq_getElem?_getD]
      cases e:o[frmD d]? with
      | none=>exact Nat.zero_le _
      | some y=>exact h y (List.mem_of_getElem? e)
     have h2:(Zgb ls a d).length ≤ 64:=by unfold Zgb; rw [List.length_take]; have:=hd.s2; unfold Zcc; omega
     have h3:d.width.toNat ≤ 16:=by have:=hd.w2; omega
     have h4:d.width.toNat * (Zgb ls a d).length ≤ 16 * 64:=Nat.mul_le_mul h3 h2
     omega
   have:=Zwq (fun d hd=>hv d (List.mem_cons_of_mem _ hd)) hf this x hx
   rw [List.length_cons]; omega
  ·cases hf
namespace YtihjhelbdbeokaaGreatDoor
section
variable {h:H} {K:Out→H→Prop} {p:Prg}
theorem encodeG (v:VT p) (l6:p.ins.length ≤ 100) {ls:List (List Nat)} (ok:LsOk ls) (hK:∀ h' r,UpH h h'→ListsF h' r (encP p ls)→K (.ret (.tuple [r,I (errI p ls)])) h'):R 17 [p.v,LV ls] h K:=by
 refine run17 (Nat.le_of_ble_eq_true rfl) ?_
 have hv0:p.v=V.agg [.vec (p.ins.map InD.v) .any,.vec (p.arrays.map ArD.v) .any,.vec (p.body.map Stm.v) .any]:=rfl
 have hL:LV ls=.vec (ls.map fun l=>.vec (Ws l) .any) .any:=rfl
 have hlen:=ok.len
 simp -dsimp -implicitDefEqProofs only [↓STP,STQ,seval,ir17,hv0,hL]
 rw [← hv0,← hL]
 refine checkI v ok fun h1 u1=>?_
 by_cases c:errI p ls=0
 rotate_left
 ·have:encP p ls=[]:=if_neg c
  rw [this] at hK
  simp -dsimp -implicitDefEqProofs only [↓STP,STQ,seval,eq_false c]
  exact hK h1 _ u1 (.inl ⟨rfl,rfl⟩)
 have hres:encP p ls=encG p.ins ls (atI0 ls) (List.replicate ls.length []):=if_pos c
 rw [hres,c] at hK
 have hf:fitB p ls=true:=by
  unfold errI at c
  split at c
  ·rename_i hh; exact absurd c hh
  ·cases q:fitB p ls with
   | true=>rfl
   | false=>rw [q] at c; exact absurd c (by decide)
 obtain ⟨aE,haE⟩:=Zjw hf
 have hlm:∀ b:Nat,b ≤ 4096→mksN (I ls.length) (I ls.length) 1 b=some ls.length:=fun b hb=>Zmg (by omega) hb (by decide)
 simp -dsimp -implicitDefEqProofs only [↓STP,STQ,seval,eq_true c,hv0,hL,List.length_map,hlm 24 (by decide),hlm 8 (by decide),Zfx,Zqx,Zah]
 have E0:EncAt h1.next h1 (List.replicate ls.length none) (List.replicate ls.length []) (List.replicate ls.length 0) _:=EncAt.zero
 refine Zai (fun c s'=>∃ j a h' os outs,j ≤ p.ins.length∧c=p.ins.length - j∧a.length=ls.length∧outs.length=ls.length∧fitG (p.ins.drop j) ls a=some aE∧encG p.ins ls (atI0 ls) (List.replicate ls.length [])=encG (p.ins.drop j) ls a outs∧(∀ l ∈ outs,l.length ≤ 1024 * j)∧EncAt h1.next h1 os outs a h' ∧
  s'=⟨upd (upd (upd (upd (upd (upd ρ0 1 (LV ls)) 7 (.ref h1.next 0 ls.length 1)) 8 (.ref (h1.next + 1) 0 ls.length 1)) 27 (.vec (p.ins.map InD.v) .any)) 28 (I p.ins.length)) 29 (I j),m0,0,[],h'⟩)
  (i:=p.ins.length) ⟨0,List.replicate ls.length 0,_,_,List.replicate ls.length [],Nat.zero_le _,rfl,by simp,by simp,haE,rfl,fun l hl=>by rw [(List.mem_replicate.1 hl).2]; exact Nat.zero_le _,E0,by simp -dsimp -implicitDefEqProofs only [↓STP,STQ,seval,LV,List.length_map] <;> rfl⟩ ?_ mono
 rintro cc s' ⟨j,a,h',os,outs,hj,rfl,hal,hol,hr,hen,hle,E,rfl⟩
 rcases Nat.lt_or_ge j p.ins.length with hi | hi
 ·have hget:=Za5 (f:=InD.v) hi
  have hdm:p.ins[j] ∈ p.ins:=List.getElem_mem hi
  have hdi:=v.ins _ hdm
  have w1:=wiM (show j < 9223372036854775807 by omega)
  have hdr:p.ins.drop j=p.ins[j] :: p.ins.drop (j + 1):=List.drop_eq_getElem_cons hi
  rw [hdr] at hr hen
  rw [fitG] at hr
  rw [encG] at hen
  generalize p.ins[j]=d at *
  split at hr
  rotate_left
  ·cases hr
  rename_i hok
  obtain ⟨hf,hkN,hwid⟩:=hok
  have hf1:=hdi.f1
  have hf2:=hdi.f2
  have hw1:=hdi.w1
  have hw2:=hdi.w2
  have efr:((frmD d:Nat):Int)=d.frm - 1:=by unfold frmD; omega
  have hfI:IntKind.i64.wrap (d.frm - 1)=((frmD d:Nat):Int):=by
   rw [efr,wrap_i64] <;> omega
  have hs1:=hdi.s1
  have hs2:=hdi.s2
  have hsz:Zcc d ≤ 64:=by unfold Zcc; omega
  have hmx:(if (1:Int) > d.size then (1:Int) else d.size)=((Zcc d:Nat):Int):=by unfold Zcc; split <;> omega
  have gl:=Zls hf
  obtain ⟨okl,okw⟩:=ok.get (frmD d)
  have hdw:d.width=((d.width.toNat:Nat):Int):=by omega
  simp -dsimp -implicitDefEqProofs only [↓STP,STQ,seval,Int.ofNat_lt,hi,hget,List.length_map,Zak,Zad,LV,hfI,Za1,hmx]
  unfold Zgb at hen hwid
  unfold Znr at hen hr
  generalize frmD d=f at *
  generalize hld:ls.getD f []=l at *
  generalize hkd:a.getD f 0=k0 at *
  generalize hN:Zcc d=N at *
  generalize hww:d.width.toNat=w at *
  have hfa:f < a.length:=by omega
  have hfo:f < outs.length:=by omega
  generalize hod:outs.getD f []=o0 at *
  have ho0:o0.length ≤ 1024 * j:=by
   rw [← hod,List.getD_eq_getElem?_getD,List.getElem?_eq_getElem hfo]
   exact hle _ (List.getElem_mem hfo)
  have hfI':((f:Nat):Int) < ((ls.length:Nat):Int):=by omega
  refine Zai (fun c s'=>∃ i h'' os',i ≤ N∧c=N - i∧EncAt h1.next h1 os' (outs.set f (o0 ++ encW w ((l.drop k0).take i))) (a.set f (k0 + i)) h'' ∧
   s'=⟨upd (upd (upd (upd (upd (upd (upd (upd (upd (upd ρ0 1 (LV ls)) 7 (.ref h1.next 0 ls.length 1)) 8 (.ref (h1.next + 1) 0 ls.length 1)) 10 (.lptr 0 4 0)) 11 (I ((f:Nat):Int))) 27 (.vec (p.ins.map InD.v) .any)) 28 (I p.ins.length)) 29 (I j)) 38 (I ((N:Nat):Int))) 39 (I i),upd m0 0 (some [.str d.name,I d.frm,I d.width,I d.size]),1,[],h''⟩)
   (i:=N) ⟨0,h',os,Nat.zero_le _,rfl,by rw [List.take_zero,show encW w []=[] from rfl,List.append_nil,Nat.add_zero,← hod,← hkd,Ziy hfo,Ziy hfa]; exact E,by simp -dsimp -implicitDefEqProofs only [↓STP,STQ,seval,LV,List.length_map] <;> rfl⟩ ?_ mono
  clear E
  rintro c2 s' ⟨i,h2,os2,hiN,rfl,E,rfl⟩
  by_cases hlt:i < N
  ·have hltI:((i:Nat):Int) < ((N:Nat):Int):=by omega
   have hkl:k0 + i < l.length:=by omega
   have hklI:((k0 + i:Nat):Int) < ((l.length:Nat):Int):=by omega
   have gt:=Zam E.t
   have ga:=Zd6 (l:=a.set f (k0 + i)) (i:=f) (by rw [List.length_set]; exact hfa)
   rw [Zc4 hfa] at ga
   have gw:=Zm7 hkl
   have hvm:=Zhe hkl hlt
   have hv0:=hwid _ hvm
   have htw:=Zfq hkl
   generalize l.getD (k0 + i) 0=v0 at *
   have w3:=wiM (show i < 9223372036854775807 by omega)
   have w2:IntKind.i64.wrap (((k0 + i:Nat):Int) + 1)=((k0 + (i + 1):Nat):Int):=by rw [wrap_i64] <;> omega
   have hX:(outs.set f (o0 ++ encW w ((l.drop k0).take i))).getD f []=o0 ++ encW w ((l.drop k0).take i):=Zhi hfo
   have hXl:(o0 ++ encW w ((l.drop k0).take i)).length ≤ 200000:=by
    rw [List.length_append,Zcs]
    have h4:w * ((l.drop k0).take i).length ≤ 16 * 64:=Nat.mul_le_mul (by omega) (by rw [List.length_take]; omega)
    omega
   obtain ⟨o,h3,q1,q2,q3,q4,E2⟩:=E.more (f:=f) (bs:=Zgy w v0) (by rw [List.length_set]; exact hfo) (by rw [Zbm]; omega) (by rw [hX,Zbm]; omega)
   rw [hX] at q1 q2 E2
   rw [Zbm] at q2 E2
   have go:=Zam E.o
   have hzl:(List.zipWith (fun o (l:List Nat)=>slV o l.length) os2 (outs.set f (o0 ++ encW w ((l.drop k0).take i)))).length=ls.length:=by
    rw [List.length_zipWith,E.len,Nat.min_self,List.length_set]; exact hol
   have st1:=fun ρ m n' u=>Zco (ρ:=ρ) (m:=m) (n:=n') (u:=u) (j:=f) (v:=.ref h2.next 0 ((o0 ++ encW w ((l.drop k0).take i)).length + w) 1) q3 (by rw [hzl]; exact hf) rfl rfl
   have gt2:=Zam E2.t
   generalize hz4:h3.set h1.next (.cells ((List.zipWith (fun o (l:List Nat)=>slV o l.length) os2 (outs.set f (o0 ++ encW w ((l.drop k0).take i)))).set f (.ref h2.next 0 ((o0 ++ encW w ((l.drop k0).take i)).length + w) 1)))=h4 at *
   have st2:=fun ρ m n' u=>Zco (ρ:=ρ) (m:=m) (n:=n') (u:=u) (j:=f) (v:=I ((k0 + (i + 1):Nat):Int)) gt2 (by rw [Zbq,List.length_set]; omega) rfl rfl
   rw [Zhb,List.set_set] at st2
   have E3:=E2.step (a':=a.set f (k0 + (i + 1)))
   rw [List.set_set,List.append_assoc,← Zn2,← htw] at E3
   simp -dsimp -implicitDefEqProofs only [↓STP,STQ,seval,eq_true hltI,LV,Zak,Za1,hmx,gl,eq_true hfI',Nat.mul_one,gt,ga,Zbb,eq_true hklI,gw]
   rw [hdw]
   refine Zwc (by omega) (by omega) hv0 ?_
   simp -dsimp -implicitDefEqProofs only [↓STP,STQ,seval,eq_true hfI',Nat.mul_one,go,q1,q2,q3,st1,gt2,ga,w2,w3,st2]
   exact ⟨N - (i + 1),by omega,i + 1,_,_,hlt,rfl,E3,rfl⟩
  ·have hiN':i=N:=by omega
   subst hiN'
   simp -dsimp -implicitDefEqProofs only [↓STP,STQ,seval,Zak,Za1,hmx,Int.lt_irrefl,w1]
   refine ⟨p.ins.length - (j + 1),by omega,j + 1,a.set f (k0 + i),h2,os2,outs.set f (o0 ++ encW w ((l.drop k0).take i)),hi,rfl,by rw [List.length_set]; exact hal,by rw [List.length_set]; exact hol,hr,hen,fun x hx=>?_,E,rfl⟩
   rcases List.mem_or_eq_of_mem_set hx with hx | rfl
   ·have:=hle x hx; omega
   ·rw [List.length_append,Zcs]
    have h4:w * ((l.drop k0).take i).length ≤ 16 * 64:=Nat.mul_le_mul (by omega) (by rw [List.length_take]; omega)
    omega
 ·have hj':j=p.ins.length:=by omega
  subst hj'
  rw [List.drop_length,encG] at hen
  have hl:=E.lists
  rw [hol] at hl
  rw [← hen] at hl
  simp -dsimp -implicitDefEqProofs only [↓STP,STQ,seval,Int.lt_irrefl,List.length_map]
  refine hK h' _ (u1.trans ⟨by have:=E.nx; omega,E.old⟩) ?_
  exact hl
end
end YtihjhelbdbeokaaGreatDoor
end Go.Ab
namespace Go.Ab
namespace YtihjhelbdbeokaaGreatDoor
section
variable {K:Out→H→Prop} {p:Prg}
theorem branchR {k:Int} {s:ByteArray} {e:List Exp} {a b:List Stm} {kk:Kn} {lv:Nat} (hp:PV p) (ha:SqSs p a (lv + 1)) (hb:SqSs p b (lv + 1)) (ga:Zcj p (Zal p a)) (gb:Zcj p (Zal p b)) {L:Lr} {σ:TS} {h:H} (A:Rt p L σ h) (ok:TOk p σ) (hifs:σ.ifs ≤ lv) (hlv:lv ≤ 100) (hla:p.arrays.length ≤ 1000)
  (hK:EndR p L h K (if kk.kind ≠ 2 then .error 5 else andT (Zal p a { σ with ifs:=σ.ifs + 1 }) fun σ1=>andT (Zal p b { σ1 with env:=σ.env }) fun σ2 =>
   .ok { σ2 with ifs:=σ.ifs,env:={ σ.env with vars:=Zex σ.env.vars σ1.env.vars σ2.env.vars,words:=maxW σ2.env.words σ1.env.words } })) :
  R 136 [.ptr L.x 0,(Stm.mk k s e a b).v,kk.v] h K:=by
 refine run136 (Nat.le_of_ble_eq_true rfl) ?_
 by_cases c:kk.kind=2
 rotate_left
 ·rw [if_pos c] at hK
  simp -dsimp -implicitDefEqProofs only [↓STP,STQ,seval,ir136,Zab,Stm.v_mk,eq_false c]
  exact hK (by decide) _ _ (Fw.refl _ _)
 rw [if_neg (fun h=>h c)] at hK
 have gx:=Zam A.x
 have w1:IntKind.i64.wrap ((σ.ifs:Int) + 1)=((σ.ifs + 1:Nat):Int):=by rw [wrap_i64] <;> omega
 have el:L.es.length ≤ 10000:=Nat.le_trans A.vl ok.steps
 have wl:=ok.env.wlen
 simp -dsimp -implicitDefEqProofs only [↓STP,STQ,seval,ir136,Zab,Stm.v_mk,eq_true c,gx,Lr.cs,Lr.ov_out]
 rw [Zrt Zmf (by rw [List.length_map]; omega)]
 simp -dsimp -implicitDefEqProofs only [↓STP,STQ,seval,gx,Lr.cs,Lr.ov_out,eq_self]
 have lto:∀ id ∈ L.own,id < h.next:=A.lt
 refine copiedR (wss:=σ.env.words) A.len (by omega) ?_ (fun i ws hi=>?_) (fun ws hw=>?_) (fun h1 o rs cp=>?_)
 ·have h0:=A.o
  have hm:=fun id (q:L.o=some id)=>lto id (L.o_mem q)
  revert h0 hm
  cases L.o with
  | none=>intro h0 _; exact h0
  | some id=>intro h0 hm; exact ⟨h0,hm id rfl⟩
 ·obtain ⟨id,q1,q2⟩:=A.ws i ws hi
  exact ⟨id,q1,q2,lto id (L.r_mem (List.mem_of_getElem? q1))⟩
 ·obtain ⟨i,hi⟩:=List.mem_iff_getElem?.1 hw
  have hil:i < p.arrays.length:=by
   have:=(List.getElem?_eq_some_iff.1 hi).1
   omega
  have hd:=List.getElem?_eq_getElem hil
  have hds:=hp.ars _ (List.getElem_mem hil)
  have:=(ok.env.words i ws _ hi hd).1
  omega
 have A1:Rt p L σ h1:=A.frame cp.nx fun id hid=>cp.old id (lto id hid)
 have F1:Fw L L h h1:=⟨cp.nx,rfl,fun id hl _=>cp.old id hl,fun id hid=>.inl hid⟩
 have gx1:=Zam A1.x
 obtain ⟨A2,F2⟩:=A1.count { σ with ifs:=σ.ifs + 1 } rfl (Nat.le_refl _)
 have ok2:TOk p { σ with ifs:=σ.ifs + 1 }:=⟨ok.env,ok.steps,ok.most⟩
 cases o
 all_goals
  simp -dsimp -implicitDefEqProofs only [↓STP,STQ,seval,gx1,Lr.cs,w1,Zad,ovO]
  refine ha L _ (h1.set L.x (.cells (L.cs p { σ with ifs:=σ.ifs + 1 }))) _ A2 ok2 (by show σ.ifs + 1 ≤ lv + 1; omega) ?_
  have hn2:(h1.set L.x (.cells (L.cs p { σ with ifs:=σ.ifs + 1 }))).next=h1.next:=rfl
  have far2:∀ id,h.next ≤ id→(h1.set L.x (.cells (L.cs p { σ with ifs:=σ.ifs + 1 }))).objs id=h1.objs id:=fun id hid=>by
   rw [Zac,if_neg (by have:=lto _ L.x_mem; omega)]
  generalize h1.set L.x (.cells (L.cs p { σ with ifs:=σ.ifs + 1 }))=h2 at *
  have F12:=F1.trans F2
  cases hr:Zal p a { σ with ifs:=σ.ifs + 1 } with
  | error er =>
   rw [hr] at hK
   intro hne L1 h3 F3
   simp -dsimp -implicitDefEqProofs only [↓STP,STQ,seval,eq_false hne]
   exact hK hne _ _ (F12.trans F3)
  | ok σ1 =>
  rw [hr,Zau] at hK
  have kp1:=ga _ _ ok2 hr
  intro L1 h3 A3 F3
  have hx1:L1.x=L.x:=F3.x
  have gx3:=Zam A3.x
  rw [hx1] at gx3
  have hnx3:=F3.nx
  have st1:σ.steps ≤ σ1.steps:=kp1.steps
  have lp1:σ1.env.loops=σ.env.loops:=kp1.loops
  have if1:σ1.ifs=σ.ifs + 1:=kp1.ifs
  have keep3:∀ id,h.next ≤ id→id < h1.next→h3.objs id=h1.objs id:=fun id q1 q2=>by
   rw [F3.same id (by omega) (fun hm=>by have:=lto id hm; omega),far2 id q1]
  have A4:=A.swap A3 hx1 cp keep3 (by omega) lp1 st1 (cpA_or (L.es.map nmV).length)
  have ok4:TOk p { σ1 with env:=σ.env }:=⟨ok.env,kp1.ok.steps,kp1.ok.most⟩
  simp -dsimp -implicitDefEqProofs only [↓STP,STQ,seval,gx3,Lr.cs]
  rw [Zrt Zmf (by rw [List.length_map]; omega)]
  have lpe:lps σ1.env=lps σ.env:=by unfold lps; rw [lp1]
  simp -dsimp -implicitDefEqProofs only [↓STP,STQ,seval,gx3,Lr.cs,Zad,cp_outs,Zju,Zg6,lpe]
  refine hb _ { σ1 with env:=σ.env } (h3.set L.x (.cells (Lr.cs p _ { σ1 with env:=σ.env }))) _ A4 ok4 (by show σ1.ifs ≤ lv + 1; omega) ?_
  have far4:∀ cs id,id ≠ L.x→(h3.set L.x cs).objs id=h3.objs id:=fun cs id hid=>by rw [Zac,if_neg hid]
  have hcop:=A4
  clear A4
  generalize hh4:h3.set L.x (.cells (Lr.cs p _ { σ1 with env:=σ.env }))=h4 at hcop ⊢
  have far4:∀ id,id ≠ L.x→h4.objs id=h3.objs id:=fun id hid=>by rw [← hh4]; exact far4 _ id hid
  have hn4:h4.next=h3.next:=by rw [← hh4]; rfl
  clear hh4
  have cge:=cp.ge
  have F123:=F12.trans F3
  have xo:=lto _ L.x_mem
  generalize hL2:({ L1 with x:=L.x,es:=L.es,vc:=cpA (L.es.map nmV).length,o:=_,wc:=.any,rs:=rs }:Lr)=L2 at hcop ⊢
  have hx2:L2.x=L.x:=by rw [← hL2]
  have own2:∀ id ∈ L2.own,id=L.x∨(h.next ≤ id∧id < h1.next):=fun id hid=>by
   rw [← hL2] at hid
   rcases List.mem_cons.1 hid with rfl | hid
   ·exact .inl rfl
   ·exact .inr (cge id hid)
  clear hL2
  have F4:Fw L L2 h h4:=⟨by have:=F123.nx; omega,hx2,fun id q1 q2=>by
   rw [far4 id (fun q=>q2 (q ▸ L.x_mem))]; exact F123.same id q1 q2,fun id hid=>(own2 id hid).elim (fun q=>.inl (q ▸ L.x_mem)) (fun q=>.inr q.1)⟩
  cases hr2:Zal p b { σ1 with env:=σ.env } with
  | error er =>
   rw [hr2] at hK
   intro hne L3 h5 F5
   simp -dsimp -implicitDefEqProofs only [↓STP,STQ,seval,eq_false hne]
   exact hK hne _ _ (F4.trans F5)
  | ok σ2 =>
  rw [hr2,Zau] at hK
  have kp2:=gb _ _ ok4 hr2
  intro L3 h5 A5 F5
  have hx3:L3.x=L.x:=F5.x.trans hx2
  have gx5:=Zam A5.x
  rw [hx3] at gx5
  have if2:σ2.ifs=σ.ifs + 1:=kp2.ifs.trans if1
  have w2:IntKind.i64.wrap ((σ2.ifs:Int) - 1)=(σ.ifs:Int):=by rw [wrap_i64] <;> omega
  have l1:L1.es.length ≤ 10000:=Nat.le_trans A3.vl kp1.ok.steps
  have l3:L3.es.length ≤ 10000:=Nat.le_trans A5.vl kp2.ok.steps
  have st2:σ.steps ≤ σ2.steps:=Nat.le_trans st1 kp2.steps
  simp -dsimp -implicitDefEqProofs only [↓STP,STQ,seval,gx5,Lr.cs,w2,Zad,Zju,Zg6]
  refine bothR (by omega) (by omega) (by omega) ?_
  simp -dsimp -implicitDefEqProofs only [↓STP,STQ,seval,Zad,Zju,Zg6]
  obtain ⟨A6,F6⟩:=A5.write (L':={ L3 with es:=Zdj L.es L1.es L3.es,vc:=.any,x:=L.x }) (σ':={ σ2 with ifs:=σ.ifs,env:={ σ2.env with vars:=Zex σ.env.vars σ1.env.vars σ2.env.vars } }) hx3.symm rfl rfl rfl
   (fun t=>by
    show Zaj t (Zdj L.es L1.es L3.es)=(Zex σ.env.vars σ1.env.vars σ2.env.vars t).map _
    rw [Zlg,A.es,A3.es,A5.es]
    unfold Zex
    cases σ.env.vars t with
    | none=>rfl
    | some r =>
     cases σ1.env.vars t with
     | none=>rfl
     | some r1=>cases σ2.env.vars t with
      | none=>rfl
      | some r2 =>
       simp only [Option.map_some,Ziu,Zm2]
       split <;> rfl) (Nat.le_trans Zoj (Nat.le_trans A.vl st2)) A5.ll (.inl rfl) A5.cl A5.cw
  rw [hx3] at A6 F6
  have F46:=(F4.trans F5).trans F6
  have wl1:=kp1.ok.env.wlen
  have wl2:=kp2.ok.env.wlen
  have wr1:L1.rs.length=σ1.env.words.length:=A3.len
  have lp2:σ2.env.loops=σ.env.loops:=kp2.loops
  have keepw:∀ id ∈ L1.own,id ≠ L.x→id ∉ L3.own∧h5.objs id=h3.objs id:=fun id hid hne=>by
   have q1:=A3.lt id hid
   have q2:id ∉ L2.own:=fun hm=>by
    rcases own2 id hm with q | q
    ·exact hne q
    ·rcases F3.own id hid with q' | q'
     ·have:=lto id q'; omega
     ·omega
   refine ⟨fun hm=>?_,?_⟩
   ·rcases F5.own id hm with q | q
    ·exact q2 q
    ·omega
   ·rw [F5.same id (by omega) q2]; exact far4 id hne
  have keep6:∀ id ∈ L1.own,id ≠ L.x→(h5.set L.x (.cells (Lr.cs p { L3 with es:=Zdj L.es L1.es L3.es,vc:=.any,x:=L.x } { σ2 with ifs:=σ.ifs,env:={ σ2.env with vars:=Zex σ.env.vars σ1.env.vars σ2.env.vars } }))).objs id=h3.objs id:=fun id hid hne=>by
   rw [Zac,if_neg hne]; exact (keepw id hid hne).2
  have own4:∀ id ∈ L1.own,id ≠ L.x→id ∉ ({ L3 with es:=Zdj L.es L1.es L3.es,vc:=.any,x:=L.x }:Lr).own:=fun id hid hne hm=>by
   rcases List.mem_cons.1 hm with q | q
   ·exact hne q
   ·exact (keepw id hid hne).1 (List.mem_cons_of_mem _ q)
  have fin:∀ h',Rt p { L3 with es:=Zdj L.es L1.es L3.es,vc:=.any,x:=L.x } { σ2 with ifs:=σ.ifs,env:={ vars:=Zex σ.env.vars σ1.env.vars σ2.env.vars,loops:=σ2.env.loops,words:=maxW σ2.env.words σ1.env.words } } h'→Fw L { L3 with es:=Zdj L.es L1.es L3.es,vc:=.any,x:=L.x } h h'→K (.ret (I 0)) h':=fun h' A' F'=>by
   rw [lp2] at A'
   exact hK _ _ A' F'
  clear hK
  cases ho1:L1.o with
  | none =>
   have hov:L1.ov=.vec [] L1.wc:=by unfold Lr.ov; rw [ho1]
   have hrs:L1.rs=[]:=by have:=A3.o; rw [ho1] at this; exact this
   have hz1:σ1.env.words=[]:=List.eq_nil_of_length_eq_zero (by rw [← wr1,hrs]; rfl)
   have hz2:σ2.env.words=[]:=List.eq_nil_of_length_eq_zero (by rw [hz1] at wl1; rw [wl2,← wl1]; rfl)
   have hm0:maxW σ2.env.words σ1.env.words=σ2.env.words:=by rw [hz1,hz2]; rfl
   rw [hm0] at fin
   have hfin:=fin _ A6 F46
   rw [hov]
   refine Zai (fun k s=>∃ c n,s=⟨upd (upd (upd ρ0 0 (.ptr L.x 0)) 11 (.vec [] c)) 12 (I 0),m0,n,[],h5.set L.x (.cells (Lr.cs p { L3 with es:=Zdj L.es L1.es L3.es,vc:=.any,x:=L.x } { σ2 with ifs:=σ.ifs,env:={ σ2.env with vars:=Zex σ.env.vars σ1.env.vars σ2.env.vars } }))⟩) (i:=0) ?_ ?_ mono
   ·rcases A3.cw with q | q
    ·rw [q]; exact ⟨.any,0,by simp -dsimp -implicitDefEqProofs only [↓STP,STQ,seval] <;> rfl⟩
    ·rw [q]; exact ⟨.own 0,1,by simp -dsimp -implicitDefEqProofs only [↓STP,STQ,seval] <;> rfl⟩
   ·rintro k s ⟨c,n,rfl⟩
    simp -dsimp -implicitDefEqProofs only [↓STP,STQ,seval,Int.lt_irrefl]
    exact hfin
  | some o1 =>
   have hov:L1.ov=.ref o1 0 L1.rs.length 1:=by unfold Lr.ov; rw [ho1]
   have ho3:h3.objs o1=some (.cells (L1.rs.map refV)):=by have:=A3.o; rw [ho1] at this; exact this
   have o1m:o1 ∈ L1.own:=L1.o_mem ho1
   have o1x:o1 ≠ L.x:=by have:=A3.xo ho1; rw [hx1] at this; exact this
   rw [hov]
   have A6':Rt p { L3 with es:=Zdj L.es L1.es L3.es,vc:=.any,x:=L.x } { σ2 with ifs:=σ.ifs,env:={ vars:=Zex σ.env.vars σ1.env.vars σ2.env.vars,loops:=σ2.env.loops,words:=mixW σ2.env.words σ1.env.words 0 } } (h5.set L.x (.cells (Lr.cs p { L3 with es:=Zdj L.es L1.es L3.es,vc:=.any,x:=L.x } { σ2 with ifs:=σ.ifs,env:={ σ2.env with vars:=Zex σ.env.vars σ1.env.vars σ2.env.vars } }))):=by
    rw [mix_zero]; exact A6
   refine Zai (fun k s=>∃ i h',i ≤ L1.rs.length∧k=L1.rs.length - i∧Rt p { L3 with es:=Zdj L.es L1.es L3.es,vc:=.any,x:=L.x } { σ2 with ifs:=σ.ifs,env:={ vars:=Zex σ.env.vars σ1.env.vars σ2.env.vars,loops:=σ2.env.loops,words:=mixW σ2.env.words σ1.env.words i } } h' ∧
    Fw L { L3 with es:=Zdj L.es L1.es L3.es,vc:=.any,x:=L.x } h h'∧(∀ id ∈ L1.own,id ≠ L.x→h'.objs id=h3.objs id) ∧
    s=⟨upd (upd (upd ρ0 0 (.ptr L.x 0)) 11 (.ref o1 0 L1.rs.length 1)) 12 (I i),m0,0,[],h'⟩) (i:=L1.rs.length) ⟨0,_,Nat.zero_le _,rfl,A6',F46,keep6,by simp -dsimp -implicitDefEqProofs only [↓STP,STQ,seval] <;> rfl⟩ ?_ mono
   clear A6 A6' F46 keep6 F6
   generalize ({ L3 with es:=Zdj L.es L1.es L3.es,vc:=.any,x:=L.x }:Lr)=L4 at *
   rintro k s ⟨i,h',hi,rfl,A',F',kw,rfl⟩
   have hlen:σ2.env.words.length=σ1.env.words.length:=by omega
   have g1:h'.get o1=some (L1.rs.map refV):=Zam ((kw o1 o1m o1x).trans ho3)
   rcases Nat.lt_or_ge i L1.rs.length with hil | hil
   ·have hi1:i < σ1.env.words.length:=by omega
    have hi2:i < σ2.env.words.length:=by omega
    have hb:=List.getElem?_eq_getElem hi1
    have ha2:=List.getElem?_eq_getElem hi2
    have hmg:=mix_get hlen hi2
    have hms:=mix_set hlen hi2 hi1
    have hdl:i < p.arrays.length:=by omega
    have hd:=List.getElem?_eq_getElem hdl
    have hds:=hp.ars _ (List.getElem_mem hdl)
    have lb:=(kp1.ok.env.words i _ _ hb hd).1
    have la:=(kp2.ok.env.words i _ _ ha2 hd).1
    generalize σ1.env.words[i]=bv at *
    generalize σ2.env.words[i]=av at *
    obtain ⟨id1,b1,b2⟩:=A3.ws i bv hb
    have b3:=List.mem_of_getElem? b1
    have id1m:id1 ∈ L1.own:=L1.r_mem b3
    have id1x:id1 ≠ L.x:=by have:=A3.xr b3; rw [hx1] at this; exact this
    have hob1:h'.objs id1=some (.cells (Zar bv)):=(kw id1 id1m id1x).trans b2
    have b4:(L1.rs.map refV)[i]?=some (.ref id1 0 bv.length 1):=by rw [List.getElem?_map,b1]; rfl
    obtain ⟨id,c1,c2⟩:=A'.ws i av hmg
    have c3:=List.mem_of_getElem? c1
    obtain ⟨o4,id',d1,d2,d3,d4,d5⟩:=A'.outer hmg
    have hidd:id'=id:=by
     rw [List.getElem?_map,c1] at d3
     have:=Option.some.inj d3
     simp only [refV,V.ref.injEq] at this
     exact this.1.symm
    subst hidd
    have hx4:L4.x=L.x:=F'.x
    have idm:=L4.r_mem c3
    have idx:id' ≠ L.x:=by have:=A'.xr c3; rw [hx4] at this; exact this
    have ne1:id' ≠ id1:=fun q=>own4 id1 id1m id1x (q ▸ idm)
    have ne2:id' ≠ o1:=fun q=>own4 o1 o1m o1x (q ▸ idm)
    have ne4:id' ≠ o4:=by
     have ho4:L4.o=some o4:=by
      unfold Lr.ov at d1
      cases hq:L4.o with
      | none=>rw [hq] at d1; cases d1
      | some q=>rw [hq] at d1; cases d1; rfl
     exact A'.or ho4 c3
    have hab:av.length=bv.length:=by omega
    have gx':=Zam A'.x
    rw [hx4] at gx'
    have lj:((i:Nat):Int) < ((L1.rs.length:Nat):Int):=by omega
    have l4:((i:Nat):Int) < ((L4.rs.length:Nat):Int):=by omega
    simp -dsimp -implicitDefEqProofs only [↓STP,STQ,seval,eq_true lj]
    refine Zao (N:=bv.length) (fun k=>⟨upd (upd (upd (upd ρ0 0 (.ptr L.x 0)) 11 (.ref o1 0 L1.rs.length 1)) 12 (I i)) 13 (I k),m0,0,[],h'.set id' (.cells (Zar (half av bv k)))⟩) (fun _=>True)
     (by rw [Znt,H.set_same c2]; simp -dsimp -implicitDefEqProofs only [↓STP,STQ,seval] <;> rfl) trivial (fun k hk _=>?_) (fun _=>?_) mono
    ·have hka:k < av.length:=by omega
     have e1:(h'.set id' (.cells (Zar (half av bv k)))).get o1=some (L1.rs.map refV):=by rw [Zd7 ne2.symm]; exact g1
     have e2:(h'.set id' (.cells (Zar (half av bv k)))).get id1=some (Zar bv):=by rw [Zd7 ne1.symm]; exact Zam hob1
     have e3:(h'.set id' (.cells (Zar (half av bv k)))).get id'=some (Zar (half av bv k)):=Zju
     have e4:(h'.set id' (.cells (Zar (half av bv k)))).get o4=some (L4.rs.map refV):=by rw [Zd7 ne4.symm]; exact d2
     have e5:=(Zd7 (h:=h') (o:=.cells (Zar (half av bv k))) idx.symm).trans gx'
     have hl0:((k:Nat):Int) < ((av.length:Nat):Int):=by omega
     have hl1:((k:Nat):Int) < ((bv.length:Nat):Int):=by omega
     have t1:=Zcr (ws:=half av bv k) (n:=k) (by rw [Zi1 hab (by omega)]; exact hka)
     rw [Zrc hab hka] at t1
     have t2:=Zcr (ws:=bv) (n:=k) (by omega)
     have wI:=wiM (show k < 9223372036854775807 by omega)
     have hmx:(if ((bv.getD k 0:Nat):Int) > ((av.getD k 0:Nat):Int) then ((bv.getD k 0:Nat):Int) else ((av.getD k 0:Nat):Int))=((max (av.getD k 0) (bv.getD k 0):Nat):Int):=by split <;> omega
     have stw:=fun ρ m n u=>Zco (ρ:=ρ) (m:=m) (n:=n) (u:=u) (j:=k) (v:=I ((max (av.getD k 0) (bv.getD k 0):Nat):Int)) e3 (by rw [Zbq,Zi1 hab (by omega)]; exact hka) rfl rfl
     rw [Zg6,Zfw,Zrb hab hka] at stw
     simp -dsimp -implicitDefEqProofs only [↓STP,STQ,seval,eq_true hl0,eq_true hl1,eq_true lj,eq_true l4,e1,e2,e3,e4,e5,Lr.cs,b4,d1,d3,t1,t2,Za1,hmx,stw,wI,Nat.mul_one]
    ·have e1:(h'.set id' (.cells (Zar (half av bv bv.length)))).get o1=some (L1.rs.map refV):=by rw [Zd7 ne2.symm]; exact g1
     simp -dsimp -implicitDefEqProofs only [↓STP,STQ,seval,eq_true lj,e1,b4,Int.lt_irrefl,Nat.mul_one]
     have hfin:half av bv bv.length=List.zipWith max av bv:=by rw [← hab,Zrd hab]
     rw [hfin]
     obtain ⟨A9,F9⟩:=A'.setWord (ws':=List.zipWith max av bv) hmg c1 (by rw [List.length_zipWith]; omega)
     have A9':Rt p L4 { σ2 with ifs:=σ.ifs,env:={ vars:=Zex σ.env.vars σ1.env.vars σ2.env.vars,loops:=σ2.env.loops,words:=(mixW σ2.env.words σ1.env.words i).set i (List.zipWith max av bv) } } (h'.set id' (.cells (Zar (List.zipWith max av bv)))):=A9
     rw [hms] at A9'
     have w1:=wiM (show i < 9223372036854775807 by omega)
     simp -dsimp -implicitDefEqProofs only [↓STP,STQ,seval,w1]
     exact ⟨L1.rs.length - (i + 1),by omega,i + 1,h'.set id' (.cells (Zar (List.zipWith max av bv))),hil,rfl,A9',F'.trans F9,fun id hid hne=>by
      rw [Zac,if_neg (show ¬ id=id' from fun q=>own4 id hid hne (by rw [q]; exact idm))]; exact kw id hid hne,rfl⟩
   ·have hie:i=σ2.env.words.length:=by omega
    have hii:i=L1.rs.length:=by omega
    rw [hie,mix_all hlen] at A'
    have hfin:=fin _ A' F'
    subst hii
    simp -dsimp -implicitDefEqProofs only [↓STP,STQ,seval,Int.lt_irrefl]
    exact hfin
end
end YtihjhelbdbeokaaGreatDoor
end Go.Ab
namespace Go.Ab
theorem Zuo {p:Prg} (x:Stm) (σ:TS):Nz (Zg3 p x σ):=by
 induction x using Stm.ind generalizing σ with
 | h k s e a b iha ihb =>
  have hs:∀ l:List Stm,(∀ x ∈ l,∀ σ,Nz (Zg3 p x σ))→∀ σ,Nz (Zal p l σ):=by
   intro l
   induction l with
   | nil=>intro _ σ; rw [Zal]; exact .ok
   | cons x xs ih=>intro h σ; rw [Zal]; exact .and (h x (by simp) σ) fun τ=>ih (fun y hy=>h y (by simp [hy])) τ
  rw [Zg3]
  exact .and Zl1 fun σ1=>.and (Zfg fun y _=>Zmr y) fun r=>Zyd (hs a iha) (hs b ihb)
theorem Zwi {s t:ByteArray} {l:List (ByteArray × Kn)} {k:Kn}:Zaj t (l.filter (fun r=>decide (r.1 ≠ s)) ++ [(s,k)])=if t=s then some k else Zaj t l:=by
 have h:∀ m:List (ByteArray × Kn),Zaj t (m ++ [(s,k)])=match Zaj t m with | some v=>some v | none=>if s=t then some k else none:=by
  intro m
  induction m with
  | nil=>simp only [List.nil_append,Zaj]
  | cons a m ih =>
   obtain ⟨a,v⟩:=a
   simp only [List.cons_append,Zaj]
   by_cases c:a=t
   ·rw [if_pos c,if_pos c]
   ·rw [if_neg c,if_neg c]; exact ih
 rw [h,Zfc]
 by_cases c:t=s
 ·rw [if_pos c,if_pos c]; simp [c]
 ·rw [if_neg c,if_neg c]
  cases Zaj t l with
  | some v=>rfl
  | none=>simp only; rw [if_neg (fun e=>c e.symm)]
namespace YtihjhelbdbeokaaGreatDoor
section
variable {K:Out→H→Prop} {p:Prg}
def SqS (p:Prg) (x:Stm) (lv:Nat):Prop:=∀ (L:Lr) (σ:TS) (h:H) (K:Out→H→Prop),Rt p L σ h→TOk p σ→σ.ifs ≤ lv→EndR p L h K (Zg3 p x σ) →
 R 110 [.ptr L.x 0,x.v] h K
theorem stmtR {k:Int} {s:ByteArray} {e:List Exp} {a b:List Stm} {lv:Nat} (okp:POk p) (hp:PV p) (hla:p.arrays.length ≤ 1000) (hv:VS (.mk k s e a b) lv) (ok:SOk (.mk k s e a b)) (ha:SqSs p a (lv + 1)) (hb:SqSs p b (lv + 1)) (ga:Zcj p (Zal p a)) (gb:Zcj p (Zal p b)):SqS p (.mk k s e a b) lv:=by
 intro L σ h K A okσ hifs hK
 obtain ⟨v1,v2,v3,v4,v5,v6,v7,v8,v9,v10,v11⟩:=VS_mk.1 hv
 obtain ⟨_,_,_,_,_,oke,_,_⟩:=Ziq ok
 rw [Zg3] at hK
 refine run110 (Nat.le_of_ble_eq_true rfl) ?_
 simp -dsimp -implicitDefEqProofs only [↓STP,STQ,seval,ir110,Stm.v_mk]
 refine stepR A okσ.steps ?_
 cases hst:Zhu σ with
 | error er =>
  have hne:=Zl1 er hst
  rw [hst] at hK
  rw [Zbk]
  simp -dsimp -implicitDefEqProofs only [↓STP,STQ,seval,eq_false hne]
  exact hK hne _ _ (Fw.refl _ _)
 | ok σ1 =>
 rw [hst,Zau] at hK
 rw [Zc1]
 obtain ⟨rfl,kp1⟩:=Zix okσ hst
 intro h2 A2 F2
 simp -dsimp -implicitDefEqProofs only [↓STP,STQ,seval]
 refine Zxo hp (by rw [v4]; split <;> decide) (fun x hx=>exprR okp hp x _ (v9 x hx) (oke x hx)) v9 (fun x _ _=>Zmr x) A2 kp1.ok ?_
 cases hex:Za9 p ({ σ with steps:=σ.steps + 1 }:TS).env e with
 | error er =>
  rw [hex] at hK
  intro hne h3 F3
  simp -dsimp -implicitDefEqProofs only [↓STP,STQ,seval,eq_false hne]
  exact hK hne _ _ (F2.trans F3)
 | ok lm =>
 obtain ⟨l,m⟩:=lm
 rw [hex,Zau] at hK
 obtain ⟨hkl,hm,hll⟩:=Zff hp kp1.ok.env v9 l m hex
 intro h3 A3 F3
 have F23:=F2.trans F3
 have ok3:TOk p { ({ σ with steps:=σ.steps + 1 }:TS) with most:=max σ.most m }:=⟨okσ.env,kp1.ok.steps,by have:=okσ.most; show max σ.most m ≤ 60; omega⟩
 have hK:EndR p L h K (Zg4 p k s l (Zal p a) (Zal p b) { ({ σ with steps:=σ.steps + 1 }:TS) with most:=max σ.most m }):=hK
 have hK:EndR p L h3 K (Zg4 p k s l (Zal p a) (Zal p b) { ({ σ with steps:=σ.steps + 1 }:TS) with most:=max σ.most m }):=by
  cases hq:Zg4 p k s l (Zal p a) (Zal p b) { ({ σ with steps:=σ.steps + 1 }:TS) with most:=max σ.most m } with
  | ok τ=>rw [hq] at hK; exact fun L' h' A' F'=>hK _ _ A' (F23.trans F')
  | error er=>rw [hq] at hK; exact fun hne L' h' F'=>hK hne _ _ (F23.trans F')
 have vl3:L.es.length ≤ σ.steps:=A.vl
 have e3:({ ({ σ with steps:=σ.steps + 1 }:TS) with most:=max ({ σ with steps:=σ.steps + 1 }:TS).most (l,m).2 }:TS)={ ({ σ with steps:=σ.steps + 1 }:TS) with most:=max σ.most m }:=rfl
 rw [e3] at A3
 have st3:σ.steps + 1=({ ({ σ with steps:=σ.steps + 1 }:TS) with most:=max σ.most m }:TS).steps:=rfl
 have if3:({ ({ σ with steps:=σ.steps + 1 }:TS) with most:=max σ.most m }:TS).ifs=σ.ifs:=rfl
 clear hst hex A2
 generalize ({ ({ σ with steps:=σ.steps + 1 }:TS) with most:=max σ.most m }:TS)=τ at *
 have okn:=fun i=>Zb6 hkl i
 have gx:=Zam A3.x
 have kk:k=1∨k=2∨k=3∨k=4∨k=5:=by omega
 have h0:0 < l.length:=by rw [hll,v4]; split <;> decide
 have g0:=Zbg (l:=l) (i:=0) h0
 have hv0:V.agg [.vec (p.ins.map InD.v) .any,.vec (p.arrays.map ArD.v) .any,.vec (p.body.map Stm.v) .any]=p.v:=rfl
 have m2:p.arrays.length ≤ 9223372036854775807:=by omega
 unfold Zg4 at hK
 rcases kk with rfl | rfl | rfl | rfl | rfl
 ·rw [if_pos rfl] at hK
  unfold setT at hK
  simp -dsimp -implicitDefEqProofs only [↓STP,STQ,seval]
  refine takenR okp A3 ok3.steps ?_
  cases ht:Zdl p τ.env s with
  | true =>
   rw [ht,if_pos rfl] at hK
   simp -dsimp -implicitDefEqProofs only [↓STP,STQ,seval]
   exact hK (by decide) _ _ (Fw.refl _ _)
  | false =>
   rw [ht,if_neg (by decide)] at hK
   have m4:L.es.length ≤ 1000000:=by have:=ok3.steps; omega
   have hfl:(L.es.filter fun r=>decide (r.1 ≠ s)).length ≤ L.es.length:=List.length_filter_le _ _
   simp -dsimp -implicitDefEqProofs only [↓STP,STQ,seval,gx,Lr.cs,g0,Kn.v_clen,Kn.v_mkEl]
   refine Zqh m4 ?_
   simp -dsimp -implicitDefEqProofs only [↓STP,STQ,seval,gx,Lr.cs,g0,Kn.v_clen,Kn.v_mkEl,eq_self]
   refine Zxy ?_
   simp -dsimp -implicitDefEqProofs only [↓STP,STQ,seval,Zab]
   rw [Zcu (sz:=5) (by simp) Zi0 rfl (by decide) (by decide) (by rw [List.length_map]; omega)]
   simp -dsimp -implicitDefEqProofs only [↓STP,STQ,seval,gx,Lr.cs,Zad,mkEl,V.cells]
   obtain ⟨A4,F4⟩:=A3.write (L':={ L with es:=(L.es.filter fun r=>decide (r.1 ≠ s)) ++ [(s,⟨(nthK l 0).kind,(nthK l 0).w,false,0⟩)],vc:=.any }) (σ':={ τ with env:={ τ.env with vars:=setV τ.env.vars s (some ((nthK l 0).kind,(nthK l 0).w)) } }) rfl rfl rfl rfl
    (fun t=>by
     show Zaj t (_ ++ _)=(setV τ.env.vars s (some ((nthK l 0).kind,(nthK l 0).w)) t).map _
     rw [Zwi,A3.es]; unfold setV
     by_cases c:t=s
     ·rw [if_pos c,if_pos c]; rfl
     ·rw [if_neg c,if_neg c]) (by simp only [List.length_append,List.length_cons,List.length_nil]; omega) A3.ll (.inl rfl) A3.cl A3.cw
   have hcs:Lr.cs p { L with es:=(L.es.filter fun r=>decide (r.1 ≠ s)) ++ [(s,⟨(nthK l 0).kind,(nthK l 0).w,false,0⟩)],vc:=.any } { τ with env:={ τ.env with vars:=setV τ.env.vars s (some ((nthK l 0).kind,(nthK l 0).w)) } } =
     [.vec (p.ins.map InD.v) .any,.vec (p.arrays.map ArD.v) .any,.vec (p.body.map Stm.v) .any,.vec ((L.es.filter fun r=>decide (r.1 ≠ s)).map nmV ++ [nmV (s,⟨(nthK l 0).kind,(nthK l 0).w,false,0⟩)]) .any,.vec ((lps τ.env).map nmV) L.lc,L.ov,I τ.steps,I τ.most,I τ.ifs]:=by
    unfold Lr.cs; rw [List.map_append]; rfl
   rw [hcs] at A4 F4
   exact hK _ _ A4 F4
 ·rw [if_neg (by decide),if_pos rfl] at hK
  have h1:1 < l.length:=by rw [hll,v4,if_pos (.inl rfl)]; decide
  have g1:=Zbg (l:=l) (i:=1) h1
  unfold Zkt at hK
  simp -dsimp -implicitDefEqProofs only [↓STP,STQ,seval,gx,Lr.cs]
  rw [hv0]
  refine Zxi m2 ?_
  have e2:=@Zv5 p s
  cases c2:arOf p s with
  | none =>
   rw [c2] at e2 hK
   simp only at e2 hK
   rw [e2]
   simp -dsimp -implicitDefEqProofs only [↓STP,STQ,seval]
   exact hK (by decide) _ _ (Fw.refl _ _)
  | some i =>
   rw [c2] at e2 hK
   simp only at e2 hK
   rw [e2]
   obtain ⟨d,hd,hn,hg⟩:=Zc0 c2
   rw [hg] at hK
   have hds:=hp.ars d (List.mem_of_getElem? hd)
   have hdv:(p.arrays.map ArD.v)[i]?=some d.v:=by rw [List.getElem?_map,hd]; rfl
   have hwl:i < τ.env.words.length:=by
    rw [ok3.env.wlen]
    rcases Nat.lt_or_ge i p.arrays.length with h' | h'
    ·exact h'
    ·rw [List.getElem?_eq_none h'] at hd; cases hd
   have hws:=List.getElem?_eq_getElem hwl
   generalize τ.env.words[i]=ws at hws
   have hlen:=(ok3.env.words i ws d hws hd).1
   have hneg:¬ (i:Int) < 0:=by omega
   simp -dsimp -implicitDefEqProofs only [↓STP,STQ,seval,eq_false hneg,gx,Lr.cs,g0,Kn.v_clen,Kn.v_mkEl,hdv,Zdg]
   refine Zva (by omega) (by omega) (okn 0).lt ?_
   cases hpl:Zb0 (nthK l 0) d.size with
   | error er =>
    rw [hpl] at hK
    have hne:er ≠ 0:=Zg9 er hpl
    rw [Zbk]
    simp -dsimp -implicitDefEqProofs only [↓STP,STQ,seval,eq_false hne]
    exact hK hne _ _ (Fw.refl _ _)
   | ok n =>
    rw [hpl,Zau] at hK
    rw [Zc1]
    have hnl:n < ws.length:=by
     unfold Zb0 at hpl
     split at hpl
     ·cases hpl
     ·split at hpl
      ·cases hpl
      ·cases hpl; omega
    by_cases c:(nthK l 1).kind=1
    rotate_left
    ·rw [if_pos c] at hK
     simp -dsimp -implicitDefEqProofs only [↓STP,STQ,seval,g1,Kn.v_clen,Zab,eq_false c]
     exact hK (by decide) _ _ (Fw.refl _ _)
    rw [if_neg (by simp [c])] at hK
    obtain ⟨id,q1,q2⟩:=A3.ws i ws hws
    obtain ⟨o,id',d1,d2,d3,d4,d5⟩:=A3.outer hws
    have hidd:id'=id:=by
     rw [List.getElem?_map,q1] at d3
     have:=Option.some.inj d3
     simp only [refV,V.ref.injEq] at this
     exact this.1.symm
    subst hidd
    have hnI:((n:Nat):Int) < ((ws.length:Nat):Int):=by omega
    have l4:((i:Nat):Int) < ((L.rs.length:Nat):Int):=by omega
    have stw:=fun ρ m n' u=>Zco (ρ:=ρ) (m:=m) (n:=n') (u:=u) (j:=n) (v:=I (((nthK l 1).w:Nat):Int)) d5 (by rw [Zbq]; exact hnl) rfl rfl
    rw [Zfw] at stw
    simp -dsimp -implicitDefEqProofs only [↓STP,STQ,seval,g1,Kn.v_clen,Zab,eq_true c,gx,Lr.cs,d1,d2,d3,eq_true l4,eq_true hnI,Nat.mul_one,stw]
    obtain ⟨A4,F4⟩:=A3.setWord (ws':=ws.set n (nthK l 1).w) hws q1 (by rw [List.length_set])
    have hgw:τ.env.words.getD i []=ws:=by rw [List.getD_eq_getElem?_getD,hws]; rfl
    have A4':Rt p L { τ with env:={ τ.env with words:=setW τ.env.words i n (nthK l 1).w } } (h3.set id' (.cells (Zar (ws.set n (nthK l 1).w)))):=by
     unfold setW; rw [hgw]; exact A4
    exact hK _ _ A4' F4
 ·rw [if_neg (by decide),if_neg (by decide),if_pos rfl] at hK
  unfold ifT at hK
  simp -dsimp -implicitDefEqProofs only [↓STP,STQ,seval,g0,Kn.v_clen,Kn.v_mkEl]
  rw [← Stm.v_mk]
  refine branchR (e:=e) (k:=3) hp ha hb ga gb A3 ok3 (by omega) (by omega) hla ?_
  cases hq:(if (nthK l 0).kind ≠ 2 then (.error 5:TR TS) else andT (Zal p a { τ with ifs:=τ.ifs + 1 }) fun σ1=>andT (Zal p b { σ1 with env:=τ.env }) fun σ2 =>
   .ok { σ2 with ifs:=τ.ifs,env:={ τ.env with vars:=Zex τ.env.vars σ1.env.vars σ2.env.vars,words:=maxW σ2.env.words σ1.env.words } }) with
  | ok τ' =>
   rw [hq] at hK
   intro L' h' A' F'
   simp -dsimp -implicitDefEqProofs only [↓STP,STQ,seval]
   exact hK _ _ A' F'
  | error er =>
   rw [hq] at hK
   intro hne L' h' F'
   simp -dsimp -implicitDefEqProofs only [↓STP,STQ,seval]
   exact hK hne _ _ F'
 ·rw [if_neg (by decide),if_neg (by decide),if_neg (by decide),if_pos rfl] at hK
  have h1:1 < l.length:=by rw [hll,v4,if_pos (.inr rfl)]; decide
  have g1:=Zbg (l:=l) (i:=1) h1
  simp -dsimp -implicitDefEqProofs only [↓STP,STQ,seval,g0,g1,Kn.v_clen,Kn.v_mkEl]
  rw [← Stm.v_mk]
  refine loopR (k:=4) (e:=e) (b:=b) okp hp (lv:=lv + 1) ha ga A3 ok3 (by omega) hkl ?_
  cases hq:forT p s l (Zal p a) τ with
  | ok τ' =>
   rw [hq] at hK
   intro L' h' A' F'
   simp -dsimp -implicitDefEqProofs only [↓STP,STQ,seval]
   exact hK _ _ A' F'
  | error er =>
   rw [hq] at hK
   intro hne L' h' F'
   simp -dsimp -implicitDefEqProofs only [↓STP,STQ,seval]
   exact hK hne _ _ F'
 ·rw [if_neg (by decide),if_neg (by decide),if_neg (by decide),if_neg (by decide)] at hK
  by_cases c:0 < τ.ifs
  ·have c':(0:Int) < (τ.ifs:Int):=by omega
   rw [if_pos c] at hK
   simp -dsimp -implicitDefEqProofs only [↓STP,STQ,seval,gx,Lr.cs,eq_true c']
   exact hK (by decide) _ _ (Fw.refl _ _)
  ·have c':¬ (0:Int) < (τ.ifs:Int):=by omega
   rw [if_neg c] at hK
   simp -dsimp -implicitDefEqProofs only [↓STP,STQ,seval,gx,Lr.cs,eq_false c']
   exact hK _ _ A3 (Fw.refl _ _)
theorem Zjc {l:List Stm} {lv:Nat} (hp:PV p) (hlen:l.length ≤ 9223372036854775807) (ih:∀ x ∈ l,SqS p x lv) (hv:VSs l lv):SqSs p l lv:=by
 intro L σ h K A ok hifs hK
 have good:∀ j,Zcj p (Zal p (l.take j)):=fun j=>Zd3 hp (VSs_all.2 fun x hx=>VSs_all.1 hv x (List.mem_of_mem_take hx))
 refine run86 (Nat.le_of_ble_eq_true rfl) ?_
 simp -dsimp -implicitDefEqProofs only [↓STP,STQ,seval,ir86,List.length_map]
 refine Zai (fun k s=>∃ j τ L' h',j ≤ l.length∧k=l.length - j∧Zal p (l.take j) σ=.ok τ∧Rt p L' τ h'∧Fw L L' h h' ∧
  s=⟨upd (upd (upd ρ0 0 (.ptr L.x 0)) 1 (.vec (l.map Stm.v) .any)) 5 (I j),m0,0,[],h'⟩) (i:=l.length) ⟨0,σ,L,h,Nat.zero_le _,rfl,by rw [List.take_zero,Zal],A,Fw.refl _ _,by simp -dsimp -implicitDefEqProofs only [↓STP,STQ,seval] <;> rfl⟩ ?_ mono
 rintro k s ⟨j,τ,L',h',hj,rfl,hr,A',F',rfl⟩
 have kp:=good j _ _ ok hr
 rcases Nat.lt_or_ge j l.length with hi | hi
 ·have hget:=Za5 (f:=Stm.v) hi
  have hx:=ih _ (List.getElem_mem hi)
  have w1:=wiM (show j < 9223372036854775807 by omega)
  have htk:=Zjb hi hr
  have hnz:=@Zuo p l[j] τ
  generalize l[j]=x at *
  simp -dsimp -implicitDefEqProofs only [↓STP,STQ,seval,List.length_map,Int.ofNat_lt,hi,hget,Zun,Stm.v_outs,Stm.v_clen,Stm.v_tk,Stm.v_ag,Stm.v_out,eq_self]
  rw [← F'.x]
  refine hx _ _ _ _ A' kp.ok (by rw [kp.ifs]; exact hifs) ?_
  cases hs1:Zg3 p x τ with
  | error er =>
   rw [hs1] at htk
   have hfa:=Zej htk
   rw [hfa] at hK
   intro hne L4 h4 F4
   simp -dsimp -implicitDefEqProofs only [↓STP,STQ,seval,eq_false hne]
   exact hK hne _ _ (F'.trans F4)
  | ok τ2 =>
   rw [hs1] at htk
   intro L4 h4 A4 F4
   simp -dsimp -implicitDefEqProofs only [↓STP,STQ,seval,w1]
   exact ⟨l.length - (j + 1),by omega,j + 1,τ2,L4,h4,hi,rfl,htk,A4,F'.trans F4,by rw [F'.x]⟩
 ·have hj':j=l.length:=by omega
  subst hj'
  rw [List.take_length] at hr
  rw [hr] at hK
  simp -dsimp -implicitDefEqProofs only [↓STP,STQ,seval,List.length_map,Int.lt_irrefl]
  exact hK _ _ A' F'
theorem stmtRR (okp:POk p) (hp:PV p) (hla:p.arrays.length ≤ 1000) (x:Stm):∀ lv,VS x lv→SOk x→SqS p x lv:=by
 induction x using Stm.ind with
 | h k s e a b iha ihb =>
  intro lv hv ok
  obtain ⟨v1,v2,v3,v4,v5,v6,v7,v8,v9,v10,v11⟩:=VS_mk.1 hv
  obtain ⟨_,_,_,la,lb,oke,oka,okb⟩:=Ziq ok
  have hm:=Za4
  exact stmtR okp hp hla hv ok (Zjc hp (by omega) (fun x hx=>iha x hx _ (VSs_all.1 v10 x hx) (oka x hx)) v10) (Zjc hp (by omega) (fun x hx=>ihb x hx _ (VSs_all.1 v11 x hx) (okb x hx)) v11) (Zd3 hp v10) (Zd3 hp v11)
theorem stmtsR (okp:POk p) (hp:PV p) (hla:p.arrays.length ≤ 1000) {l:List Stm} {lv:Nat} (hl:l.length ≤ maxLen) (hv:VSs l lv) (ok:∀ x ∈ l,SOk x):SqSs p l lv:=
 Zjc hp (by have:=Za4; omega) (fun x hx=>stmtRR okp hp hla x _ (VSs_all.1 hv x hx) (ok x hx)) hv
end
end YtihjhelbdbeokaaGreatDoor
end Go.Ab
namespace Go.Ab
def strs (l:List ByteArray):List V:=l.map V.str
theorem Zks {l:List ByteArray}:∀ e ∈ strs l,e.cells.length=1:=by
 intro e he
 obtain ⟨r,_,rfl⟩:=List.mem_map.1 he
 rfl
theorem Zqp {l:List ByteArray} {i:Nat} (h:i < l.length):(strs l)[i]?=some (.str l[i]):=by
 unfold strs; rw [List.getElem?_map,List.getElem?_eq_getElem h]; rfl
theorem Ziw {l:List ByteArray}:(strs l).length=l.length:=by simp [strs]
theorem Zsy {l:List ByteArray} {i:Nat} (hi:i < l.length) (h:(l.take i).Nodup) (hn:∀ a ∈ l.take i,a ≠ l[i]):(l.take (i + 1)).Nodup:=by
 rw [List.take_add_one,List.getElem?_eq_getElem hi,Option.toList_some,List.nodup_append]
 exact ⟨h,by simp,fun a ha b hb=>by rw [List.mem_singleton] at hb; subst hb; exact hn a ha⟩
namespace YtihjhelbdbeokaaGreatDoor
section
variable {K:Out→H→Prop} {p:Prg} {h:H}
theorem unlikeR (li:p.ins.length ≤ 1000) (la:p.arrays.length ≤ 1000) (hK:K (.ret (.bool (Zgl p))) h):R 85 [p.v] h K:=by
 refine run85 (Nat.le_of_ble_eq_true rfl) ?_
 have hv0:p.v=V.agg [.vec (p.ins.map InD.v) .any,.vec (p.arrays.map ArD.v) .any,.vec (p.body.map Stm.v) .any]:=rfl
 simp -dsimp -implicitDefEqProofs only [↓STP,STQ,seval,ir85,hv0]
 refine Zao (N:=p.ins.length) (fun j=>⟨upd (upd (upd ρ0 1 (.lptr 0 3 0)) 3 (.vec (strs ((p.ins.map InD.name).take j)) (.own 1))) 4 (I j),upd m0 0 (some [.vec (p.ins.map InD.v) .any,.vec (p.arrays.map ArD.v) .any,.vec (p.body.map Stm.v) .any]),2,[],h⟩) (fun j=>True) (by simp -dsimp -implicitDefEqProofs only [↓STP,STQ,seval] <;> rfl) trivial (fun j hj pj=>?_) (fun pj=>?_) mono
 ·have g:(p.ins.map InD.v)[j]?=some (InD.v p.ins[j]):=by rw [List.getElem?_map,List.getElem?_eq_getElem hj]; rfl
  have lj:(j:Int) < (p.ins.length:Int):=by omega
  have e:(p.ins.map InD.name).take (j + 1)=(p.ins.map InD.name).take j ++ [p.ins[j].name]:=by
   rw [List.take_add_one,List.getElem?_map,List.getElem?_eq_getElem hj]; rfl
  simp -dsimp -implicitDefEqProofs only [↓STP,STQ,seval,List.length_map,eq_true lj,g,Zak]
  rw [Zcu (sz:=1) (by simp) Zks rfl (by decide) (by decide) (by rw [Ziw,List.length_take]; omega)]
  simp -dsimp -implicitDefEqProofs only [↓STP,STQ,seval,wi (show j < 9000000000000000000 by omega)]
  rw [e]; unfold strs; rw [List.map_append]; rfl
 simp -dsimp -implicitDefEqProofs only [↓STP,STQ,seval,List.length_map,Int.lt_irrefl]
 refine Zao (N:=p.arrays.length) (fun j=>⟨upd (upd (upd ρ0 1 (.lptr 0 3 0)) 3 (.vec (strs (p.ins.map InD.name ++ (p.arrays.map ArD.name).take j)) (.own 1))) 5 (I j),upd m0 0 (some [.vec (p.ins.map InD.v) .any,.vec (p.arrays.map ArD.v) .any,.vec (p.body.map Stm.v) .any]),2,[],h⟩) (fun j=>True)
  (by rw [List.take_zero,List.append_nil,List.take_of_length_le (by rw [List.length_map]; omega)]; simp -dsimp -implicitDefEqProofs only [↓STP,STQ,seval] <;> rfl) trivial (fun j hj pj=>?_) (fun pj=>?_) mono
 ·have g:(p.arrays.map ArD.v)[j]?=some (ArD.v p.arrays[j]):=by rw [List.getElem?_map,List.getElem?_eq_getElem hj]; rfl
  have lj:(j:Int) < (p.arrays.length:Int):=by omega
  have e:(p.arrays.map ArD.name).take (j + 1)=(p.arrays.map ArD.name).take j ++ [p.arrays[j].name]:=by
   rw [List.take_add_one,List.getElem?_map,List.getElem?_eq_getElem hj]; rfl
  simp -dsimp -implicitDefEqProofs only [↓STP,STQ,seval,List.length_map,eq_true lj,g,Zdg]
  rw [Zcu (sz:=1) (by simp) Zks rfl (by decide) (by decide) (by rw [Ziw,List.length_append,List.length_take,List.length_map]; omega)]
  simp -dsimp -implicitDefEqProofs only [↓STP,STQ,seval,wi (show j < 9000000000000000000 by omega)]
  rw [e]; unfold strs; simp only [List.map_append,List.append_assoc]; rfl
 simp -dsimp -implicitDefEqProofs only [↓STP,STQ,seval,List.length_map,Int.lt_irrefl]
 have hall:p.ins.map InD.name ++ (p.arrays.map ArD.name).take p.arrays.length=p.ins.map InD.name ++ p.arrays.map ArD.name:=by
  rw [List.take_of_length_le (by rw [List.length_map]; omega)]
 rw [hall]
 have hll:(p.ins.map InD.name ++ p.arrays.map ArD.name).length ≤ 2000:=by rw [List.length_append,List.length_map,List.length_map]; omega
 unfold Zgl at hK
 generalize p.ins.map InD.name ++ p.arrays.map ArD.name=l at *
 refine Zao (N:=l.length) (fun i=>⟨upd (upd ρ0 3 (.vec (strs l) (.own 0))) 6 (I i),m0,1,[],h⟩) (fun i=>(l.take i).Nodup) (by simp -dsimp -implicitDefEqProofs only [↓STP,STQ,seval] <;> rfl) (by simp) (fun i hi pi=>?_) (fun pi=>?_) mono
 ·have li:(i:Int) < (l.length:Int):=by omega
  simp -dsimp -implicitDefEqProofs only [↓STP,STQ,seval,Ziw,eq_true li]
  refine Zao (N:=i) (fun k=>⟨upd (upd (upd ρ0 3 (.vec (strs l) (.own 0))) 6 (I i)) 7 (I k),m0,1,[],h⟩) (fun k=>∀ a ∈ l.take k,a ≠ l[i]) (by simp -dsimp -implicitDefEqProofs only [↓STP,STQ,seval] <;> rfl) (by simp) (fun k hk pk=>?_) (fun pk=>?_) mono
  ·have lk:(k:Int) < (i:Int):=by omega
   have hkl:k < l.length:=by omega
   have g1:=Zqp hi
   have g2:=Zqp hkl
   by_cases c:l[i]=l[k]
   ·simp -dsimp -implicitDefEqProofs only [↓STP,STQ,seval,eq_true lk,g1,g2,binS,beqS,eq_true c]
    rw [decide_eq_false (fun hn=>by
     have:=(List.getElem_inj hn).1 c
     omega)] at hK
    exact hK
   ·simp -dsimp -implicitDefEqProofs only [↓STP,STQ,seval,eq_true lk,g1,g2,binS,beqS,eq_false c,wi (show k < 9000000000000000000 by omega)]
    exact Zg2 pk (List.getElem?_eq_getElem hkl) (fun e=>c e.symm)
  ·simp -dsimp -implicitDefEqProofs only [↓STP,STQ,seval,Int.lt_irrefl,wi (show i < 9000000000000000000 by omega)]
   exact Zsy hi pi pk
 ·simp -dsimp -implicitDefEqProofs only [↓STP,STQ,seval,Ziw,Int.lt_irrefl]
  rw [List.take_length] at pi
  rw [decide_eq_true pi] at hK
  exact hK
end
end YtihjhelbdbeokaaGreatDoor
end Go.Ab
namespace Go.Ab
theorem new_set {h:H} {o o':O}:(h.new o).set h.next o'=h.new o':=by
 simp only [H.set,H.new]
 congr 1
 funext j
 simp only [upd]
 split <;> rfl
theorem app_n1 {st:S} {s s':Nat} {n:Int} {c:Cap} (hs:s' ∉ st.u):appV st s (.vec [] (.own s')) (.vec [I n] c) 1 8 false true=some (.ref st.h.next 0 1 1,st.withH (st.h.new (.cells [I n]))):=by
 simp [appV,lenV,flat,V.cells,hs,most]
theorem app_n2 {st:S} {s id k:Nat} {n:Int} {c:Cap} {cs:List V} (hg:st.h.get id=some cs) (hl:cs.length=k) (hk:k ≤ 4294967295):appV st s (.ref id 0 k 1) (.vec [I n] c) 1 8 false true=some (.ref st.h.next 0 (k + 1) 1,st.withH (st.h.move id (.cells (cs ++ [I n])))):=by
 have h1:k + 1 ≤ most:=by unfold most; omega
 simp [appV,lenV,flat,V.cells,hg,hl,h1]
theorem app_f1 {st:S} {s a b:Nat} {c:Cap}:appV st s (.vec [] .full) (.vec [.ref a 0 b 1] c) 1 24 false true=some (.ref st.h.next 0 1 1,st.withH (st.h.new (.cells [.ref a 0 b 1]))):=by
 simp [appV,lenV,flat,V.cells,most]
def addH (h:H) (o:Option Nat) (rs:List (Nat × Nat)):H:=match o with
 | some id=>h.move id (.cells (rs.map refV))
 | none=>h.new (.cells (rs.map refV))
theorem Rt.addWord {p:Prg} {L:Lr} {σ:TS} {h:H} (A:Rt p L σ h) {id:Nat} {ws:List Nat} (hid:id ∉ L.own) (hob:h.objs id=some (.cells (Zar ws))) (hlt:id < h.next) :
  Rt p { L with o:=some h.next,rs:=L.rs ++ [(id,ws.length)] } { σ with env:={ σ.env with words:=σ.env.words ++ [ws] } }
   ((addH h L.o (L.rs ++ [(id,ws.length)])).set L.x (.cells (Lr.cs p { L with o:=some h.next,rs:=L.rs ++ [(id,ws.length)] } { σ with env:={ σ.env with words:=σ.env.words ++ [ws] } }))):=by
 have xlt:=A.lt _ L.x_mem
 have idx:id ≠ L.x:=fun e=>hid (e ▸ L.x_mem)
 have hnx:(addH h L.o (L.rs ++ [(id,ws.length)])).next=h.next + 1:=by unfold addH; cases L.o <;> rfl
 have hobj:∀ j,j < h.next→L.o ≠ some j→(addH h L.o (L.rs ++ [(id,ws.length)])).objs j=h.objs j:=by
  intro j hj hne
  unfold addH
  cases ho:L.o with
  | none=>simp only; rw [Zae,if_neg (by omega)]
  | some o=>simp only; rw [Zci,if_neg (by omega),if_neg (fun e=>hne (by rw [ho,e]))]
 have hnew:(addH h L.o (L.rs ++ [(id,ws.length)])).objs h.next=some (.cells ((L.rs ++ [(id,ws.length)]).map refV)):=by
  unfold addH
  cases L.o with
  | none=>simp only; rw [Zae,if_pos rfl]
  | some o=>simp only; rw [Zci,if_pos rfl]
 refine ⟨by rw [Zac,if_pos rfl],?_,A.es,by simp [A.len],fun i w hi=>?_,?_,fun j hj=>?_,A.vl,A.ll,A.cv,A.cl,A.cw⟩
 ·show (_:H).objs h.next=_
  rw [Zac,if_neg (by omega)]; exact hnew
 ·have hi:(σ.env.words ++ [ws])[i]?=some w:=hi
  rcases Nat.lt_or_ge i σ.env.words.length with hl | hl
  ·rw [List.getElem?_append_left hl] at hi
   obtain ⟨id',a,b⟩:=A.ws i w hi
   have hm:=List.mem_of_getElem? a
   have hlt':=A.lt _ (L.r_mem hm)
   refine ⟨id',by show (L.rs ++ _)[i]?=_; rw [List.getElem?_append_left (by rw [A.len]; exact hl)]; exact a,?_⟩
   rw [Zac,if_neg (A.xr hm),hobj id' hlt' (fun e=>A.or e hm rfl)]
   exact b
  ·rw [List.getElem?_append_right hl] at hi
   have h0:i - σ.env.words.length=0:=by
    rcases Nat.eq_zero_or_pos (i - σ.env.words.length) with h0 | h0
    ·exact h0
    ·rw [List.getElem?_eq_none (by simp; omega)] at hi; cases hi
   rw [h0] at hi
   cases hi
   refine ⟨id,by show (L.rs ++ _)[i]?=_; rw [List.getElem?_append_right (by rw [A.len]; exact hl),A.len,h0]; rfl,?_⟩
   rw [Zac,if_neg idx,hobj id hlt (fun e=>hid (L.o_mem e))]
   exact hob
 ·have hd:=A.nd
  have hl:∀ j ∈ L.rs.map (·.1),j < h.next:=fun j hj=>by
   obtain ⟨r,hr,rfl⟩:=List.mem_map.1 hj
   exact A.lt _ (L.r_mem hr)
  have hn:id ∉ L.rs.map (·.1):=fun hj=>by
   obtain ⟨r,hr,rfl⟩:=List.mem_map.1 hj
   exact hid (L.r_mem hr)
  simp only [Lr.own,List.nodup_cons,List.mem_append,not_or,List.nodup_append] at hd
  show (L.x :: ((some h.next).toList ++ (L.rs ++ [(id,ws.length)]).map (·.1))).Nodup
  simp only [Option.toList_some,List.cons_append,List.nil_append,List.map_append,List.map_cons,List.map_nil,List.nodup_cons,List.mem_cons,List.mem_append,List.not_mem_nil,or_false,not_or,List.nodup_append]
  refine ⟨⟨by omega,hd.1.2,idx.symm⟩,⟨fun hj=>by have:=hl _ hj; omega,by omega⟩,hd.2.2.1,⟨by simp,List.nodup_nil⟩,fun a ha b hb=>?_⟩
  subst hb
  exact fun e=>hn (e ▸ ha)
 ·have hj:j ∈ L.x :: ((some h.next).toList ++ (L.rs ++ [(id,ws.length)]).map (·.1)):=hj
  rw [Zbd,hnx]
  simp only [Option.toList_some,List.cons_append,List.nil_append,List.map_append,List.map_cons,List.map_nil,List.mem_cons,List.mem_append,List.not_mem_nil,or_false] at hj
  rcases hj with rfl | rfl | hj | rfl
  ·omega
  ·omega
  ·obtain ⟨r,hr,rfl⟩:=List.mem_map.1 hj
   have:=A.lt _ (L.r_mem hr); omega
  ·omega
end Go.Ab
namespace Go.Ab
def st0 (p:Prg) (m:Nat):List V:=[.vec (p.ins.map InD.v) .any,.vec (p.arrays.map ArD.v) .any,.vec (p.body.map Stm.v) .any,.vec [] .full,.vec [] .full,.vec [] .full,I 0,I m,I 0]
def Lj (x:Nat) (o:Option Nat) (rs:List (Nat × Nat)):Lr:=⟨x,[],.full,.full,o,.full,rs⟩
def σj (p:Prg) (j:Nat):TS:=⟨⟨fun _=>none,[],(p.arrays.take j).map fun d=>List.replicate d.size.toNat 1⟩,0,maxI p.ins,0⟩
theorem Rt_zero {p:Prg} {h:H}:Rt p (Lj h.next none []) (σj p 0) (h.new (.cells (st0 p (maxI p.ins)))):=by
 refine ⟨by rw [Zae]; exact if_pos rfl,rfl,fun s=>rfl,rfl,fun i ws hi=>(by cases hi),?_,fun id hid=>?_,Nat.le_refl _,Nat.le_refl _,.inr rfl,.inr rfl,.inr rfl⟩
 ·show ([h.next]:List Nat).Nodup
  simp
 ·have hid:id ∈ ([h.next]:List Nat):=hid
  rw [List.mem_singleton] at hid
  rw [hid,Zah]; omega
namespace YtihjhelbdbeokaaGreatDoor
section
variable {K:Out→H→Prop} {p:Prg} {h:H}
theorem Zql (v:VT p) (li:p.ins.length ≤ 1000) (la:p.arrays.length ≤ 1000)
  (hK:Ans (Zbl p) (fun σ=>∀ L' h',UpH h h'→Rt p L' σ h'→K (.ret (.tuple [.ptr L'.x 0,I 0])) h') (fun e=>e ≠ 0→∀ x h',UpH h h'→K (.ret (.tuple [.ptr x 0,I e])) h')):R 50 [p.v] h K:=by
 refine run50 (Nat.le_of_ble_eq_true rfl) ?_
 have hv0:p.v=V.agg [.vec (p.ins.map InD.v) .any,.vec (p.arrays.map ArD.v) .any,.vec (p.body.map Stm.v) .any]:=rfl
 unfold Zbl at hK
 simp -dsimp -implicitDefEqProofs only [↓STP,STQ,seval,ir50,hv0]
 rw [← hv0]
 refine unlikeR li la ?_
 cases hu:Zgl p with
 | false =>
  rw [hu,if_neg (by decide)] at hK
  simp -dsimp -implicitDefEqProofs only [↓STP,STQ,seval]
  exact hK (by decide) _ _ ⟨by rw [Zah]; omega,fun i hi=>by rw [Zae,if_neg (Nat.ne_of_lt hi)]⟩
 | true =>
 rw [hu,if_pos rfl] at hK
 simp -dsimp -implicitDefEqProofs only [↓STP,STQ,seval]
 refine Zao (N:=p.ins.length) (fun j=>⟨upd (upd (upd ρ0 1 (.lptr 0 3 0)) 4 (.ptr h.next 0)) 5 (I j),upd m0 0 (some [.vec (p.ins.map InD.v) .any,.vec (p.arrays.map ArD.v) .any,.vec (p.body.map Stm.v) .any]),1,[],h.new (.cells (st0 p (maxI (p.ins.take j))))⟩) (fun j=>True) (by simp -dsimp -implicitDefEqProofs only [↓STP,STQ,seval] <;> rfl) trivial (fun j hj pj=>?_) (fun pj=>?_) mono
 ·have g:(p.ins.map InD.v)[j]?=some (InD.v p.ins[j]):=by rw [List.getElem?_map,List.getElem?_eq_getElem hj]; rfl
  have lj:(j:Int) < (p.ins.length:Int):=by omega
  have hvi:=v.ins _ (List.getElem_mem hj)
  have e:maxI (p.ins.take (j + 1))=max (maxI (p.ins.take j)) p.ins[j].width.toNat:=by
   rw [List.take_add_one,List.getElem?_eq_getElem hj,Option.toList_some,Zgr]
  have gx:(h.new (.cells (st0 p (maxI (p.ins.take j))))).get h.next=some (st0 p (maxI (p.ins.take j))):=Zam (by rw [Zae,if_pos rfl])
  have w1':=hvi.w1
  have hmx:(if p.ins[j].width > ((maxI (p.ins.take j):Nat):Int) then p.ins[j].width else ((maxI (p.ins.take j):Nat):Int))=((max (maxI (p.ins.take j)) p.ins[j].width.toNat:Nat):Int):=by split <;> omega
  rw [e]
  simp -dsimp -implicitDefEqProofs only [↓STP,STQ,seval,List.length_map,eq_true lj,g,Zak,st0,get_new,Za1,hmx,Zad,new_set,wi (show j < 9000000000000000000 by omega)]
  skip
 simp -dsimp -implicitDefEqProofs only [↓STP,STQ,seval,List.length_map,Int.lt_irrefl]
 rw [List.take_length]
 refine Zai (fun k s=>∃ j o rs h',j ≤ p.arrays.length∧k=p.arrays.length - j∧Rt p (Lj h.next o rs) (σj p j) h'∧(∀ i,i < h.next→h'.objs i=h.objs i)∧(∀ id ∈ (Lj h.next o rs).own,h.next ≤ id) ∧
  s=⟨upd (upd (upd ρ0 1 (.lptr 0 3 0)) 4 (.ptr h.next 0)) 6 (I j),upd m0 0 (some [.vec (p.ins.map InD.v) .any,.vec (p.arrays.map ArD.v) .any,.vec (p.body.map Stm.v) .any]),1,[],h'⟩) (i:=p.arrays.length) ⟨0,none,[],_,Nat.zero_le _,rfl,Rt_zero,fun i hi=>by rw [Zae,if_neg (Nat.ne_of_lt hi)],fun id hid=>by (have hid:id ∈ ([h.next]:List Nat):=hid; rw [List.mem_singleton] at hid; omega),by simp -dsimp -implicitDefEqProofs only [↓STP,STQ,seval] <;> rfl⟩ ?_ mono
 rintro k s ⟨j,o,rs,h',hj,rfl,A,hold,hown,rfl⟩
 have gx:=Zam A.x
 have hxx:(Lj h.next o rs).x=h.next:=rfl
 rw [hxx] at gx
 rcases Nat.lt_or_ge j p.arrays.length with hi | hi
 ·have g:(p.arrays.map ArD.v)[j]?=some (ArD.v p.arrays[j]):=by rw [List.getElem?_map,List.getElem?_eq_getElem hi]; rfl
  have lj:(j:Int) < (p.arrays.length:Int):=by omega
  have hvd:=v.ars _ (List.getElem_mem hi)
  have hsz:p.arrays[j].size=((p.arrays[j].size.toNat:Nat):Int):=by have:=hvd.s1; omega
  have hs1:=hvd.s1
  have hs2:=hvd.s2
  have hσ:σj p (j + 1)={ σj p j with env:={ (σj p j).env with words:=(σj p j).env.words ++ [List.replicate p.arrays[j].size.toNat 1] } }:=by
   unfold σj
   simp only
   rw [List.take_add_one,List.getElem?_eq_getElem hi,Option.toList_some,List.map_append]; rfl
  generalize p.arrays[j]=d at *
  generalize d.size.toNat=N at *
  simp -dsimp -implicitDefEqProofs only [↓STP,STQ,seval,List.length_map,eq_true lj]
  refine Zai (fun c s=>∃ k w n h'',k ≤ N∧c=N - k∧((k=0∧w=.vec [] (.own 1)∧n=2∧h''=h')∨(0 < k∧∃ id,w=.ref id 0 k 1∧n=1∧h''.objs id=some (.cells (Zar (List.replicate k 1)))∧h'.next ≤ id∧id < h''.next∧(∀ i,i < h'.next→h''.objs i=h'.objs i))) ∧
   s=⟨upd (upd (upd (upd (upd ρ0 1 (.lptr 0 3 0)) 4 (.ptr h.next 0)) 6 (I j)) 7 w) 8 (I k),upd m0 0 (some [.vec (p.ins.map InD.v) .any,.vec (p.arrays.map ArD.v) .any,.vec (p.body.map Stm.v) .any]),n,[],h''⟩) (i:=N) ⟨0,_,_,_,Nat.zero_le _,rfl,.inl ⟨rfl,rfl,rfl,rfl⟩,by simp -dsimp -implicitDefEqProofs only [↓STP,STQ,seval] <;> rfl⟩ ?_ mono
  rintro c s ⟨k,w,n,h'',hk,rfl,hw,rfl⟩
  rcases Nat.lt_or_ge k N with hkN | hkN
  ·have lk:(k:Int) < d.size:=by omega
   have w1:=wi (show k < 9000000000000000000 by omega)
   rcases hw with ⟨rfl,rfl,rfl,rfl⟩ | ⟨h0,id,rfl,rfl,q1,q2,q3,q4⟩
   ·have lk0:(0:Int) < d.size:=by omega
    simp -dsimp -implicitDefEqProofs only [↓STP,STQ,seval,List.length_map,eq_true lj,g,Zdg,eq_true lk0]
    rw [app_n1 (by simp)]
    simp -dsimp -implicitDefEqProofs only [↓STP,STQ,seval,w1]
    refine ⟨N - 1,by omega,1,.ref h''.next 0 1 1,1,h''.new (.cells [I 1]),by omega,rfl,.inr ⟨by decide,h''.next,rfl,rfl,by rw [Zae,if_pos rfl]; rfl,Nat.le_refl _,by rw [Zah]; omega,fun i hi=>by rw [Zae,if_neg (by omega)]⟩,rfl⟩
   ·simp -dsimp -implicitDefEqProofs only [↓STP,STQ,seval,List.length_map,eq_true lj,g,Zdg,eq_true lk]
    rw [app_n2 (Zam q1) (by rw [Zbq,List.length_replicate]) (by omega)]
    simp -dsimp -implicitDefEqProofs only [↓STP,STQ,seval,w1]
    refine ⟨N - (k + 1),by omega,k + 1,.ref h''.next 0 (k + 1) 1,1,h''.move id (.cells (Zar (List.replicate k 1) ++ [I 1])),hkN,rfl,.inr ⟨by omega,h''.next,rfl,rfl,?_,by omega,by rw [Zs1]; omega,fun i hi=>by rw [Zci,if_neg (by omega),if_neg (by omega)]; exact q4 i hi⟩,rfl⟩
    rw [Zci,if_pos rfl,List.replicate_succ']
    unfold Zar; rw [List.map_append]; rfl
  ·have hkN:k=N:=by omega
   subst hkN
   have lk:¬ (k:Int) < d.size:=by omega
   rcases hw with ⟨rfl,_⟩ | ⟨h0,id,rfl,rfl,q1,q2,q3,q4⟩
   ·omega
   have lto:∀ i ∈ (Lj h.next o rs).own,i < h'.next:=A.lt
   have hlt':h.next < h'.next:=lto h.next (Lr.x_mem _)
   have old2:∀ i,i < h.next→h''.objs i=h.objs i:=fun i hi=>(q4 i (by omega)).trans (hold i hi)
   have A1:Rt p (Lj h.next o rs) (σj p j) h'':=A.frame (by omega) fun i hi=>q4 i (lto i hi)
   have A2:=A1.addWord (id:=id) (ws:=List.replicate k 1) (fun hm=>by have:=lto id hm; omega) q1 q3
   rw [← hσ,List.length_replicate] at A2
   have w1:=wi (show j < 9000000000000000000 by omega)
   have gx1:=Zam A1.x
   rw [hxx] at gx1
   have xlt:=lto h.next (Lr.x_mem _)
   have hrl:rs.length=j:=by
    have h1:rs.length=(σj p j).env.words.length:=A.len
    rw [h1]; unfold σj
    simp only [List.length_map,List.length_take]; omega
   rcases o with _ | oid
   ·have hrs:rs=[]:=A1.o
    subst hrs
    have hov:(Lj h.next none []).ov=.vec [] .full:=rfl
    have gx2:=(Ztf (h:=h'') (o:=.cells [.ref id 0 k 1]) (show h.next ≠ h''.next by omega)).trans gx1
    simp -dsimp -implicitDefEqProofs only [↓STP,STQ,seval,List.length_map,eq_true lj,g,Zdg,eq_false lk,gx1,Lr.cs,hov]
    rw [app_f1]
    simp -dsimp -implicitDefEqProofs only [↓STP,STQ,seval,gx2,Lr.cs,hov,Zad,w1]
    exact ⟨p.arrays.length - (j + 1),by omega,j + 1,some h''.next,[(id,k)],_,hi,rfl,A2,fun i hi=>by rw [Zac,if_neg (by have hx0:i ≠ h.next:=Nat.ne_of_lt hi; exact hx0)]; show (h''.new _).objs i=_; rw [Zae,if_neg (by omega)]; exact old2 i hi,fun i hi=>by (have hi:i ∈ h.next :: ((some h''.next).toList ++ ([(id,k)]).map (·.1)):=hi; simp only [Option.toList_some,List.cons_append,List.nil_append,List.map_append,List.map_cons,List.map_nil,List.mem_cons,List.mem_append,List.not_mem_nil,or_false] at hi; omega),rfl⟩
   ·have hov:(Lj h.next (some oid) rs).ov=.ref oid 0 rs.length 1:=rfl
    have hob:h''.objs oid=some (.cells (rs.map refV)):=A1.o
    have oidx:oid ≠ h.next:=A1.xo rfl
    have gx2:=(Zpl (h:=h'') (o:=.cells (rs.map refV ++ [.ref id 0 k 1])) (show h.next ≠ h''.next by omega) oidx.symm).trans gx1
    simp -dsimp -implicitDefEqProofs only [↓STP,STQ,seval,List.length_map,eq_true lj,g,Zdg,eq_false lk,gx1,Lr.cs,hov]
    rw [app_o2 (Zam hob) (by rw [List.length_map]) (by omega)]
    simp -dsimp -implicitDefEqProofs only [↓STP,STQ,seval,gx2,Lr.cs,hov,Zad,w1]
    have hlen:(rs ++ [(id,k)]).length=rs.length + 1:=by simp
    have hcs:Lr.cs p { Lj h.next (some oid) rs with o:=some h''.next,rs:=(Lj h.next (some oid) rs).rs ++ [(id,k)] } (σj p (j + 1))=[.vec (p.ins.map InD.v) .any,.vec (p.arrays.map ArD.v) .any,.vec (p.body.map Stm.v) .any,.vec [] .full,.vec [] .full,.ref h''.next 0 (rs.length + 1) 1,I (0:Nat),I (maxI p.ins),I (0:Nat)]:=by
     show [V.vec (p.ins.map InD.v) .any,.vec (p.arrays.map ArD.v) .any,.vec (p.body.map Stm.v) .any,.vec [] .full,.vec [] .full,.ref h''.next 0 (rs ++ [(id,k)]).length 1,I (0:Nat),I (maxI p.ins),I (0:Nat)]=_
     rw [hlen]
    have had:addH h'' (Lj h.next (some oid) rs).o ((Lj h.next (some oid) rs).rs ++ [(id,k)])=h''.move oid (.cells (rs.map refV ++ [.ref id 0 k 1])):=by
     show h''.move oid (.cells ((rs ++ [(id,k)]).map refV))=_
     rw [List.map_append]; rfl
    rw [hcs,had] at A2
    exact ⟨p.arrays.length - (j + 1),by omega,j + 1,some h''.next,rs ++ [(id,k)],_,hi,rfl,A2,fun i hi=>by rw [Zac,if_neg (by have hx0:i ≠ h.next:=Nat.ne_of_lt hi; exact hx0)]; show (h''.move oid _).objs i=_; rw [Zci,if_neg (by omega),if_neg (by have:=hown oid (Lr.o_mem rfl); omega)]; exact old2 i hi,fun i hi=>by (have hi:i ∈ h.next :: ((some h''.next).toList ++ (rs ++ [(id,k)]).map (·.1)):=hi; simp only [Option.toList_some,List.cons_append,List.nil_append,List.map_append,List.map_cons,List.map_nil,List.mem_cons,List.mem_append,List.not_mem_nil,or_false] at hi; rcases hi with e | e | e | e; omega; omega; exact hown i (by simp only [Lr.own,Lj,List.mem_cons,List.mem_append]; exact .inr (.inr e)); omega),rfl⟩
 ·have hje:j=p.arrays.length:=by omega
  subst hje
  have hi0:σj p p.arrays.length=Zh3 p:=by unfold σj Zh3; rw [List.take_length]
  rw [hi0] at A
  simp -dsimp -implicitDefEqProofs only [↓STP,STQ,seval,List.length_map,Int.lt_irrefl]
  refine stmtsR v.ok (PV_of v hu) la v.ok.lb v.body v.ok.body (Lj h.next o rs) (Zh3 p) h' _ A (TOk_init v.ins v.ars) (by show 0 ≤ 1; omega) ?_
  cases hr:Zal p p.body (Zh3 p) with
  | ok σ =>
   rw [hr] at hK
   intro L' h5 A5 F5
   simp -dsimp -implicitDefEqProofs only [↓STP,STQ,seval]
   have hx5:L'.x=h.next:=F5.x
   have up:UpH h h5:=⟨by have:=F5.nx; have:=A.lt h.next (Lr.x_mem _); omega,fun i hi=>by
    have hlt':h.next < h'.next:=A.lt h.next (Lr.x_mem _)
    rw [F5.same i (by omega) (fun hm=>by have:=hown i hm; omega)]; exact hold i hi⟩
   have:=hK L' h5 up A5
   rw [hx5] at this
   exact this
  | error er =>
   rw [hr] at hK
   intro hne L' h5 F5
   simp -dsimp -implicitDefEqProofs only [↓STP,STQ,seval]
   exact hK hne _ _ ⟨by have:=F5.nx; have:=A.lt h.next (Lr.x_mem _); omega,fun i hi=>by
    have hlt':h.next < h'.next:=A.lt h.next (Lr.x_mem _)
    rw [F5.same i (by omega) (fun hm=>by have:=hown i hm; omega)]; exact hold i hi⟩
end
end YtihjhelbdbeokaaGreatDoor
end Go.Ab
namespace Go.Ab
namespace YtihjhelbdbeokaaGreatDoor
section
variable {K:Out→H→Prop} {p:Prg} {h:H}
theorem checkR (v:VT p) (li:p.ins.length ≤ 1000) (la:p.arrays.length ≤ 1000) (hK:∀ h',UpH h h'→K (.ret (I (errT (Zbl p)))) h'):R 49 [p.v] h K:=by
 refine run49 (Nat.le_of_ble_eq_true rfl) ?_
 have hv0:p.v=V.agg [.vec (p.ins.map InD.v) .any,.vec (p.arrays.map ArD.v) .any,.vec (p.body.map Stm.v) .any]:=rfl
 simp -dsimp -implicitDefEqProofs only [↓STP,STQ,seval,ir49,hv0]
 rw [← hv0]
 refine Zql v li la ?_
 cases hr:Zbl p with
 | ok σ =>
  rw [hr] at hK
  intro L' h' up A'
  simp -dsimp -implicitDefEqProofs only [↓STP,STQ,seval]
  exact hK _ up
 | error e =>
  rw [hr] at hK
  intro hne x h' up
  simp -dsimp -implicitDefEqProofs only [↓STP,STQ,seval]
  exact hK _ up
end
end YtihjhelbdbeokaaGreatDoor
end Go.Ab
namespace Go.Ab
namespace YtihjhelbdbeokaaGreatDoor
section
variable {h:H} {K:Out→H→Prop} {p:Prg}
theorem check30 (v:VT p) (li:p.ins.length ≤ 1000) (la:p.arrays.length ≤ 1000) {ls:List (List Nat)} (ok:LsOk ls) (hK:∀ h',UpH h h'→K (.ret (I (errI p ls))) h'):R 33 [p.v,LV ls] h K:=by
 refine run33 (Nat.le_of_ble_eq_true rfl) ?_
 have hv0:p.v=V.agg [.vec (p.ins.map InD.v) .any,.vec (p.arrays.map ArD.v) .any,.vec (p.body.map Stm.v) .any]:=rfl
 have hL:LV ls=.vec (ls.map fun l=>.vec (Ws l) .any) .any:=rfl
 unfold errI at hK
 simp -dsimp -implicitDefEqProofs only [↓STP,STQ,seval,ir33,hv0,hL]
 rw [← hv0]
 refine checkR v li la fun h1 u1=>?_
 by_cases c:errT (Zbl p)=0
 rotate_left
 ·rw [if_pos c] at hK
  simp -dsimp -implicitDefEqProofs only [↓STP,STQ,seval,eq_false c]
  exact hK h1 u1
 rw [if_neg (by simp [c])] at hK
 simp -dsimp -implicitDefEqProofs only [↓STP,STQ,seval,eq_true c,hv0,hL]
 rw [← hv0,← hL]
 refine fit30 v ok fun h2 u2=>?_
 cases f:fitB p ls with
 | true =>
  rw [f] at hK
  simp -dsimp -implicitDefEqProofs only [↓STP,STQ,seval]
  exact hK h2 (u1.trans u2)
 | false =>
  rw [f] at hK
  simp -dsimp -implicitDefEqProofs only [↓STP,STQ,seval]
  exact hK h2 (u1.trans u2)
end
end YtihjhelbdbeokaaGreatDoor
end Go.Ab
namespace Go.Ab
namespace YtihjhelbdbeokaaGreatDoor
section
variable {h:H} {K:Out→H→Prop} {p:Prg}
theorem encodeR (v:VT p) (li:p.ins.length ≤ 1000) (la:p.arrays.length ≤ 1000) (l6:p.ins.length ≤ 100) {ls:List (List Nat)} (ok:LsOk ls) (hK:∀ h' r,UpH h h'→ListsF h' r (encP p ls)→K (.ret (.tuple [r,I (errI p ls)])) h'):R 21 [p.v,LV ls] h K:=by
 refine run21 (Nat.le_of_ble_eq_true rfl) ?_
 have hv0:p.v=V.agg [.vec (p.ins.map InD.v) .any,.vec (p.arrays.map ArD.v) .any,.vec (p.body.map Stm.v) .any]:=rfl
 have hL:LV ls=.vec (ls.map fun l=>.vec (Ws l) .any) .any:=rfl
 have hlen:=ok.len
 simp -dsimp -implicitDefEqProofs only [↓STP,STQ,seval,ir21,hv0,hL]
 rw [← hv0,← hL]
 refine check30 v li la ok fun h1 u1=>?_
 by_cases c:errI p ls=0
 rotate_left
 ·have:encP p ls=[]:=if_neg c
  rw [this] at hK
  simp -dsimp -implicitDefEqProofs only [↓STP,STQ,seval,eq_false c]
  exact hK h1 _ u1 (.inl ⟨rfl,rfl⟩)
 have hres:encP p ls=encG p.ins ls (atI0 ls) (List.replicate ls.length []):=if_pos c
 rw [hres,c] at hK
 have hf:fitB p ls=true:=by
  unfold errI at c
  split at c
  ·rename_i hh; exact absurd c hh
  ·cases q:fitB p ls with
   | true=>rfl
   | false=>rw [q] at c; exact absurd c (by decide)
 obtain ⟨aE,haE⟩:=Zjw hf
 have hlm:∀ b:Nat,b ≤ 4096→mksN (I ls.length) (I ls.length) 1 b=some ls.length:=fun b hb=>Zmg (by omega) hb (by decide)
 simp -dsimp -implicitDefEqProofs only [↓STP,STQ,seval,eq_true c,hv0,hL,List.length_map,hlm 24 (by decide),hlm 8 (by decide),Zfx,Zqx,Zah]
 have E0:EncAt h1.next h1 (List.replicate ls.length none) (List.replicate ls.length []) (List.replicate ls.length 0) _:=EncAt.zero
 refine Zai (fun c s'=>∃ j a h' os outs,j ≤ p.ins.length∧c=p.ins.length - j∧a.length=ls.length∧outs.length=ls.length∧fitG (p.ins.drop j) ls a=some aE∧encG p.ins ls (atI0 ls) (List.replicate ls.length [])=encG (p.ins.drop j) ls a outs∧(∀ l ∈ outs,l.length ≤ 1024 * j)∧EncAt h1.next h1 os outs a h' ∧
  s'=⟨upd (upd (upd (upd (upd ρ0 1 (LV ls)) 2 (.lptr 0 3 0)) 7 (.ref h1.next 0 ls.length 1)) 8 (.ref (h1.next + 1) 0 ls.length 1)) 9 (I j),upd m0 0 (some [.vec (p.ins.map InD.v) .any,.vec (p.arrays.map ArD.v) .any,.vec (p.body.map Stm.v) .any]),1,[],h'⟩)
  (i:=p.ins.length) ⟨0,List.replicate ls.length 0,_,_,List.replicate ls.length [],Nat.zero_le _,rfl,by simp,by simp,haE,rfl,fun l hl=>by rw [(List.mem_replicate.1 hl).2]; exact Nat.zero_le _,E0,by simp -dsimp -implicitDefEqProofs only [↓STP,STQ,seval,LV,List.length_map] <;> rfl⟩ ?_ mono
 rintro cc s' ⟨j,a,h',os,outs,hj,rfl,hal,hol,hr,hen,hle,E,rfl⟩
 rcases Nat.lt_or_ge j p.ins.length with hi | hi
 ·have hget:=Za5 (f:=InD.v) hi
  have hdm:p.ins[j] ∈ p.ins:=List.getElem_mem hi
  have hdi:=v.ins _ hdm
  have w1:=wiM (show j < 9223372036854775807 by omega)
  have hdr:p.ins.drop j=p.ins[j] :: p.ins.drop (j + 1):=List.drop_eq_getElem_cons hi
  rw [hdr] at hr hen
  rw [fitG] at hr
  rw [encG] at hen
  generalize p.ins[j]=d at *
  split at hr
  rotate_left
  ·cases hr
  rename_i hok
  obtain ⟨hf,hkN,hwid⟩:=hok
  have hf1:=hdi.f1
  have hf2:=hdi.f2
  have hw1:=hdi.w1
  have hw2:=hdi.w2
  have efr:((frmD d:Nat):Int)=d.frm - 1:=by unfold frmD; omega
  have hfI:IntKind.i64.wrap (d.frm - 1)=((frmD d:Nat):Int):=by
   rw [efr,wrap_i64] <;> omega
  have hs1:=hdi.s1
  have hs2:=hdi.s2
  have hsz:Zcc d ≤ 64:=by unfold Zcc; omega
  have hmx:(if (1:Int) > d.size then (1:Int) else d.size)=((Zcc d:Nat):Int):=by unfold Zcc; split <;> omega
  have gl:=Zls hf
  obtain ⟨okl,okw⟩:=ok.get (frmD d)
  have hdw:d.width=((d.width.toNat:Nat):Int):=by omega
  simp -dsimp -implicitDefEqProofs only [↓STP,STQ,seval,Int.ofNat_lt,hi,hget,List.length_map,Zak,Zad,LV,hfI,Za1,hmx]
  unfold Zgb at hen hwid
  unfold Znr at hen hr
  generalize frmD d=f at *
  generalize hld:ls.getD f []=l at *
  generalize hkd:a.getD f 0=k0 at *
  generalize hN:Zcc d=N at *
  generalize hww:d.width.toNat=w at *
  have hfa:f < a.length:=by omega
  have hfo:f < outs.length:=by omega
  generalize hod:outs.getD f []=o0 at *
  have ho0:o0.length ≤ 1024 * j:=by
   rw [← hod,List.getD_eq_getElem?_getD,List.getElem?_eq_getElem hfo]
   exact hle _ (List.getElem_mem hfo)
  have hfI':((f:Nat):Int) < ((ls.length:Nat):Int):=by omega
  refine Zai (fun c s'=>∃ i h'' os',i ≤ N∧c=N - i∧EncAt h1.next h1 os' (outs.set f (o0 ++ encW w ((l.drop k0).take i))) (a.set f (k0 + i)) h'' ∧
   s'=⟨upd (upd (upd (upd (upd (upd (upd ρ0 1 (LV ls)) 2 (.lptr 0 3 0)) 7 (.ref h1.next 0 ls.length 1)) 8 (.ref (h1.next + 1) 0 ls.length 1)) 9 (I j)) 10 (I ((f:Nat):Int))) 11 (I i),upd m0 0 (some [.vec (p.ins.map InD.v) .any,.vec (p.arrays.map ArD.v) .any,.vec (p.body.map Stm.v) .any]),1,[],h''⟩)
   (i:=N) ⟨0,h',os,Nat.zero_le _,rfl,by rw [List.take_zero,show encW w []=[] from rfl,List.append_nil,Nat.add_zero,← hod,← hkd,Ziy hfo,Ziy hfa]; exact E,by simp -dsimp -implicitDefEqProofs only [↓STP,STQ,seval,LV,List.length_map] <;> rfl⟩ ?_ mono
  clear E
  rintro c2 s' ⟨i,h2,os2,hiN,rfl,E,rfl⟩
  by_cases hlt:i < N
  ·have hltI:((i:Nat):Int) < ((N:Nat):Int):=by omega
   have hkl:k0 + i < l.length:=by omega
   have hklI:((k0 + i:Nat):Int) < ((l.length:Nat):Int):=by omega
   have gt:=Zam E.t
   have ga:=Zd6 (l:=a.set f (k0 + i)) (i:=f) (by rw [List.length_set]; exact hfa)
   rw [Zc4 hfa] at ga
   have gw:=Zm7 hkl
   have hvm:=Zhe hkl hlt
   have hv0:=hwid _ hvm
   have htw:=Zfq hkl
   generalize l.getD (k0 + i) 0=v0 at *
   have w3:=wiM (show i < 9223372036854775807 by omega)
   have w2:IntKind.i64.wrap (((k0 + i:Nat):Int) + 1)=((k0 + (i + 1):Nat):Int):=by rw [wrap_i64] <;> omega
   have hX:(outs.set f (o0 ++ encW w ((l.drop k0).take i))).getD f []=o0 ++ encW w ((l.drop k0).take i):=Zhi hfo
   have hXl:(o0 ++ encW w ((l.drop k0).take i)).length ≤ 200000:=by
    rw [List.length_append,Zcs]
    have h4:w * ((l.drop k0).take i).length ≤ 16 * 64:=Nat.mul_le_mul (by omega) (by rw [List.length_take]; omega)
    omega
   obtain ⟨o,h3,q1,q2,q3,q4,E2⟩:=E.more (f:=f) (bs:=Zgy w v0) (by rw [List.length_set]; exact hfo) (by rw [Zbm]; omega) (by rw [hX,Zbm]; omega)
   rw [hX] at q1 q2 E2
   rw [Zbm] at q2 E2
   have go:=Zam E.o
   have hzl:(List.zipWith (fun o (l:List Nat)=>slV o l.length) os2 (outs.set f (o0 ++ encW w ((l.drop k0).take i)))).length=ls.length:=by
    rw [List.length_zipWith,E.len,Nat.min_self,List.length_set]; exact hol
   have st1:=fun ρ m n' u=>Zco (ρ:=ρ) (m:=m) (n:=n') (u:=u) (j:=f) (v:=.ref h2.next 0 ((o0 ++ encW w ((l.drop k0).take i)).length + w) 1) q3 (by rw [hzl]; exact hf) rfl rfl
   have gt2:=Zam E2.t
   generalize hz4:h3.set h1.next (.cells ((List.zipWith (fun o (l:List Nat)=>slV o l.length) os2 (outs.set f (o0 ++ encW w ((l.drop k0).take i)))).set f (.ref h2.next 0 ((o0 ++ encW w ((l.drop k0).take i)).length + w) 1)))=h4 at *
   have st2:=fun ρ m n' u=>Zco (ρ:=ρ) (m:=m) (n:=n') (u:=u) (j:=f) (v:=I ((k0 + (i + 1):Nat):Int)) gt2 (by rw [Zbq,List.length_set]; omega) rfl rfl
   rw [Zhb,List.set_set] at st2
   have E3:=E2.step (a':=a.set f (k0 + (i + 1)))
   rw [List.set_set,List.append_assoc,← Zn2,← htw] at E3
   simp -dsimp -implicitDefEqProofs only [↓STP,STQ,seval,Int.ofNat_lt,hi,hget,List.length_map,eq_true hltI,LV,Zak,Za1,hmx,gl,eq_true hfI',Nat.mul_one,gt,ga,Zbb,eq_true hklI,gw]
   rw [hdw]
   refine Zwb (by omega) (by omega) hv0 ?_
   simp -dsimp -implicitDefEqProofs only [↓STP,STQ,seval,Int.ofNat_lt,hi,hget,List.length_map,eq_true hfI',Nat.mul_one,go,q1,q2,q3,st1,gt2,ga,w2,w3,st2]
   exact ⟨N - (i + 1),by omega,i + 1,_,_,hlt,rfl,E3,rfl⟩
  ·have hiN':i=N:=by omega
   subst hiN'
   simp -dsimp -implicitDefEqProofs only [↓STP,STQ,seval,Int.ofNat_lt,hi,hget,List.length_map,Zak,Za1,hmx,Int.lt_irrefl,w1]
   refine ⟨p.ins.length - (j + 1),by omega,j + 1,a.set f (k0 + i),h2,os2,outs.set f (o0 ++ encW w ((l.drop k0).take i)),hi,rfl,by rw [List.length_set]; exact hal,by rw [List.length_set]; exact hol,hr,hen,fun x hx=>?_,E,rfl⟩
   rcases List.mem_or_eq_of_mem_set hx with hx | rfl
   ·have:=hle x hx; omega
   ·rw [List.length_append,Zcs]
    have h4:w * ((l.drop k0).take i).length ≤ 16 * 64:=Nat.mul_le_mul (by omega) (by rw [List.length_take]; omega)
    omega
 ·have hj':j=p.ins.length:=by omega
  subst hj'
  rw [List.drop_length,encG] at hen
  have hl:=E.lists
  rw [hol] at hl
  rw [← hen] at hl
  simp -dsimp -implicitDefEqProofs only [↓STP,STQ,seval,Int.lt_irrefl,List.length_map]
  refine hK h' _ (u1.trans ⟨by have:=E.nx; omega,E.old⟩) ?_
  exact hl
end
end YtihjhelbdbeokaaGreatDoor
end Go.Ab
