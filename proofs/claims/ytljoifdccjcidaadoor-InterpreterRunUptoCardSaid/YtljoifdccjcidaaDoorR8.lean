/- Part of a proof: The lengths of the reference's texts. -/
import Derived.Test.YtljoifdccjcidaaDoorR7
import Derived.Test.YtljoifdccjcidaaDoorR6
set_option linter.unusedVariables false
set_option linter.unusedSimpArgs false
namespace Go.Ab
theorem bsz {a:Array UInt8}:ByteArray.size ⟨a⟩=a.size:=rfl
theorem addS {a b:ByteArray} (h:a.size + b.size ≤ 9223372036854775807):binS .add a b=some (.str (a ++ b)):=by simp only [binS,if_pos h]
theorem len1 {α:Type} {l:List α} (h:l.length=1):∃ a,l=[a]:=by
 match l,h with
 | [a],_=>exact ⟨a,rfl⟩
theorem len2 {α:Type} {l:List α} (h:l.length=2):∃ a b,l=[a,b]:=by
 match l,h with
 | [a,b],_=>exact ⟨a,b,rfl⟩
theorem len3 {α:Type} {l:List α} (h:l.length=3):∃ a b c,l=[a,b,c]:=by
 match l,h with
 | [a,b,c],_=>exact ⟨a,b,c,rfl⟩
theorem kidsN_cases {k:Int} {n:Nat} (h:Zbs k=n):k=1∨k=2∨k=3∨k=4∨k=5∨k=6:=by
 unfold Zbs at h
 split at h
 ·omega
 ·split at h
  ·omega
  ·split at h
   ·omega
   ·split at h <;> omega
def dlen (n:Nat):Nat:=if n < 10 then 1 else 1 + dlen (n / 10)
theorem Zio {n:Nat} (h:n < 10):dlen n=1:=by rw [dlen,if_pos h]
theorem dlen_big {n:Nat} (h:¬ n < 10):dlen n=1 + dlen (n / 10):=by rw [dlen,if_neg h]
theorem dlen_le:∀ {k n:Nat},n < 10 ^ k→dlen n ≤ max k 1
 | 0, n, h => by have : n = 0 := by simpa using h
                 subst this; rw [Zio (by decide)]; decide
 | k + 1,n,h=>by
  by_cases h1:n < 10
  ·rw [Zio h1]; omega
  ·rw [dlen_big h1]
   have h2:n / 10 < 10 ^ k:=by rw [Nat.div_lt_iff_lt_mul (by decide),← Nat.pow_succ]; exact h
   have:=dlen_le h2
   rcases Nat.eq_zero_or_pos k with hk | hk
   ·subst hk; simp at h2; omega
   ·omega
theorem Zc8 {n:Nat} (h:n < 18446744073709551616):dlen n ≤ 20:=dlen_le (k:=20) (by omega)
def Zce (k o:Int):Int:=if k=6 then 1 else if k=5 then 8 else if k=4 then (if o=7 then 2 else if o=6 then 3 else if o=5 then 4 else if o=4 then 5 else if o=3 then 7 else 6) else 9
def held (x:Int × Nat) (m:Int):Nat:=if x.1 < m then x.2 + 2 else x.2
def nth (l:List (Int × Nat)) (i:Nat):Int × Nat:=l.getD i (9,0)
def Zdr (k o:Int) (n:Nat) (s:ByteArray) (l:List (Int × Nat)):Nat:=
 if k=1 then dlen n else if k=2 then s.size else if k=3 then s.size + 1 + (nth l 0).2 + 1 else if k=5 then 1 + held (nth l 0) 8
 else if k=6 then held (nth l 0) 2 + 3 + (nth l 1).2 + 3 + (nth l 2).2
 else held (nth l 0) (Zce k o) + 1 + (if o=5 then 2 else 1) + 1 + held (nth l 1) (Zce k o + 1)
mutual
def tlen:Exp→Nat
 | .mk k o n s ks=>Zdr k o n s (tlens ks)
def tlens:List Exp→List (Int × Nat)
 | []=>[]
 | e :: es=>(Zce e.kind e.op,tlen e) :: tlens es
end
def tl (e:Exp):Int × Nat:=(Zce e.kind e.op,tlen e)
theorem tlens_map:∀ l:List Exp,tlens l=l.map tl
 | []=>rfl
 | e :: es=>by rw [tlens,tlens_map es]; rfl
theorem tlen_mk {k o:Int} {n:Nat} {s:ByteArray} {ks:List Exp}:tlen (.mk k o n s ks)=Zdr k o n s (ks.map tl):=by rw [tlen,tlens_map]
namespace YtljoifdccjcidaaDoor
section
variable {h:H} {K:Out→H→Prop}
theorem dec27 {n:Nat} (hn:n < 18446744073709551616) (hK:∀ s:ByteArray,s.size=dlen n→K (.ret (.str s)) h):R 71 [W n] h K:=by
 refine run71 (Nat.le_of_ble_eq_true rfl) ?_
 have w1:∀ {n:Nat},IntKind.u64.wrap (48 + Int.tmod (n:Int) 10)=((48 + n % 10:Nat):Int):=fun {n}=>by
  rw [show Int.tmod (n:Int) 10=((n % 10:Nat):Int) from rfl,Zaq] <;> omega
 simp -dsimp -implicitDefEqProofs only [↓STP,STQ,seval,ir71,w1,Zf0]
 refine Zal (fun k st=>∃ (m:Nat) (s:ByteArray),k=m∧m ≤ n∧s.size + dlen m=dlen n + 1∧s.size ≤ 30∧st=⟨upd (upd ρ0 0 (W m)) 3 (.str s),m0,0,[],h⟩) (i:=n) ⟨n,_,rfl,Nat.le_refl _,?_,?_,by simp -dsimp -implicitDefEqProofs only [↓STP,STQ,seval] <;> rfl⟩ ?_ mono
 ·simp only [bsz,List.size_toArray,List.length_cons,List.length_nil]; omega
 ·simp only [bsz,List.size_toArray,List.length_cons,List.length_nil]; omega
 rintro m st ⟨_,s,rfl,hm,hs,hs2,rfl⟩
 have hd:=Zc8 hn
 by_cases c:(10:Int) ≤ (m:Int)
 ·have q1:IntKind.u64.wrap (Int.tdiv (m:Int) 10)=((m / 10:Nat):Int):=by
   rw [show Int.tdiv (m:Int) 10=((m / 10:Nat):Int) from rfl,Zaq] <;> omega
  have hdm:=dlen_big (show ¬ m < 10 by omega)
  simp -dsimp -implicitDefEqProofs (disch:=first | (simp -dsimp only [↓STP,STQ,seval]; done) | omega | (simp only [ByteArray.size_append,bsz,List.size_toArray,List.length_cons,List.length_nil]; omega)) only [↓STP,STQ,seval,addS,eq_true c,q1,w1,Zf0]
  refine ⟨m / 10,by omega,m / 10,_,rfl,by omega,?_,?_,rfl⟩
  ·simp only [ByteArray.size_append,bsz,List.size_toArray,List.length_cons,List.length_nil]; omega
  ·simp only [ByteArray.size_append,bsz,List.size_toArray,List.length_cons,List.length_nil]; omega
 ·have hdm:=Zio (show m < 10 by omega)
  simp -dsimp -implicitDefEqProofs only [↓STP,STQ,seval,eq_false c]
  exact hK s (by omega)
theorem prec27 {e:Exp} (hK:K (.ret (I (Zce e.kind e.op))) h):R 83 [e.v] h K:=by
 obtain ⟨k,o,n,s,ks⟩:=e
 refine run83 (Nat.le_of_ble_eq_true rfl) ?_
 by_cases c6:k=6
 ·simp -dsimp -implicitDefEqProofs only [↓STP,STQ,seval,Exp.v_mk,ir83,eq_true c6]
  simpa [Exp.kind,Exp.op,Zce,c6] using hK
 by_cases c5:k=5
 ·simp -dsimp -implicitDefEqProofs only [↓STP,STQ,seval,Exp.v_mk,ir83,eq_false c6,eq_true c5]
  simpa [Exp.kind,Exp.op,Zce,c5] using hK
 by_cases c4:k=4
 ·by_cases o7:o=7
  ·simp -dsimp -implicitDefEqProofs only [↓STP,STQ,seval,Exp.v_mk,ir83,eq_false c6,eq_false c5,eq_true c4,eq_true o7]
   simpa [Exp.kind,Exp.op,Zce,c4,o7] using hK
  by_cases o6:o=6
  ·simp -dsimp -implicitDefEqProofs only [↓STP,STQ,seval,Exp.v_mk,ir83,eq_false c6,eq_false c5,eq_true c4,eq_false o7,eq_true o6]
   simpa [Exp.kind,Exp.op,Zce,c4,o6] using hK
  by_cases o5:o=5
  ·simp -dsimp -implicitDefEqProofs only [↓STP,STQ,seval,Exp.v_mk,ir83,eq_false c6,eq_false c5,eq_true c4,eq_false o7,eq_false o6,eq_true o5]
   simpa [Exp.kind,Exp.op,Zce,c4,o5] using hK
  by_cases o4:o=4
  ·simp -dsimp -implicitDefEqProofs only [↓STP,STQ,seval,Exp.v_mk,ir83,eq_false c6,eq_false c5,eq_true c4,eq_false o7,eq_false o6,eq_false o5,eq_true o4]
   simpa [Exp.kind,Exp.op,Zce,c4,o4] using hK
  by_cases o3:o=3
  ·simp -dsimp -implicitDefEqProofs only [↓STP,STQ,seval,Exp.v_mk,ir83,eq_false c6,eq_false c5,eq_true c4,eq_false o7,eq_false o6,eq_false o5,eq_false o4,eq_true o3]
   simpa [Exp.kind,Exp.op,Zce,c4,o3] using hK
  simp -dsimp -implicitDefEqProofs only [↓STP,STQ,seval,Exp.v_mk,ir83,eq_false c6,eq_false c5,eq_true c4,eq_false o7,eq_false o6,eq_false o5,eq_false o4,eq_false o3]
  simpa [Exp.kind,Exp.op,Zce,c4,o7,o6,o5,o4,o3] using hK
 simp -dsimp -implicitDefEqProofs only [↓STP,STQ,seval,Exp.v_mk,ir83,eq_false c6,eq_false c5,eq_false c4]
 simpa [Exp.kind,Exp.op,Zce,c6,c5,c4] using hK
theorem sign27 {o:Int} (h1:1 ≤ o) (h2:o ≤ 7) (hK:∀ s:ByteArray,s.size=(if o=5 then 2 else 1)→K (.ret (.str s)) h):R 84 [I o] h K:=by
 refine run84 (Nat.le_of_ble_eq_true rfl) ?_
 have kk:o=1∨o=2∨o=3∨o=4∨o=5∨o=6∨o=7:=by omega
 have ww:∀ {a b:Int},a=b→0 ≤ b→b ≤ 10→IntKind.i64.wrap a=b:=fun h1 h2 h3=>by rw [h1,wrap_i64] <;> omega
 have w0:=ww (a:=0) rfl (by decide) (by decide)
 have w1:=ww (a:=1) rfl (by decide) (by decide)
 have w2:=ww (a:=2) rfl (by decide) (by decide)
 have w3:=ww (a:=3) rfl (by decide) (by decide)
 have w4:=ww (a:=4) rfl (by decide) (by decide)
 have w5:=ww (a:=5) rfl (by decide) (by decide)
 have w6:=ww (a:=6) rfl (by decide) (by decide)
 rcases kk with rfl | rfl | rfl | rfl | rfl | rfl | rfl
 all_goals
  simp -dsimp -implicitDefEqProofs only [↓STP,STQ,seval,ir84,w0,w1,w2,w3,w4,w5,w6]
  exact hK _ rfl
def TextOk (e:Exp):Prop:=∀ (h:H) (K:Out→H→Prop),(∀ s:ByteArray,s.size=tlen e→K (.ret (.str s)) h)→R 72 [e.v] h K
theorem paren27 {e:Exp} {m:Int} (ok:TextOk e) (hl:held (tl e) m ≤ 1000000000) (hK:∀ s:ByteArray,s.size=held (tl e) m→K (.ret (.str s)) h):R 82 [e.v,I m] h K:=by
 refine run82 (Nat.le_of_ble_eq_true rfl) ?_
 obtain ⟨k,o,n,s,ks⟩:=e
 have hpe:Zce (Exp.mk k o n s ks).kind (Exp.mk k o n s ks).op=Zce k o:=rfl
 by_cases c:Zce k o < m
 ·have hh:held (tl (.mk k o n s ks)) m=tlen (.mk k o n s ks) + 2:=if_pos c
  rw [hh] at hl hK
  simp -dsimp -implicitDefEqProofs only [↓STP,STQ,seval,Exp.v_mk,ir82]
  rw [← Exp.v_mk]
  refine prec27 ?_
  simp -dsimp -implicitDefEqProofs only [↓STP,STQ,seval,Exp.v_mk,hpe,c]
  rw [← Exp.v_mk]
  refine ok _ _ fun s hs=>?_
  simp -dsimp -implicitDefEqProofs (disch:=first | (simp -dsimp only [↓STP,STQ,seval]; done) | omega | (simp only [ByteArray.size_append,bsz,List.size_toArray,List.length_cons,List.length_nil]; omega)) only [↓STP,STQ,seval,addS]
  exact hK _ (by simp only [ByteArray.size_append,bsz,List.size_toArray,List.length_cons,List.length_nil]; omega)
 ·have hh:held (tl (.mk k o n s ks)) m=tlen (.mk k o n s ks):=if_neg c
  rw [hh] at hl hK
  simp -dsimp -implicitDefEqProofs only [↓STP,STQ,seval,Exp.v_mk,ir82]
  rw [← Exp.v_mk]
  refine prec27 ?_
  simp -dsimp -implicitDefEqProofs only [↓STP,STQ,seval,Exp.v_mk,hpe,c]
  rw [← Exp.v_mk]
  refine ok _ _ fun s hs=>?_
  simp -dsimp -implicitDefEqProofs only [↓STP,STQ,seval]
  exact hK s hs
theorem text27 (e:Exp):∀ lv,VE e lv→EOk e→tlen e ≤ 1000000000→TextOk e:=by
 induction e using Exp.ind with
 | h k o n s ks ih =>
  intro lv hv ok hl h K hK
  obtain ⟨v1,v2,v3,v4,v5,v6,v7,v8,v9⟩:=VE_mk.1 hv
  obtain ⟨_,_,hn,hs,_,hks⟩:=Zi2 ok
  rw [tlen_mk] at hl hK
  have one:∀ (x:Exp),x ∈ ks→tlen x ≤ 1000000000→TextOk x:=fun x hx hl=>ih _ hx (lv + 1) (v9 _ hx) (hks _ hx) hl
  refine run72 (Nat.le_of_ble_eq_true rfl) ?_
  by_cases c1:k=1
  ·subst c1
   have ht:Zdr 1 o n s (ks.map tl)=dlen n:=if_pos rfl
   rw [ht] at hl hK
   simp -dsimp -implicitDefEqProofs only [↓STP,STQ,seval,Exp.v_mk,ir72]
   refine dec27 hn fun s hs=>?_
   simp -dsimp -implicitDefEqProofs only [↓STP,STQ,seval]
   exact hK s hs
  by_cases c2:k=2
  ·subst c2
   have ht:Zdr 2 o n s (ks.map tl)=s.size:=by simp [Zdr]
   rw [ht] at hl hK
   simp -dsimp -implicitDefEqProofs only [↓STP,STQ,seval,Exp.v_mk,ir72]
   exact hK s rfl
  by_cases c3:k=3
  ·subst c3
   obtain ⟨a,rfl⟩:=len1 (show ks.length=1 by have:Zbs _=(ks.length:Int):=v2; simp [Zbs] at this; omega)
   ·skip
    have ht:Zdr 3 o n s ([a].map tl)=s.size + 1 + tlen a + 1:=by simp [Zdr,nth,tl]
    rw [ht] at hl hK
    simp -dsimp -implicitDefEqProofs (disch:=first | (simp -dsimp only [↓STP,STQ,seval]; done) | omega | (simp only [ByteArray.size_append,bsz,List.size_toArray,List.length_cons,List.length_nil]; omega)) only [↓STP,STQ,seval,addS,Exp.v_mk,Exp.v_clen,Exp.v_tk,Exp.v_ag,Exp.v_out,ir72]
    refine one a (by simp) (by omega) _ _ fun s1 h1=>?_
    simp -dsimp -implicitDefEqProofs (disch:=first | (simp -dsimp only [↓STP,STQ,seval]; done) | omega | (simp only [ByteArray.size_append,bsz,List.size_toArray,List.length_cons,List.length_nil]; omega)) only [↓STP,STQ,seval,addS]
    exact hK _ (by simp only [ByteArray.size_append,bsz,List.size_toArray,List.length_cons,List.length_nil]; omega)
  by_cases c5:k=5
  ·subst c5
   obtain ⟨a,rfl⟩:=len1 (show ks.length=1 by have:Zbs _=(ks.length:Int):=v2; simp [Zbs] at this; omega)
   ·skip
    have ht:Zdr 5 o n s ([a].map tl)=1 + held (tl a) 8:=by simp [Zdr,nth]
    rw [ht] at hl hK
    have hh:tlen a ≤ held (tl a) 8:=by unfold held; split <;> simp only [tl] <;> omega
    simp -dsimp -implicitDefEqProofs (disch:=first | (simp -dsimp only [↓STP,STQ,seval]; done) | omega | (simp only [ByteArray.size_append,bsz,List.size_toArray,List.length_cons,List.length_nil]; omega)) only [↓STP,STQ,seval,addS,Exp.v_mk,Exp.v_clen,Exp.v_tk,Exp.v_ag,Exp.v_out,ir72]
    refine paren27 (one a (by simp) (by omega)) (by omega) fun s1 h1=>?_
    simp -dsimp -implicitDefEqProofs (disch:=first | (simp -dsimp only [↓STP,STQ,seval]; done) | omega | (simp only [ByteArray.size_append,bsz,List.size_toArray,List.length_cons,List.length_nil]; omega)) only [↓STP,STQ,seval,addS]
    exact hK _ (by simp only [ByteArray.size_append,bsz,List.size_toArray,List.length_cons,List.length_nil]; omega)
  by_cases c6:k=6
  ·subst c6
   obtain ⟨a,b,c,rfl⟩:=len3 (show ks.length=3 by have:Zbs _=(ks.length:Int):=v2; simp [Zbs] at this; omega)
   ·skip
    have ht:Zdr 6 o n s ([a,b,c].map tl)=held (tl a) 2 + 3 + tlen b + 3 + tlen c:=by simp [Zdr,nth,tl]
    rw [ht] at hl hK
    have hh:tlen a ≤ held (tl a) 2:=by unfold held; split <;> simp only [tl] <;> omega
    simp -dsimp -implicitDefEqProofs (disch:=first | (simp -dsimp only [↓STP,STQ,seval]; done) | omega | (simp only [ByteArray.size_append,bsz,List.size_toArray,List.length_cons,List.length_nil]; omega)) only [↓STP,STQ,seval,addS,Exp.v_mk,Exp.v_clen,Exp.v_tk,Exp.v_ag,Exp.v_out,ir72]
    refine paren27 (one a (by simp) (by omega)) (by omega) fun s1 h1=>?_
    simp -dsimp -implicitDefEqProofs (disch:=first | (simp -dsimp only [↓STP,STQ,seval]; done) | omega | (simp only [ByteArray.size_append,bsz,List.size_toArray,List.length_cons,List.length_nil]; omega)) only [↓STP,STQ,seval,addS,Exp.v_clen,Exp.v_tk,Exp.v_ag,Exp.v_out]
    refine one b (by simp) (by omega) _ _ fun s2 h2=>?_
    simp -dsimp -implicitDefEqProofs (disch:=first | (simp -dsimp only [↓STP,STQ,seval]; done) | omega | (simp only [ByteArray.size_append,bsz,List.size_toArray,List.length_cons,List.length_nil]; omega)) only [↓STP,STQ,seval,addS,Exp.v_clen,Exp.v_tk,Exp.v_ag,Exp.v_out]
    refine one c (by simp) (by omega) _ _ fun s3 h3=>?_
    simp -dsimp -implicitDefEqProofs (disch:=first | (simp -dsimp only [↓STP,STQ,seval]; done) | omega | (simp only [ByteArray.size_append,bsz,List.size_toArray,List.length_cons,List.length_nil]; omega)) only [↓STP,STQ,seval,addS]
    exact hK _ (by simp only [ByteArray.size_append,bsz,List.size_toArray,List.length_cons,List.length_nil]; omega)
  ·have c4:k=4:=by have:=kidsN_cases v2; omega
   subst c4
   obtain ⟨o1,o2⟩:=v5 rfl
   obtain ⟨a,b,rfl⟩:=len2 (show ks.length=2 by have:Zbs _=(ks.length:Int):=v2; simp [Zbs] at this; omega)
   ·skip
    have ht:Zdr 4 o n s ([a,b].map tl)=held (tl a) (Zce 4 o) + 1 + (if o=5 then 2 else 1) + 1 + held (tl b) (Zce 4 o + 1):=by simp [Zdr,nth]
    rw [ht] at hl hK
    have hha:tlen a ≤ held (tl a) (Zce 4 o):=by unfold held; split <;> simp only [tl] <;> omega
    have hhb:tlen b ≤ held (tl b) (Zce 4 o + 1):=by unfold held; split <;> simp only [tl] <;> omega
    have hp:2 ≤ Zce 4 o∧Zce 4 o ≤ 7:=by
     have:Zce 4 o=(if o=7 then 2 else if o=6 then 3 else if o=5 then 4 else if o=4 then 5 else if o=3 then 7 else 6):=by simp [Zce]
     rw [this]
     repeat' split
     all_goals omega
    have wp:IntKind.i64.wrap (Zce 4 o + 1)=Zce 4 o + 1:=by rw [wrap_i64] <;> omega
    have hpe:Zce (Exp.mk 4 o n s [a,b]).kind (Exp.mk 4 o n s [a,b]).op=Zce 4 o:=rfl
    simp -dsimp -implicitDefEqProofs (disch:=first | (simp -dsimp only [↓STP,STQ,seval]; done) | omega | (simp only [ByteArray.size_append,bsz,List.size_toArray,List.length_cons,List.length_nil]; omega)) only [↓STP,STQ,seval,addS,Exp.v_mk,ir72]
    refine prec27 (e:=.mk 4 o n s [a,b]) ?_
    rw [hpe]
    simp -dsimp -implicitDefEqProofs (disch:=first | (simp -dsimp only [↓STP,STQ,seval]; done) | omega | (simp only [ByteArray.size_append,bsz,List.size_toArray,List.length_cons,List.length_nil]; omega)) only [↓STP,STQ,seval,addS,Exp.v_clen,Exp.v_tk,Exp.v_ag,Exp.v_out,wp]
    refine paren27 (one a (by simp) (by omega)) (by omega) fun s1 h1=>?_
    simp -dsimp -implicitDefEqProofs (disch:=first | (simp -dsimp only [↓STP,STQ,seval]; done) | omega | (simp only [ByteArray.size_append,bsz,List.size_toArray,List.length_cons,List.length_nil]; omega)) only [↓STP,STQ,seval,addS,Exp.v_clen,Exp.v_tk,Exp.v_ag,Exp.v_out,eq_self]
    refine sign27 o1 o2 fun s2 h2=>?_
    simp -dsimp -implicitDefEqProofs (disch:=first | (simp -dsimp only [↓STP,STQ,seval]; done) | omega | (simp only [ByteArray.size_append,bsz,List.size_toArray,List.length_cons,List.length_nil]; omega)) only [↓STP,STQ,seval,addS,Exp.v_clen,Exp.v_tk,Exp.v_ag,Exp.v_out,eq_self]
    refine paren27 (one b (by simp) (by omega)) (by omega) fun s3 h3=>?_
    simp -dsimp -implicitDefEqProofs (disch:=first | (simp -dsimp only [↓STP,STQ,seval]; done) | omega | (simp only [ByteArray.size_append,bsz,List.size_toArray,List.length_cons,List.length_nil]; omega)) only [↓STP,STQ,seval,addS]
    exact hK _ (by simp only [ByteArray.size_append,bsz,List.size_toArray,List.length_cons,List.length_nil]; omega)
end
end YtljoifdccjcidaaDoor
end Go.Ab
namespace Go.Ab
def at0 (l:List Nat) (i:Nat):Nat:=l.getD i 0
def Zdu (k:Int) (s:ByteArray) (es:List Nat) (ta tb nb ind:Nat):Nat:=
 if k=1 then ind + s.size + 3 + at0 es 0 + 2
 else if k=2 then ind + s.size + 1 + at0 es 0 + 4 + at0 es 1 + 2
 else if k=5 then ind + 4 + at0 es 0 + 2
 else if k=3 then ind + 4 + at0 es 0 + 4 + ta + (if nb=0 then 0 else ind + 9 + tb) + ind + 2
 else ind + 4 + s.size + 3 + at0 es 0 + 4 + at0 es 1 + 3 + ta + ind + 2
mutual
def llen:Stm→Nat→Nat
 | .mk k s e a b,ind=>Zdu k s (e.map tlen) (Zbg a (ind + 2)) (Zbg b (ind + 2)) b.length ind
def Zbg:List Stm→Nat→Nat
 | [],_=>0
 | x :: xs,ind=>llen x ind + Zbg xs ind
end
theorem Zfq:∀ (a b:List Stm) (ind:Nat),Zbg (a ++ b) ind=Zbg a ind + Zbg b ind
 | [],b,ind=>by rw [List.nil_append,Zbg,Nat.zero_add]
 | x :: a,b,ind=>by rw [List.cons_append,Zbg,Zbg,Zfq a b,Nat.add_assoc]
theorem Zl8 {l:List Stm} {i ind:Nat} (hi:i < l.length):Zbg (l.take (i + 1)) ind=Zbg (l.take i) ind + llen l[i] ind:=by
 rw [List.take_add_one,List.getElem?_eq_getElem hi,Zfq]
 simp [Zbg]
theorem llens_le {l:List Stm} {i ind:Nat} (hi:i < l.length):Zbg (l.take i) ind + llen l[i] ind ≤ Zbg l ind:=by
 have:Zbg l ind=Zbg (l.take (i + 1)) ind + Zbg (l.drop (i + 1)) ind:=by rw [← Zfq,List.take_append_drop]
 rw [this,Zl8 hi]; omega
theorem ind2 {b:ByteArray}:(b ++ (⟨#[32,32]⟩:ByteArray)).size=b.size + 2:=by
 rw [ByteArray.size_append]; rfl
namespace YtljoifdccjcidaaDoor
section
variable {h:H} {K:Out→H→Prop}
def Zf2 (l:List Stm):Prop:=∀ (lv:Nat) (ind:ByteArray) (h:H) (K:Out→H→Prop),VSs l lv→(∀ x ∈ l,SOk x)→l.length ≤ maxLen→ind.size ≤ 1000000000→Zbg l ind.size ≤ 1000000000→(∀ s:ByteArray,s.size=Zbg l ind.size→K (.ret (.str s)) h)→R 61 [.vec (l.map Stm.v) .any,.str ind] h K
theorem Zii (l:List Stm) (ih:∀ x ∈ l,Zf2 x.thn∧Zf2 x.els):Zf2 l:=by
 intro lv ind h K hv ok hl hind hll hK
 have hm:=Zap
 refine run61 (Nat.le_of_ble_eq_true rfl) ?_
 simp -dsimp -implicitDefEqProofs only [↓STP,STQ,seval,ir61]
 refine Zal (fun k st=>∃ (i:Nat) (s:ByteArray),k=l.length - i∧i ≤ l.length∧s.size=Zbg (l.take i) ind.size∧st=⟨upd (upd (upd (upd ρ0 0 (.vec (l.map Stm.v) .any)) 1 (.str ind)) 5 (.str s)) 6 (I i),m0,0,[],h⟩) (i:=l.length) ⟨0,⟨#[]⟩,rfl,by omega,rfl,by simp -dsimp -implicitDefEqProofs only [↓STP,STQ,seval] <;> rfl⟩ ?_ mono
 rintro k st ⟨i,out,rfl,hi,hout,rfl⟩
 by_cases hlt:i < l.length
 rotate_left
 ·have:i=l.length:=by omega
  subst this
  rw [List.take_length] at hout
  simp -dsimp -implicitDefEqProofs only [↓STP,STQ,seval,List.length_map,Int.lt_irrefl]
  exact hK out hout
 have hget:=Za6 (f:=Stm.v) hlt
 have hx:=VSs_all.1 hv _ (List.getElem_mem hlt)
 have okx:=ok _ (List.getElem_mem hlt)
 have hle:=llens_le (ind:=ind.size) hlt
 have htk:=Zl8 (ind:=ind.size) hlt
 have ihx:=ih _ (List.getElem_mem hlt)
 have w1:=wiM (show i < 9223372036854775807 by omega)
 generalize l[i]=x at *
 obtain ⟨k,s,e,a,b⟩:=x
 obtain ⟨v1,v2,v3,v4,v5,v6,v7,v8,v9,v10,v11⟩:=VS_mk.1 hx
 obtain ⟨_,hs,_,hla,hlb,oke,oka,okb⟩:=Zfc okx
 have hll2:llen (.mk k s e a b) ind.size=Zdu k s (e.map tlen) (Zbg a (ind.size + 2)) (Zbg b (ind.size + 2)) b.length ind.size:=by rw [llen]
 rw [hll2] at hle htk
 have text:∀ x ∈ e,tlen x ≤ 1000000000→TextOk x:=fun x hx hl=>text27 x (lv + 1) (v9 x hx) (oke x hx) hl
 have hA:Zf2 a:=ihx.1
 have hB:Zf2 b:=ihx.2
 have indS:∀ {q:ByteArray},q.size=ind.size + 2→q.size ≤ 1000000002:=fun h=>by omega
 have fin:∀ (t:ByteArray),t.size=Zbg (l.take (i + 1)) ind.size→(∃ j,j < l.length - i∧∃ (i':Nat) (s:ByteArray),j=l.length - i'∧i' ≤ l.length∧s.size=Zbg (l.take i') ind.size∧(⟨upd (upd (upd (upd ρ0 0 (.vec (l.map Stm.v) .any)) 1 (.str ind)) 5 (.str t)) 6 (I ((i + 1:Nat):Int)),m0,0,[],h⟩:S)=⟨upd (upd (upd (upd ρ0 0 (.vec (l.map Stm.v) .any)) 1 (.str ind)) 5 (.str s)) 6 (I i'),m0,0,[],h⟩):=
  fun t ht=>⟨l.length - (i + 1),by omega,i + 1,t,rfl,by omega,ht,rfl⟩
 have kk:k=1∨k=2∨k=3∨k=4∨k=5:=by omega
 rcases kk with rfl | rfl | rfl | rfl | rfl
 ·obtain ⟨e0,rfl⟩:=len1 (show e.length=1 by simpa using v4)
  have ht:Zdu 1 s ([e0].map tlen) (Zbg a (ind.size + 2)) (Zbg b (ind.size + 2)) b.length ind.size=ind.size + s.size + 3 + tlen e0 + 2:=by simp [Zdu,at0]
  rw [ht] at hle htk
  have hsz:s.size ≤ 20:=(v5 (by decide)).2.1
  simp -dsimp -implicitDefEqProofs (disch:=first | (simp -dsimp only [↓STP,STQ,seval]; done) | omega | (simp only [ByteArray.size_append,bsz,List.size_toArray,List.length_cons,List.length_nil]; omega)) only [↓STP,STQ,seval,addS,List.length_map,Int.ofNat_lt,hlt,hget,Stm.v_mk,Zae,Exp.v_clen,Exp.v_tk,Exp.v_ag,Exp.v_out,eq_self]
  refine text e0 (by simp) (by omega) _ _ fun s1 h1=>?_
  simp -dsimp -implicitDefEqProofs (disch:=first | (simp -dsimp only [↓STP,STQ,seval]; done) | omega | (simp only [ByteArray.size_append,bsz,List.size_toArray,List.length_cons,List.length_nil]; omega)) only [↓STP,STQ,seval,addS,eq_self,w1]
  refine fin _ ?_
  simp only [ByteArray.size_append,bsz,List.size_toArray,List.length_cons,List.length_nil]; omega
 ·obtain ⟨e0,e1,rfl⟩:=len2 (show e.length=2 by simpa using v4)
  have ht:Zdu 2 s ([e0,e1].map tlen) (Zbg a (ind.size + 2)) (Zbg b (ind.size + 2)) b.length ind.size=ind.size + s.size + 1 + tlen e0 + 4 + tlen e1 + 2:=by simp [Zdu,at0]
  rw [ht] at hle htk
  have hsz:s.size ≤ 20:=(v5 (by decide)).2.1
  simp -dsimp -implicitDefEqProofs (disch:=first | (simp -dsimp only [↓STP,STQ,seval]; done) | omega | (simp only [ByteArray.size_append,bsz,List.size_toArray,List.length_cons,List.length_nil]; omega)) only [↓STP,STQ,seval,addS,List.length_map,Int.ofNat_lt,hlt,hget,Stm.v_mk,Zae,Exp.v_clen,Exp.v_tk,Exp.v_ag,Exp.v_out,eq_self]
  refine text e0 (by simp) (by omega) _ _ fun s1 h1=>?_
  simp -dsimp -implicitDefEqProofs (disch:=first | (simp -dsimp only [↓STP,STQ,seval]; done) | omega | (simp only [ByteArray.size_append,bsz,List.size_toArray,List.length_cons,List.length_nil]; omega)) only [↓STP,STQ,seval,addS,Exp.v_clen,Exp.v_tk,Exp.v_ag,Exp.v_out,eq_self]
  refine text e1 (by simp) (by omega) _ _ fun s2 h2=>?_
  simp -dsimp -implicitDefEqProofs (disch:=first | (simp -dsimp only [↓STP,STQ,seval]; done) | omega | (simp only [ByteArray.size_append,bsz,List.size_toArray,List.length_cons,List.length_nil]; omega)) only [↓STP,STQ,seval,addS,eq_self,w1]
  refine fin _ ?_
  simp only [ByteArray.size_append,bsz,List.size_toArray,List.length_cons,List.length_nil]; omega
 ·obtain ⟨e0,rfl⟩:=len1 (show e.length=1 by simpa using v4)
  have ht:Zdu 3 s ([e0].map tlen) (Zbg a (ind.size + 2)) (Zbg b (ind.size + 2)) b.length ind.size=ind.size + 4 + tlen e0 + 4 + Zbg a (ind.size + 2) + (if b.length=0 then 0 else ind.size + 9 + Zbg b (ind.size + 2)) + ind.size + 2:=by simp [Zdu,at0]
  rw [ht] at hle htk
  by_cases hb:(0:Int) < (b.length:Int)
  ·rw [if_neg (show ¬ b.length=0 by omega)] at hle htk
   simp -dsimp -implicitDefEqProofs (disch:=first | (simp -dsimp only [↓STP,STQ,seval]; done) | omega | (simp only [ByteArray.size_append,bsz,List.size_toArray,List.length_cons,List.length_nil]; omega)) only [↓STP,STQ,seval,addS,List.length_map,Int.ofNat_lt,hlt,hget,Stm.v_mk,Zae,Exp.v_clen,Exp.v_tk,Exp.v_ag,Exp.v_out,eq_self]
   refine text e0 (by simp) (by omega) _ _ fun s1 h1=>?_
   simp -dsimp -implicitDefEqProofs (disch:=first | (simp -dsimp only [↓STP,STQ,seval]; done) | omega | (simp only [ByteArray.size_append,bsz,List.size_toArray,List.length_cons,List.length_nil]; omega)) only [↓STP,STQ,seval,addS,eq_self]
   refine hA (lv + 1) _ _ _ v10 oka hla (by rw [ind2]; omega) (by rw [ind2]; omega) fun s2 h2=>?_
   have h2':s2.size=Zbg a (ind.size + 2):=by rw [h2,ind2]
   simp -dsimp -implicitDefEqProofs (disch:=first | (simp -dsimp only [↓STP,STQ,seval]; done) | omega | (simp only [ByteArray.size_append,bsz,List.size_toArray,List.length_cons,List.length_nil]; omega)) only [↓STP,STQ,seval,addS,List.length_map,eq_true hb]
   refine hB (lv + 1) _ _ _ v11 okb hlb (by rw [ind2]; omega) (by rw [ind2]; omega) fun s3 h3=>?_
   have h3':s3.size=Zbg b (ind.size + 2):=by rw [h3,ind2]
   simp -dsimp -implicitDefEqProofs (disch:=first | (simp -dsimp only [↓STP,STQ,seval]; done) | omega | (simp only [ByteArray.size_append,bsz,List.size_toArray,List.length_cons,List.length_nil]; omega)) only [↓STP,STQ,seval,addS,eq_self,w1]
   refine fin _ ?_
   simp only [ByteArray.size_append,bsz,List.size_toArray,List.length_cons,List.length_nil]; omega
  ·rw [if_pos (show b.length=0 by omega)] at hle htk
   simp -dsimp -implicitDefEqProofs (disch:=first | (simp -dsimp only [↓STP,STQ,seval]; done) | omega | (simp only [ByteArray.size_append,bsz,List.size_toArray,List.length_cons,List.length_nil]; omega)) only [↓STP,STQ,seval,addS,List.length_map,Int.ofNat_lt,hlt,hget,Stm.v_mk,Zae,Exp.v_clen,Exp.v_tk,Exp.v_ag,Exp.v_out,eq_self]
   refine text e0 (by simp) (by omega) _ _ fun s1 h1=>?_
   simp -dsimp -implicitDefEqProofs (disch:=first | (simp -dsimp only [↓STP,STQ,seval]; done) | omega | (simp only [ByteArray.size_append,bsz,List.size_toArray,List.length_cons,List.length_nil]; omega)) only [↓STP,STQ,seval,addS,eq_self]
   refine hA (lv + 1) _ _ _ v10 oka hla (by rw [ind2]; omega) (by rw [ind2]; omega) fun s2 h2=>?_
   have h2':s2.size=Zbg a (ind.size + 2):=by rw [h2,ind2]
   simp -dsimp -implicitDefEqProofs (disch:=first | (simp -dsimp only [↓STP,STQ,seval]; done) | omega | (simp only [ByteArray.size_append,bsz,List.size_toArray,List.length_cons,List.length_nil]; omega)) only [↓STP,STQ,seval,addS,List.length_map,eq_false hb,w1]
   refine fin _ ?_
   simp only [ByteArray.size_append,bsz,List.size_toArray,List.length_cons,List.length_nil]; omega
 ·obtain ⟨e0,e1,rfl⟩:=len2 (show e.length=2 by simpa using v4)
  have ht:Zdu 4 s ([e0,e1].map tlen) (Zbg a (ind.size + 2)) (Zbg b (ind.size + 2)) b.length ind.size=ind.size + 4 + s.size + 3 + tlen e0 + 4 + tlen e1 + 3 + Zbg a (ind.size + 2) + ind.size + 2:=by simp [Zdu,at0]
  rw [ht] at hle htk
  have hsz:s.size ≤ 20:=(v5 (by decide)).2.1
  simp -dsimp -implicitDefEqProofs (disch:=first | (simp -dsimp only [↓STP,STQ,seval]; done) | omega | (simp only [ByteArray.size_append,bsz,List.size_toArray,List.length_cons,List.length_nil]; omega)) only [↓STP,STQ,seval,addS,List.length_map,Int.ofNat_lt,hlt,hget,Stm.v_mk,Zae,Exp.v_clen,Exp.v_tk,Exp.v_ag,Exp.v_out,eq_self]
  refine text e0 (by simp) (by omega) _ _ fun s1 h1=>?_
  simp -dsimp -implicitDefEqProofs (disch:=first | (simp -dsimp only [↓STP,STQ,seval]; done) | omega | (simp only [ByteArray.size_append,bsz,List.size_toArray,List.length_cons,List.length_nil]; omega)) only [↓STP,STQ,seval,addS,Exp.v_clen,Exp.v_tk,Exp.v_ag,Exp.v_out,eq_self]
  refine text e1 (by simp) (by omega) _ _ fun s2 h2=>?_
  simp -dsimp -implicitDefEqProofs (disch:=first | (simp -dsimp only [↓STP,STQ,seval]; done) | omega | (simp only [ByteArray.size_append,bsz,List.size_toArray,List.length_cons,List.length_nil]; omega)) only [↓STP,STQ,seval,addS,eq_self]
  refine hA (lv + 1) _ _ _ v10 oka hla (by rw [ind2]; omega) (by rw [ind2]; omega) fun s3 h3=>?_
  have h3':s3.size=Zbg a (ind.size + 2):=by rw [h3,ind2]
  simp -dsimp -implicitDefEqProofs (disch:=first | (simp -dsimp only [↓STP,STQ,seval]; done) | omega | (simp only [ByteArray.size_append,bsz,List.size_toArray,List.length_cons,List.length_nil]; omega)) only [↓STP,STQ,seval,addS,eq_self,w1]
  refine fin _ ?_
  simp only [ByteArray.size_append,bsz,List.size_toArray,List.length_cons,List.length_nil]; omega
 ·obtain ⟨e0,rfl⟩:=len1 (show e.length=1 by simpa using v4)
  have ht:Zdu 5 s ([e0].map tlen) (Zbg a (ind.size + 2)) (Zbg b (ind.size + 2)) b.length ind.size=ind.size + 4 + tlen e0 + 2:=by simp [Zdu,at0]
  rw [ht] at hle htk
  skip
  simp -dsimp -implicitDefEqProofs (disch:=first | (simp -dsimp only [↓STP,STQ,seval]; done) | omega | (simp only [ByteArray.size_append,bsz,List.size_toArray,List.length_cons,List.length_nil]; omega)) only [↓STP,STQ,seval,addS,List.length_map,Int.ofNat_lt,hlt,hget,Stm.v_mk,Zae,Exp.v_clen,Exp.v_tk,Exp.v_ag,Exp.v_out,eq_self]
  refine text e0 (by simp) (by omega) _ _ fun s1 h1=>?_
  simp -dsimp -implicitDefEqProofs (disch:=first | (simp -dsimp only [↓STP,STQ,seval]; done) | omega | (simp only [ByteArray.size_append,bsz,List.size_toArray,List.length_cons,List.length_nil]; omega)) only [↓STP,STQ,seval,addS,eq_self,w1]
  refine fin _ ?_
  simp only [ByteArray.size_append,bsz,List.size_toArray,List.length_cons,List.length_nil]; omega
theorem linesOk (x:Stm):Zf2 x.thn∧Zf2 x.els:=by
 induction x using Stm.ind with
 | h k s e a b iha ihb=>exact ⟨Zii a iha,Zii b ihb⟩
theorem lines27 (l:List Stm):Zf2 l:=Zii l fun x _=>linesOk x
end
end YtljoifdccjcidaaDoor
end Go.Ab
namespace Go.Ab
structure VIn (x:InD):Prop where
 name:Zdw x.name
 f1:1 ≤ x.frm
 f2:x.frm ≤ 13
 w1:1 ≤ x.width
 w2:x.width ≤ 16
 s1:0 ≤ x.size
 s2:x.size ≤ 64
structure VAr (x:ArD):Prop where
 name:Zdw x.name
 s1:1 ≤ x.size
 s2:x.size ≤ 64
def ilen (x:InD):Nat:=3 + x.name.size + (if x.size=0 then 0 else 2 + dlen x.size.toNat) + 6 + dlen x.frm.toNat + 2 + dlen x.width.toNat + 2
def alen (x:ArD):Nat:=6 + x.name.size + 1 + dlen x.size.toNat + 3
def sumL {α:Type} (f:α→Nat):List α→Nat
 | []=>0
 | x :: xs=>f x + sumL f xs
theorem Zg6 {α:Type} (f:α→Nat):∀ a b:List α,sumL f (a ++ b)=sumL f a + sumL f b
 | [],b=>by rw [List.nil_append,sumL,Nat.zero_add]
 | x :: a,b=>by rw [List.cons_append,sumL,sumL,Zg6 f a,Nat.add_assoc]
theorem Zj0 {α:Type} {f:α→Nat} {l:List α} {i:Nat} (hi:i < l.length):sumL f (l.take (i + 1))=sumL f (l.take i) + f l[i]:=by
 rw [List.take_add_one,List.getElem?_eq_getElem hi,Zg6]; simp [sumL]
theorem sumL_le {α:Type} {f:α→Nat} {l:List α} {i:Nat} (hi:i < l.length):sumL f (l.take i) + f l[i] ≤ sumL f l:=by
 have:sumL f l=sumL f (l.take (i + 1)) + sumL f (l.drop (i + 1)):=by rw [← Zg6,List.take_append_drop]
 rw [this,Zj0 hi]; omega
def flen (p:Prg):Nat:=sumL ilen p.ins + sumL alen p.arrays + Zbg p.body 0
structure VP (p:Prg):Prop where
 ins:∀ x ∈ p.ins,VIn x
 arrays:∀ x ∈ p.arrays,VAr x
 body:VSs p.body 1
 len:flen p ≤ 20000
namespace YtljoifdccjcidaaDoor
section
variable {h:H} {K:Out→H→Prop}
theorem num27 {n:Nat} (hn:n < 9223372036854775808) (hK:∀ s:ByteArray,s.size=dlen n→K (.ret (.str s)) h):R 60 [I n] h K:=by
 refine run60 (Nat.le_of_ble_eq_true rfl) ?_
 have w:IntKind.u64.wrap (n:Int)=(n:Int):=by rw [Zaq] <;> omega
 simp -dsimp -implicitDefEqProofs only [↓STP,STQ,seval,ir60,w]
 refine dec27 (by omega) fun s hs=>?_
 simp -dsimp -implicitDefEqProofs only [↓STP,STQ,seval]
 exact hK s hs
def Zbn (p:Prg):List V:=[.vec (p.ins.map InD.v) .any,.vec (p.arrays.map ArD.v) .any,.vec (p.body.map Stm.v) .any]
theorem format27 {p:Prg} (ok:POk p) (hi:∀ x ∈ p.ins,VIn x) (ha:∀ x ∈ p.arrays,VAr x) (hv:VSs p.body 1) (hl:flen p ≤ 1000000000) (hK:∀ s:ByteArray,s.size=flen p→K (.ret (.str s)) h):R 42 [p.v] h K:=by
 have hm:=Zap
 have hli:=ok.li
 have hla:=ok.la
 refine run42 (Nat.le_of_ble_eq_true rfl) ?_
 unfold flen at hl hK
 simp -dsimp -implicitDefEqProofs only [↓STP,STQ,seval,Prg.v,Prg.cells,ir42]
 refine Zal (fun k st=>∃ (i:Nat) (s:ByteArray),k=p.ins.length - i∧i ≤ p.ins.length∧s.size=sumL ilen (p.ins.take i)∧st=⟨upd (upd (upd ρ0 1 (.lptr 0 3 0)) 3 (.str s)) 4 (I i),upd m0 0 (some (Zbn p)),1,[],h⟩) (i:=p.ins.length) ⟨0,⟨#[]⟩,rfl,by omega,rfl,by simp -dsimp -implicitDefEqProofs only [↓STP,STQ,seval,Zbn] <;> rfl⟩ ?_ mono
 rintro k st ⟨i,out,rfl,hi',hout,rfl⟩
 by_cases hlt:i < p.ins.length
 ·have hget:=Za6 (f:=InD.v) hlt
  have hx:=hi _ (List.getElem_mem hlt)
  have hle:=sumL_le (f:=ilen) hlt
  have htk:=Zj0 (f:=ilen) hlt
  have w1:=wiM (show i < 9223372036854775807 by omega)
  generalize p.ins[i]=x at *
  obtain ⟨s,f,w,z⟩:=x
  obtain ⟨x1,x2,x3,x4,x5,x6,x7⟩:=hx
  have hsz:s.size ≤ 20:=x1.2.1
  simp only at x2 x3 x4 x5 x6 x7
  obtain ⟨f,rfl⟩:∃ n:Nat,f=n:=⟨f.toNat,by omega⟩
  obtain ⟨w,rfl⟩:∃ n:Nat,w=n:=⟨w.toNat,by omega⟩
  obtain ⟨z,rfl⟩:∃ n:Nat,z=n:=⟨z.toNat,by omega⟩
  have d1:=Zc8 (show f < 18446744073709551616 by omega)
  have d2:=Zc8 (show w < 18446744073709551616 by omega)
  have d3:=Zc8 (show z < 18446744073709551616 by omega)
  by_cases cz:(z:Int)=0
  ·have ht:ilen ⟨s,f,w,z⟩=3 + s.size + 0 + 6 + dlen f + 2 + dlen w + 2:=by simp [ilen,cz]
   rw [ht] at hle htk
   simp -dsimp -implicitDefEqProofs (disch:=first | (simp -dsimp only [↓STP,STQ,seval]; done) | omega | (simp only [ByteArray.size_append,bsz,List.size_toArray,List.length_cons,List.length_nil]; omega)) only [↓STP,STQ,seval,addS,Zbn,List.length_map,Int.ofNat_lt,hlt,hget,InD.v,InD.cells,Zae,eq_self,eq_true cz]
   refine num27 (by omega) fun s1 h1=>?_
   simp -dsimp -implicitDefEqProofs (disch:=first | (simp -dsimp only [↓STP,STQ,seval]; done) | omega | (simp only [ByteArray.size_append,bsz,List.size_toArray,List.length_cons,List.length_nil]; omega)) only [↓STP,STQ,seval,addS,eq_self,Zae]
   refine num27 (by omega) fun s2 h2=>?_
   simp -dsimp -implicitDefEqProofs (disch:=first | (simp -dsimp only [↓STP,STQ,seval]; done) | omega | (simp only [ByteArray.size_append,bsz,List.size_toArray,List.length_cons,List.length_nil]; omega)) only [↓STP,STQ,seval,addS,eq_self,w1]
   refine ⟨p.ins.length - (i + 1),by omega,i + 1,_,rfl,by omega,?_,rfl⟩
   simp only [ByteArray.size_append,bsz,List.size_toArray,List.length_cons,List.length_nil]; omega
  ·have ht:ilen ⟨s,f,w,z⟩=3 + s.size + (2 + dlen z) + 6 + dlen f + 2 + dlen w + 2:=by
    have:¬ z=0:=by omega
    simp [ilen,this]
   rw [ht] at hle htk
   simp -dsimp -implicitDefEqProofs (disch:=first | (simp -dsimp only [↓STP,STQ,seval]; done) | omega | (simp only [ByteArray.size_append,bsz,List.size_toArray,List.length_cons,List.length_nil]; omega)) only [↓STP,STQ,seval,addS,Zbn,List.length_map,Int.ofNat_lt,hlt,hget,InD.v,InD.cells,Zae,eq_self,eq_false cz]
   refine num27 (by omega) fun s0 h0=>?_
   simp -dsimp -implicitDefEqProofs (disch:=first | (simp -dsimp only [↓STP,STQ,seval]; done) | omega | (simp only [ByteArray.size_append,bsz,List.size_toArray,List.length_cons,List.length_nil]; omega)) only [↓STP,STQ,seval,addS,eq_self]
   refine num27 (by omega) fun s1 h1=>?_
   simp -dsimp -implicitDefEqProofs (disch:=first | (simp -dsimp only [↓STP,STQ,seval]; done) | omega | (simp only [ByteArray.size_append,bsz,List.size_toArray,List.length_cons,List.length_nil]; omega)) only [↓STP,STQ,seval,addS,eq_self]
   refine num27 (by omega) fun s2 h2=>?_
   simp -dsimp -implicitDefEqProofs (disch:=first | (simp -dsimp only [↓STP,STQ,seval]; done) | omega | (simp only [ByteArray.size_append,bsz,List.size_toArray,List.length_cons,List.length_nil]; omega)) only [↓STP,STQ,seval,addS,eq_self,w1]
   refine ⟨p.ins.length - (i + 1),by omega,i + 1,_,rfl,by omega,?_,rfl⟩
   simp only [ByteArray.size_append,bsz,List.size_toArray,List.length_cons,List.length_nil]; omega
 have hie:i=p.ins.length:=by omega
 subst hie
 rw [List.take_length] at hout
 simp -dsimp -implicitDefEqProofs only [↓STP,STQ,seval,Zbn,List.length_map,Int.lt_irrefl]
 refine Zal (fun k st=>∃ (i:Nat) (s:ByteArray),k=p.arrays.length - i∧i ≤ p.arrays.length∧s.size=sumL ilen p.ins + sumL alen (p.arrays.take i)∧st=⟨upd (upd (upd ρ0 1 (.lptr 0 3 0)) 3 (.str s)) 7 (I i),upd m0 0 (some (Zbn p)),1,[],h⟩) (i:=p.arrays.length) ⟨0,out,rfl,by omega,by rw [hout,List.take_zero]; rfl,by simp -dsimp -implicitDefEqProofs only [↓STP,STQ,seval,Zbn] <;> rfl⟩ ?_ mono
 rintro k st ⟨i,out,rfl,hi'',hout,rfl⟩
 by_cases hlt:i < p.arrays.length
 ·have hget:=Za6 (f:=ArD.v) hlt
  have hx:=ha _ (List.getElem_mem hlt)
  have hle:=sumL_le (f:=alen) hlt
  have htk:=Zj0 (f:=alen) hlt
  have w1:=wiM (show i < 9223372036854775807 by omega)
  generalize p.arrays[i]=x at *
  obtain ⟨s,z⟩:=x
  obtain ⟨x1,x6,x7⟩:=hx
  have hsz:s.size ≤ 20:=x1.2.1
  simp only at x6 x7
  obtain ⟨z,rfl⟩:∃ n:Nat,z=n:=⟨z.toNat,by omega⟩
  have d3:=Zc8 (show z < 18446744073709551616 by omega)
  have ht:alen ⟨s,z⟩=6 + s.size + 1 + dlen z + 3:=by simp [alen]
  rw [ht] at hle htk
  simp -dsimp -implicitDefEqProofs (disch:=first | (simp -dsimp only [↓STP,STQ,seval]; done) | omega | (simp only [ByteArray.size_append,bsz,List.size_toArray,List.length_cons,List.length_nil]; omega)) only [↓STP,STQ,seval,addS,Zbn,List.length_map,Int.ofNat_lt,hlt,hget,ArD.v,ArD.cells,Zae,eq_self]
  refine num27 (by omega) fun s1 h1=>?_
  simp -dsimp -implicitDefEqProofs (disch:=first | (simp -dsimp only [↓STP,STQ,seval]; done) | omega | (simp only [ByteArray.size_append,bsz,List.size_toArray,List.length_cons,List.length_nil]; omega)) only [↓STP,STQ,seval,addS,eq_self,w1]
  refine ⟨p.arrays.length - (i + 1),by omega,i + 1,_,rfl,by omega,?_,rfl⟩
  simp only [ByteArray.size_append,bsz,List.size_toArray,List.length_cons,List.length_nil]; omega
 have hie:i=p.arrays.length:=by omega
 subst hie
 rw [List.take_length] at hout
 simp -dsimp -implicitDefEqProofs only [↓STP,STQ,seval,Zbn,List.length_map,Int.lt_irrefl]
 refine lines27 p.body 1 _ _ _ hv ok.body ok.lb (by decide) (by show Zbg p.body 0 ≤ _; omega) fun s1 h1=>?_
 have h1':s1.size=Zbg p.body 0:=h1
 simp -dsimp -implicitDefEqProofs (disch:=first | (simp -dsimp only [↓STP,STQ,seval]; done) | omega | (simp only [ByteArray.size_append,bsz,List.size_toArray,List.length_cons,List.length_nil]; omega)) only [↓STP,STQ,seval,addS]
 refine hK _ ?_
 rw [ByteArray.size_append]; omega
theorem valid27 {p:Prg} (ok:POk p) (hfl:(∀ x ∈ p.ins,VIn x)→(∀ x ∈ p.arrays,VAr x)→VSs p.body 1→flen p ≤ 1000000000) (hK:∀ b:Bool,(b=true ↔ VP p)→K (.ret (.bool b)) h):R 27 [p.v] h K:=by
 have hm:=Zap
 have hli:=ok.li
 have hla:=ok.la
 have no:¬ VP p→K (.ret (.bool false)) h:=fun hn=>hK false (iff_of_false (by simp) hn)
 refine run27 (Nat.le_of_ble_eq_true rfl) ?_
 simp -dsimp -implicitDefEqProofs only [↓STP,STQ,seval,Prg.v,Prg.cells,ir27]
 refine Zar (N:=p.ins.length) (fun i=>⟨upd (upd ρ0 1 (.lptr 0 3 0)) 3 (I i),upd m0 0 (some (Zbn p)),1,[],h⟩) (fun i=>∀ x ∈ p.ins.take i,VIn x) (by simp -dsimp -implicitDefEqProofs only [↓STP,STQ,seval,Zbn] <;> rfl) (by simp) (fun i hlt hp=>?_) (fun hp=>?_) mono
 ·have hget:=Za6 (f:=InD.v) hlt
  have hx:=ok.ins _ (List.getElem_mem hlt)
  have w1:=wiM (show i < 9223372036854775807 by omega)
  have no2:¬ VIn p.ins[i]→K (.ret (.bool false)) h:=fun hn=>no fun hv=>hn (hv.ins _ (List.getElem_mem hlt))
  have yes:VIn p.ins[i]→∀ x ∈ p.ins.take (i + 1),VIn x:=fun hn x hx=>by
   rw [List.take_add_one,List.getElem?_eq_getElem hlt] at hx
   rcases List.mem_append.1 hx with hx | hx
   ·exact hp x hx
   ·simp at hx; subst hx; exact hn
  generalize p.ins[i]=x at *
  obtain ⟨s,f,w,z⟩:=x
  simp -dsimp -implicitDefEqProofs only [↓STP,STQ,seval,Zbn,List.length_map,Int.ofNat_lt,hlt,hget,InD.v,InD.cells,Zae]
  refine Zcg hx.n fun b hb=>?_
  cases b with
  | false =>
   simp -dsimp -implicitDefEqProofs only [↓STP,STQ,seval]
   exact no2 fun hv=>by have:=hb.2 hv.name; cases this
  | true =>
   by_cases c1:f < 1
   ·simp -dsimp -implicitDefEqProofs only [↓STP,STQ,seval,c1]
    exact no2 fun hv=>by have:=hv.f1; simp only at this; omega
   by_cases c2:13 < f
   ·simp -dsimp -implicitDefEqProofs only [↓STP,STQ,seval,c1,c2]
    exact no2 fun hv=>by have:=hv.f2; simp only at this; omega
   by_cases c3:w < 1
   ·simp -dsimp -implicitDefEqProofs only [↓STP,STQ,seval,c1,c2,c3]
    exact no2 fun hv=>by have:=hv.w1; simp only at this; omega
   by_cases c4:16 < w
   ·simp -dsimp -implicitDefEqProofs only [↓STP,STQ,seval,c1,c2,c3,c4]
    exact no2 fun hv=>by have:=hv.w2; simp only at this; omega
   by_cases c5:z < 0
   ·simp -dsimp -implicitDefEqProofs only [↓STP,STQ,seval,c1,c2,c3,c4,c5]
    exact no2 fun hv=>by have:=hv.s1; simp only at this; omega
   by_cases c6:64 < z
   ·simp -dsimp -implicitDefEqProofs only [↓STP,STQ,seval,c1,c2,c3,c4,c5,c6]
    exact no2 fun hv=>by have:=hv.s2; simp only at this; omega
   simp -dsimp -implicitDefEqProofs only [↓STP,STQ,seval,c1,c2,c3,c4,c5,c6,Zbn,w1]
   exact yes ⟨hb.1 rfl,by simp only; omega,by simp only; omega,by simp only; omega,by simp only; omega,by simp only; omega,by simp only; omega⟩
 rw [List.take_length] at hp
 simp -dsimp -implicitDefEqProofs only [↓STP,STQ,seval,Zbn,List.length_map,Int.lt_irrefl]
 refine Zar (N:=p.arrays.length) (fun i=>⟨upd (upd ρ0 1 (.lptr 0 3 0)) 5 (I i),upd m0 0 (some (Zbn p)),1,[],h⟩) (fun i=>∀ x ∈ p.arrays.take i,VAr x) (by simp -dsimp -implicitDefEqProofs only [↓STP,STQ,seval,Zbn] <;> rfl) (by simp) (fun i hlt hp2=>?_) (fun hp2=>?_) mono
 ·have hget:=Za6 (f:=ArD.v) hlt
  have hx:=ok.arrays _ (List.getElem_mem hlt)
  have w1:=wiM (show i < 9223372036854775807 by omega)
  have no2:¬ VAr p.arrays[i]→K (.ret (.bool false)) h:=fun hn=>no fun hv=>hn (hv.arrays _ (List.getElem_mem hlt))
  have yes:VAr p.arrays[i]→∀ x ∈ p.arrays.take (i + 1),VAr x:=fun hn x hx=>by
   rw [List.take_add_one,List.getElem?_eq_getElem hlt] at hx
   rcases List.mem_append.1 hx with hx | hx
   ·exact hp2 x hx
   ·simp at hx; subst hx; exact hn
  generalize p.arrays[i]=x at *
  obtain ⟨s,z⟩:=x
  simp -dsimp -implicitDefEqProofs only [↓STP,STQ,seval,Zbn,List.length_map,Int.ofNat_lt,hlt,hget,ArD.v,ArD.cells,Zae]
  refine Zcg hx.n fun b hb=>?_
  cases b with
  | false =>
   simp -dsimp -implicitDefEqProofs only [↓STP,STQ,seval]
   exact no2 fun hv=>by have:=hb.2 hv.name; cases this
  | true =>
   by_cases c5:z < 1
   ·simp -dsimp -implicitDefEqProofs only [↓STP,STQ,seval,c5]
    exact no2 fun hv=>by have:=hv.s1; simp only at this; omega
   by_cases c6:64 < z
   ·simp -dsimp -implicitDefEqProofs only [↓STP,STQ,seval,c5,c6]
    exact no2 fun hv=>by have:=hv.s2; simp only at this; omega
   simp -dsimp -implicitDefEqProofs only [↓STP,STQ,seval,c5,c6,Zbn,w1]
   exact yes ⟨hb.1 rfl,by simp only; omega,by simp only; omega⟩
 rw [List.take_length] at hp2
 simp -dsimp -implicitDefEqProofs only [↓STP,STQ,seval,Zbn,List.length_map,Int.lt_irrefl]
 refine stmts27 (lv:=1) ok.lb ok.body (by decide) fun b hb=>?_
 cases b with
 | false =>
  simp -dsimp -implicitDefEqProofs only [↓STP,STQ,seval]
  exact no fun hv=>by have:=hb.2 hv.body; cases this
 | true =>
  have hbody:=hb.1 rfl
  simp -dsimp -implicitDefEqProofs only [↓STP,STQ,seval]
  rw [show (V.agg [.vec (p.ins.map InD.v) .any,.vec (p.arrays.map ArD.v) .any,.vec (p.body.map Stm.v) .any])=p.v from rfl]
  refine format27 ok hp hp2 hbody (hfl hp hp2 hbody) fun s hs=>?_
  by_cases c:(s.size:Int) ≤ 20000
  ·simp -dsimp -implicitDefEqProofs only [↓STP,STQ,seval,eq_true c]
   exact hK true (iff_of_true rfl ⟨hp,hp2,hbody,by omega⟩)
  ·simp -dsimp -implicitDefEqProofs only [↓STP,STQ,seval,eq_false c]
   exact no fun hv=>by have:=hv.len; omega
end
end YtljoifdccjcidaaDoor
end Go.Ab
namespace Go.Ab
theorem endD_ret {F:IFn} {tw:TypeId} {h:H} {K:Out→H→Prop} {st:S}:endD F tw h K .ret st=Zbu (finish st F.results) (fun v=>K (.ret v) st.h) ⟨⟩:=rfl
theorem endD_pan {F:IFn} {tw:TypeId} {h h':H} {K:Out→H→Prop} {v:V}:endD F tw h K (.pan v) (.blank h')=∃ n x0 x1,v=.iface tw (.agg [.int .i64 n])∧h'.objs h.next=some (.cells [x0])∧h'.objs (h.next + 1)=some (.cells [x1]) ∧
   K (.ret (.tuple [.int .i64 0,.int .i64 n])) ((h'.set h.next (.cells [.int .i64 0])).set (h.next + 1) (.cells [.int .i64 n])):=rfl
structure Bse (h0 h:H):Prop where
 nx:h0.next + 2 ≤ h.next
 old:∀ j,j < h0.next→h.objs j=h0.objs j
 r0:h.objs h0.next=some (.cells [I 0])
 r1:h.objs (h0.next + 1)=some (.cells [I 0])
structure Bd (h0:H) (L:Lk) (insl:List (ByteArray × InD)) (arsl:List (ByteArray × Int)) (m:Nat) (h:H):Prop where
 x:h.objs L.x=some (.cells (L.cs ⟨⟨fun _=>none,[],[]⟩,0,m,0⟩))
 i:∃ ver,h.objs L.i=some (.map (mapO InD.v insl) ver)
 s:∃ ver,h.objs L.s=some (.map (mapO intV arsl) ver)
 v:∃ ver,h.objs L.v=some (.map (mapO vkV L.es) ver)
 w:∃ ver,h.objs L.w=some (.map (mapO refV L.ws) ver)
 l:∃ ver,h.objs L.l=some (.map (mapO conV []) ver)
 es:L.es=[]
 ws:∀ r ∈ L.ws,h.objs r.2.1=some (.cells (Zau (List.replicate r.2.2 1)))
 nd:L.own.Nodup
 lt:∀ id ∈ L.own,h0.next + 2 ≤ id∧id < h.next
 bs:Bse h0 h
theorem Bse.fin {h0 h:H} {n:Int} (b:Bse h0 h):((h.set h0.next (.cells [.int .i64 0])).set (h0.next + 1) (.cells [.int .i64 n])).next=h.next∧∀ j,j < h0.next→((h.set h0.next (.cells [.int .i64 0])).set (h0.next + 1) (.cells [.int .i64 n])).objs j=h0.objs j:=
 ⟨rfl,fun j hj=>by rw [Zaa,if_neg (by omega),Zaa,if_neg (by omega)]; exact b.old j hj⟩
theorem Bse.mono {h0 h h':H} (b:Bse h0 h) (hn:h.next ≤ h'.next) (e:∀ j,j < h0.next + 2→h'.objs j=h.objs j):Bse h0 h':=
 ⟨Nat.le_trans b.nx hn,fun j hj=>by rw [e j (by omega)]; exact b.old j hj,by rw [e _ (by omega)]; exact b.r0,by rw [e _ (by omega)]; exact b.r1⟩
theorem Zhc {d:InD}:∀ {l:List InD},maxI (l ++ [d])=max (maxI l) d.width.toNat
 | []=>by simp [maxI]
 | x :: xs=>by simp only [List.cons_append,maxI,Zhc (l:=xs),Nat.max_assoc]
def insM (l:List InD):List (ByteArray × InD):=l.map fun d=>(d.name,d)
def arsM (l:List ArD):List (ByteArray × Int):=l.map fun d=>(d.name,d.size)
theorem Zh0 {l:List InD}:(insM l).map (·.1)=l.map InD.name:=by simp [insM,List.map_map,Function.comp_def]
theorem Zk7 {l:List ArD}:(arsM l).map (·.1)=l.map ArD.name:=by simp [arsM,List.map_map,Function.comp_def]
theorem isSome_false {α:Type} {s:ByteArray} {l:List (ByteArray × α)}:(Zaf s l).isSome=false ↔ s ∉ l.map (·.1):=by
 rw [← findL_none]
 cases Zaf s l <;> simp
theorem isSome_true {α:Type} {s:ByteArray} {l:List (ByteArray × α)}:(Zaf s l).isSome=true ↔ s ∈ l.map (·.1):=by
 constructor
 ·intro h
  cases hf:Zaf s l with
  | none=>rw [hf] at h; cases h
  | some v=>exact List.mem_map.2 ⟨_,Za8 hf,rfl⟩
 ·intro h
  cases hf:(Zaf s l).isSome with
  | true=>rfl
  | false=>exact absurd h (isSome_false.1 hf)
theorem Zit {p:Prg} (h:¬ (p.ins.map InD.name ++ p.arrays.map ArD.name).Nodup):Zbk p=.error 4:=by
 unfold Zbk Zfg
 rw [decide_eq_false h]; rfl
theorem take_bad {α:Type} {l:List α} {r:List ByteArray} {f:α→ByteArray} {j:Nat} (hj:j < l.length) (h:f l[j] ∈ (l.take j).map f):¬ (l.map f ++ r).Nodup:=fun hn=>by
 have h1:=(List.nodup_append.1 hn).1
 have e:l=l.take j ++ l[j] :: l.drop (j + 1):=by rw [← List.drop_eq_getElem_cons hj,List.take_append_drop]
 rw [e,List.map_append,List.map_cons] at h1
 exact (List.nodup_append.1 h1).2.2 _ h _ List.mem_cons_self rfl
theorem Bd.grow {h0 h1 h2:H} {L:Lk} {ws0 old:List (ByteArray × Nat × Nat)} {s:ByteArray} {k ver:Nat} {insl:List (ByteArray × InD)} {arsl:List (ByteArray × Int)} {m:Nat} (B:Bd h0 { L with ws:=ws0 ++ old } insl arsl m h1)
  (hw:h2.objs L.w=some (.map (mapO refV (ws0 ++ [(s,h1.next,k + 1)])) ver)) (hid:h2.objs h1.next=some (.cells (Zau (List.replicate (k + 1) 1)))) (same:∀ j,j < h1.next→j ≠ L.w→(∀ r ∈ old,r.2.1 ≠ j)→h2.objs j=h1.objs j) (nx:h2.next=h1.next + 1) :
  Bd h0 { L with ws:=ws0 ++ [(s,h1.next,k + 1)] } insl arsl m h2:=by
 have D:=Lk.dist B.nd
 obtain ⟨⟨xi,xs,xv,xw,xl,xn⟩,⟨is,iv,iw,il,in_⟩,⟨sv,sw,sl,sn⟩,⟨vw,vl,vn⟩,⟨wl,wn⟩,ln,wnd⟩:=D
 simp only [List.map_append,List.mem_append,not_or] at xn in_ sn vn wn ln
 have hold:∀ {id},id ∉ old.map (fun r=>r.2.1)→∀ r ∈ old,r.2.1 ≠ id:=fun hn r hr e=>hn (by rw [← e]; exact List.mem_map.2 ⟨r,hr,rfl⟩)
 have lt:∀ id ∈ Lk.own { L with ws:=ws0 ++ old },h0.next + 2 ≤ id∧id < h1.next:=B.lt
 have l1:=lt L.x (by simp [Lk.own])
 have l2:=lt L.i (by simp [Lk.own])
 have l3:=lt L.s (by simp [Lk.own])
 have l4:=lt L.v (by simp [Lk.own])
 have l5:=lt L.w (by simp [Lk.own])
 have l6:=lt L.l (by simp [Lk.own])
 have l7:∀ r ∈ ws0,h0.next + 2 ≤ r.2.1∧r.2.1 < h1.next:=fun r hr=>lt _ (List.mem_append_right _ (List.mem_map.2 ⟨r,List.mem_append_left _ hr,rfl⟩))
 have l8:∀ r ∈ old,h0.next + 2 ≤ r.2.1∧r.2.1 < h1.next:=fun r hr=>lt _ (List.mem_append_right _ (List.mem_map.2 ⟨r,List.mem_append_right _ hr,rfl⟩))
 have hnd:=wnd
 simp only [List.map_append] at hnd
 have nn:∀ id,id < h1.next→id ∉ ws0.map (fun r=>r.2.1)→id ∉ (ws0 ++ [(s,h1.next,k + 1)]).map (fun r=>r.2.1):=fun id hl hn hm=>by
  rw [List.map_append,List.mem_append] at hm
  rcases hm with hm | hm
  ·exact hn hm
  ·simp at hm; omega
 refine ⟨?_,?_,?_,?_,⟨ver,hw⟩,?_,B.es,fun r hr=>?_,?_,fun id hid=>?_,B.bs.mono (by omega) (fun q hq=>same q (by omega) (by omega) (fun r hr=>by have:=l8 r hr; omega))⟩
 ·show h2.objs L.x=_; rw [same L.x (by omega) xw (hold xn.2)]; exact B.x
 ·show ∃ ver,h2.objs L.i=_; rw [same L.i (by omega) iw (hold in_.2)]; exact B.i
 ·show ∃ ver,h2.objs L.s=_; rw [same L.s (by omega) sw (hold sn.2)]; exact B.s
 ·show ∃ ver,h2.objs L.v=_; rw [same L.v (by omega) vw (hold vn.2)]; exact B.v
 ·show ∃ ver,h2.objs L.l=_; rw [same L.l (by omega) wl.symm (hold ln.2)]; exact B.l
 ·have hr:r ∈ ws0 ++ [(s,h1.next,k + 1)]:=hr
  rcases List.mem_append.1 hr with hr | hr
  ·rw [same _ (l7 r hr).2 (fun e=>wn.1 (by rw [← e]; exact List.mem_map.2 ⟨r,hr,rfl⟩)) (fun r' hr' e=>(List.nodup_append.1 hnd).2.2 r.2.1 (List.mem_map.2 ⟨r,hr,rfl⟩) r'.2.1 (List.mem_map.2 ⟨r',hr',rfl⟩) e.symm)]
   exact B.ws r (List.mem_append_left _ hr)
  ·rw [List.mem_singleton] at hr; subst hr; exact hid
 ·simp only [Lk.own,List.cons_append,List.nil_append,List.nodup_cons,List.mem_cons,not_or]
  refine ⟨⟨xi,xs,xv,xw,xl,nn _ l1.2 xn.1⟩,⟨is,iv,iw,il,nn _ l2.2 in_.1⟩,⟨sv,sw,sl,nn _ l3.2 sn.1⟩,⟨vw,vl,nn _ l4.2 vn.1⟩,⟨wl,nn _ l5.2 wn.1⟩,nn _ l6.2 ln.1,?_⟩
  rw [List.map_append]
  refine List.nodup_append.2 ⟨(List.nodup_append.1 hnd).1,by simp,fun a ha b hb e=>?_⟩
  obtain ⟨r,hr,rfl⟩:=List.mem_map.1 ha
  simp only [List.map_cons,List.map_nil,List.mem_singleton] at hb
  have:=(l7 r hr).2
  omega
 ·rw [nx]
  simp only [Lk.own,List.cons_append,List.nil_append,List.mem_cons,List.map_append,List.mem_append,List.map_nil,List.not_mem_nil,or_false,List.map_cons] at hid
  rcases hid with e | e | e | e | e | e | e | e
  ·omega
  ·omega
  ·omega
  ·omega
  ·omega
  ·omega
  ·obtain ⟨r,hr,rfl⟩:=List.mem_map.1 e
   have:=l7 r hr; omega
  ·have:=B.bs.nx; omega
theorem app_new1 {st:S} {s k:Nat} {c:Cap} (hk:k=0):appV st s (.vec [] .full) (.vec [I 1] c) 1 8 false true=some (.ref st.h.next 0 (k + 1) 1,st.withH (st.h.new (.cells (Zau (List.replicate (k + 1) 1))))):=by subst hk; rfl
theorem app_more {st:S} {s id k:Nat} {c:Cap} {n:Int} {cs:List V} (hg:st.h.get id=some cs) (hl:cs.length=k) (hk:k ≤ 1000):appV st s (.ref id 0 k 1) (.vec [I n] c) 1 8 false true=some (.ref st.h.next 0 (k + 1) 1,st.withH (st.h.move id (.cells (cs ++ [I n])))):=by
 simp only [appV,lenV,flat,hg,List.flatMap_cons,List.flatMap_nil,V.cells,List.append_nil,List.length_cons,List.length_nil]
 rw [if_pos ⟨trivial,by decide,by decide⟩,if_pos ⟨by rw [Nat.mul_one]; exact hl,trivial,by unfold most; omega,by decide⟩]
theorem Zhw {h:H} {id j:Nat} {o:O}:(h.move id o).objs j=if j=h.next then some o else if j=id then none else h.objs j:=rfl
theorem Zej {α:Type} {s:ByteArray} {v:α}:∀ {l:List (ByteArray × α)},s ∉ l.map (·.1)→Zaf s (l ++ [(s,v)])=some v
 | [],_=>by simp [Zaf]
 | (a,u) :: es,h=>by
  simp only [List.map_cons,List.mem_cons,not_or] at h
  simp only [List.cons_append,Zaf]
  rw [if_neg (fun e=>h.1 e.symm),Zej h.2]
theorem natVs_snoc {k:Nat}:Zau (List.replicate k 1) ++ [I 1]=Zau (List.replicate (k + 1) 1):=by
 rw [List.replicate_succ']; simp [Zau]
theorem maxI_le {l:List InD} (h:∀ d ∈ l,VIn d):maxI l ≤ 16:=by
 induction l with
 | nil=>decide
 | cons d ds ih =>
  have h1:=(h d (by simp)).w2
  have h2:=ih fun x hx=>h x (by simp [hx])
  simp only [maxI]; omega
namespace YtljoifdccjcidaaDoor
section
variable {K:Out→H→Prop} {p:Prg}
theorem takenB {s:ByteArray} {h:H} {x i sz l v1 v2 v3:Nat} {a b c d e:V} {insl:List (ByteArray × InD)} {arsl:List (ByteArray × Int)} {loops:List (ByteArray × Nat)} (gx:h.get x=some [.map i,.map sz,a,b,.map l,c,d,e]) (i1:h.objs i=some (.map (mapO InD.v insl) v1))
  (i2:h.objs sz=some (.map (mapO intV arsl) v2)) (i3:h.objs l=some (.map (mapO conV loops) v3)) (hK:K (.ret (.bool ((Zaf s insl).isSome || (Zaf s arsl).isSome || (Zaf s loops).isSome))) h):R 52 [.ptr x 0,.str s] h K:=by
 refine run52 (Nat.le_of_ble_eq_true rfl) ?_
 cases c1:Zaf s insl <;> cases c2:Zaf s arsl <;> cases c3:Zaf s loops <;> rw [c1,c2,c3] at hK <;>
  (simp -dsimp -implicitDefEqProofs only [↓STP,STQ,seval,ir52,gx,Za0 i1,Za0 i2,Za0 i3,c1,c2,c3,Zbd,getD_some,Zbc,Zay,Zas,Zaw,Zam,intV,conV,Zab,Zae]; exact hK)
theorem goneG {p:Prg} (ok:POk p) (hv:VSs p.body 1) (hin:∀ d ∈ p.ins,VIn d) (har:∀ d ∈ p.arrays,VAr d) {h:H}
  (hK:Ans (Zbk p) (fun σ=>∀ h',h.next ≤ h'.next→(∀ j,j < h.next→h'.objs j=h.objs j)→K (.ret (.tuple [I σ.most,I 0])) h') (fun e=>∀ h',h.next ≤ h'.next→(∀ j,j < h.next→h'.objs j=h.objs j)→K (.ret (.tuple [I 0,I e])) h')) :
  R 37 [p.v] h K:=by
 refine runs_defer ext2 (F:=ir37) (tw:=93) rfl ?_
 simp -dsimp -implicitDefEqProofs only [↓STP,STQ,seval,ir37,Prg.v,Prg.cells,Zag,List.length_map]
 generalize hL0:(Lk.mk (h.next + 1 + 1 + 1 + 1 + 1 + 1 + 1) (h.next + 1 + 1) (h.next + 1 + 1 + 1) (h.next + 1 + 1 + 1 + 1) (h.next + 1 + 1 + 1 + 1 + 1) (h.next + 1 + 1 + 1 + 1 + 1 + 1) [] [])=L
 have xe:L.x=h.next + 1 + 1 + 1 + 1 + 1 + 1 + 1:=by rw [← hL0]
 have li:=Zap
 have pli:=ok.li
 have pla:=ok.la
 refine Zal (fun k s=>∃ j h',k=p.ins.length - j∧j ≤ p.ins.length∧((p.ins.take j).map InD.name).Nodup∧Bd h L (insM (p.ins.take j)) [] (maxI (p.ins.take j)) h' ∧
  s=⟨upd (upd (upd (upd (upd (upd (upd ρ0 1 (.lptr 0 3 0)) 2 (.ptr h.next 0)) 3 (.ptr (h.next + 1) 0)) 4 (.ptr L.x 0)) 18 (.vec (p.ins.map InD.v) .any)) 19 (I p.ins.length)) 20 (I j),upd m0 0 (some [.vec (p.ins.map InD.v) .any,.vec (p.arrays.map ArD.v) .any,.vec (p.body.map Stm.v) .any]),1,[],h'⟩)
  (i:=p.ins.length) ⟨0,_,rfl,Nat.zero_le _,by simp,?_,by rw [xe]; simp -dsimp -implicitDefEqProofs only [↓STP,STQ,seval] <;> rfl⟩ ?_ mono
 ·subst hL0
  refine ⟨?_,⟨0,?_⟩,⟨0,?_⟩,⟨0,?_⟩,⟨0,?_⟩,⟨0,?_⟩,rfl,by simp,?_,?_,⟨?_,fun j hj=>?_,?_,?_⟩⟩
  ·simp [Zac,Zag,Lk.cs,maxI]
  ·simp [Zac,Zag,mapO,insM]
  ·simp [Zac,Zag,mapO]
  ·simp [Zac,Zag,mapO]
  ·simp [Zac,Zag,mapO]
  ·simp [Zac,Zag,mapO]
  ·simp [Lk.own]; omega
  ·intro id hid
   simp only [Lk.own,List.map_nil,List.append_nil,List.mem_cons,List.not_mem_nil,or_false] at hid
   simp only [Zag]
   omega
  ·simp only [Zag]; omega
  ·rw [Zac,if_neg (by simp only [Zag]; omega),Zac,if_neg (by simp only [Zag]; omega),Zac,if_neg (by simp only [Zag]; omega),Zac,if_neg (by simp only [Zag]; omega),Zac,if_neg (by simp only [Zag]; omega),Zac,if_neg (by simp only [Zag]; omega),Zac,if_neg (by simp only [Zag]; omega),Zac,if_neg (by omega)]
  ·rw [Zac,if_neg (by simp only [Zag]; omega),Zac,if_neg (by simp only [Zag]; omega),Zac,if_neg (by simp only [Zag]; omega),Zac,if_neg (by simp only [Zag]; omega),Zac,if_neg (by simp only [Zag]; omega),Zac,if_neg (by simp only [Zag]; omega),Zac,if_neg (by simp only [Zag]; omega),Zac,if_pos rfl]
  ·rw [Zac,if_neg (by simp only [Zag]; omega),Zac,if_neg (by simp only [Zag]; omega),Zac,if_neg (by simp only [Zag]; omega),Zac,if_neg (by simp only [Zag]; omega),Zac,if_neg (by simp only [Zag]; omega),Zac,if_neg (by simp only [Zag]; omega),Zac,if_pos (by rw [Zag])]
 rintro k s ⟨j,h',rfl,hj,hnd,B,rfl⟩
 have gx:=Zai B.x
 obtain ⟨vi,hi1⟩:=B.i
 obtain ⟨vs,hs1⟩:=B.s
 obtain ⟨vl,hl1⟩:=B.l
 have D:=Lk.dist B.nd
 rcases Nat.lt_or_ge j p.ins.length with hi | hi
 ·have hget:=Za6 (f:=InD.v) hi
  have hdm:p.ins[j] ∈ p.ins:=List.getElem_mem hi
  have hdi:=hin _ hdm
  have w1:=wiM (show j < 9223372036854775807 by omega)
  have htk:p.ins.take (j + 1)=p.ins.take j ++ [p.ins[j]]:=by rw [List.take_add_one,List.getElem?_eq_getElem hi]; rfl
  have hbad:=fun hh=>take_bad (r:=p.arrays.map ArD.name) (f:=InD.name) hi hh
  generalize p.ins[j]=d at *
  simp -dsimp -implicitDefEqProofs only [↓STP,STQ,seval,Int.ofNat_lt,hi,hget,Zam,Zae]
  refine takenB gx hi1 hs1 hl1 ?_
  cases ht:(Zaf d.name (insM (p.ins.take j))).isSome with
  | true =>
   have hm:=isSome_true.1 ht
   rw [Zh0] at hm
   rw [Zit (hbad hm)] at hK
   simp -dsimp -implicitDefEqProofs only [↓STP,STQ,seval,Bool.true_or]
   refine Zel ?_
   simp -dsimp -implicitDefEqProofs only [↓STP,STQ,seval,Zdg,endD_pan]
   obtain ⟨f1,f2⟩:=B.bs.fin (n:=4)
   exact ⟨4,_,_,rfl,B.bs.r0,B.bs.r1,hK _ (by rw [f1]; have:=B.bs.nx; omega) f2⟩
  | false =>
   have hm:=isSome_false.1 ht
   obtain ⟨vi',hup⟩:=Ze9 (f:=InD.v) (s:=d.name) (v:=d) hi1
   rw [Zcm hm] at hup
   rw [Zam] at hup
   generalize hh1:h'.set L.i (.map (mapO InD.v (insM (p.ins.take j) ++ [(d.name,d)])) vi')=h1 at *
   have gx1:h1.get L.x=some (L.cs ⟨⟨fun _=>none,[],[]⟩,0,maxI (p.ins.take j),0⟩):=Zai (by rw [← hh1,Zaa,if_neg D.1.1]; exact B.x)
   have hmx:(if d.width > ((maxI (p.ins.take j):Nat):Int) then d.width else ((maxI (p.ins.take j):Nat):Int))=((max (maxI (p.ins.take j)) d.width.toNat:Nat):Int):=by
    have:=hdi.w1
    split <;> omega
   have st1:=fun ρ m n u=>Zbv (ρ:=ρ) (m:=m) (n:=n) (u:=u) (j:=6) (v:=I ((max (maxI (p.ins.take j)) d.width.toNat:Nat):Int)) gx1 (by simp [Lk.cs]) rfl rfl
   generalize hh2:h1.set L.x (.cells ((L.cs ⟨⟨fun _=>none,[],[]⟩,0,maxI (p.ins.take j),0⟩).set 6 (I ((max (maxI (p.ins.take j)) d.width.toNat:Nat):Int))))=h2 at *
   simp -dsimp -implicitDefEqProofs only [↓STP,STQ,seval,Bool.false_or,Zaf,Zas,gx,Lk.cs,hup,gx1,Zbf,hmx,st1,w1]
   refine ⟨p.ins.length - (j + 1),by omega,j + 1,_,rfl,hi,?_,?_,rfl⟩
   ·rw [htk,List.map_append]
    rw [Zh0] at hm
    exact List.nodup_append.2 ⟨hnd,by simp,fun a ha b hb e=>by rw [List.map_cons,List.map_nil,List.mem_singleton] at hb; subst hb; subst e; exact hm ha⟩
   ·rw [htk]
    have hins:insM (p.ins.take j ++ [d])=insM (p.ins.take j) ++ [(d.name,d)]:=by simp [insM]
    rw [hins,Zhc]
    obtain ⟨⟨xi,xs,xv,xw,xl,xn⟩,⟨is,iv,iw,il,in_⟩,⟨sv,sw,sl,sn⟩,⟨vw,vl,vn⟩,⟨wl,wn⟩,ln,wnd⟩:=D
    have hold:∀ q,q ≠ L.i→q ≠ L.x→h2.objs q=h'.objs q:=fun q h1' h2'=>by rw [← hh2,Zaa,if_neg h2',← hh1,Zaa,if_neg h1']
    have hnx:h2.next=h'.next:=by rw [← hh2,Zax,← hh1,Zax]
    have lx:=(B.lt L.x (by simp [Lk.own])).1
    have lii:=(B.lt L.i (by simp [Lk.own])).1
    refine ⟨by rw [← hh2,Zaa,if_pos rfl]; rfl,⟨vi',by rw [← hh2,Zaa,if_neg xi.symm,← hh1,Zaa,if_pos rfl]⟩,?_,?_,?_,?_,B.es,fun r hr=>?_,B.nd,fun id hid=>by rw [hnx]; exact B.lt id hid,B.bs.mono (by rw [hnx]; exact Nat.le_refl _) (fun q hq=>hold q (by omega) (by omega))⟩
    ·rw [hold _ is.symm xs.symm]; exact B.s
    ·rw [hold _ iv.symm xv.symm]; exact B.v
    ·rw [hold _ iw.symm xw.symm]; exact B.w
    ·rw [hold _ il.symm xl.symm]; exact B.l
    ·have hm:r.2.1 ∈ L.ws.map (fun r=>r.2.1):=List.mem_map.2 ⟨r,hr,rfl⟩
     rw [hold _ (fun e=>in_ (by rw [← e]; exact hm)) (fun e=>xn (by rw [← e]; exact hm))]; exact B.ws r hr
 ·have hj':j=p.ins.length:=by omega
  subst hj'
  rw [List.take_length] at B hnd
  simp -dsimp -implicitDefEqProofs only [↓STP,STQ,seval,Int.lt_irrefl]
  generalize hm0:maxI p.ins=m0' at *
  have hL1:L={ L with ws:=[] }:=by rw [← hL0]
  have les:L.es=[]:=B.es
  refine Zal (fun k s=>∃ j ws h',k=p.arrays.length - j∧j ≤ p.arrays.length∧(p.ins.map InD.name ++ (p.arrays.take j).map ArD.name).Nodup∧Bd h { L with ws:=ws } (insM p.ins) (arsM (p.arrays.take j)) m0' h' ∧
   (ws.map fun r=>(r.1,r.2.2))=(p.arrays.take j).map (fun d=>(d.name,d.size.toNat)) ∧
   s=⟨upd (upd (upd (upd (upd (upd (upd ρ0 1 (.lptr 0 3 0)) 2 (.ptr h.next 0)) 3 (.ptr (h.next + 1) 0)) 4 (.ptr L.x 0)) 48 (.vec (p.arrays.map ArD.v) .any)) 49 (I p.arrays.length)) 50 (I j),upd m0 0 (some [.vec (p.ins.map InD.v) .any,.vec (p.arrays.map ArD.v) .any,.vec (p.body.map Stm.v) .any]),1,[],h'⟩)
   (i:=p.arrays.length) ⟨0,[],h',rfl,Nat.zero_le _,by simpa using hnd,by rw [← hL1]; exact B,rfl,by simp -dsimp -implicitDefEqProofs only [↓STP,STQ,seval,List.length_map] <;> rfl⟩ ?_ mono
  rintro k s ⟨j,ws,h2,rfl,hj2,hnd2,B2,hws,rfl⟩
  have gx2:=Zai B2.x
  obtain ⟨vi2,hi2⟩:=B2.i
  obtain ⟨vs2,hs2⟩:=B2.s
  obtain ⟨vl2,hl2⟩:=B2.l
  simp only at gx2 hi2 hs2 hl2
  have D2:=Lk.dist B2.nd
  simp only at D2
  rcases Nat.lt_or_ge j p.arrays.length with hi | hi
  ·have hget:=Za6 (f:=ArD.v) hi
   have hdm:p.arrays[j] ∈ p.arrays:=List.getElem_mem hi
   have hdi:=har _ hdm
   have w1:=wiM (show j < 9223372036854775807 by omega)
   have htk:p.arrays.take (j + 1)=p.arrays.take j ++ [p.arrays[j]]:=by rw [List.take_add_one,List.getElem?_eq_getElem hi]; rfl
   have hbad:p.arrays[j].name ∈ p.ins.map InD.name ++ (p.arrays.take j).map ArD.name→¬ (p.ins.map InD.name ++ p.arrays.map ArD.name).Nodup:=fun hh hn=>by
    rcases List.mem_append.1 hh with hh | hh
    ·exact (List.nodup_append.1 hn).2.2 _ hh _ (List.mem_map.2 ⟨_,hdm,rfl⟩) rfl
    ·have:=take_bad (r:=[]) (f:=ArD.name) hi hh
     rw [List.append_nil] at this
     exact this (List.nodup_append.1 hn).2.1
   generalize p.arrays[j]=d at *
   simp -dsimp -implicitDefEqProofs only [↓STP,STQ,seval,Int.ofNat_lt,hi,hget,ArD.v,ArD.cells,Zae]
   refine takenB gx2 hi2 hs2 hl2 ?_
   cases ht:((Zaf d.name (insM p.ins)).isSome || (Zaf d.name (arsM (p.arrays.take j))).isSome) with
   | true =>
    have hm:d.name ∈ p.ins.map InD.name ++ (p.arrays.take j).map ArD.name:=by
     rw [Bool.or_eq_true] at ht
     refine List.mem_append.2 (ht.imp (fun h=>?_) (fun h=>?_))
     ·have:=isSome_true.1 h; rwa [Zh0] at this
     ·have:=isSome_true.1 h; rwa [Zk7] at this
    rw [Zit (hbad hm)] at hK
    simp -dsimp -implicitDefEqProofs only [↓STP,STQ,seval,Bool.true_or]
    refine Zel ?_
    simp -dsimp -implicitDefEqProofs only [↓STP,STQ,seval,Zdg,endD_pan]
    obtain ⟨f1,f2⟩:=B2.bs.fin (n:=4)
    exact ⟨4,_,_,rfl,B2.bs.r0,B2.bs.r1,hK _ (by rw [f1]; have:=B2.bs.nx; omega) f2⟩
   | false =>
    have hm:d.name ∉ p.ins.map InD.name ++ (p.arrays.take j).map ArD.name:=fun hh=>by
     rw [Bool.or_eq_false_iff] at ht
     rcases List.mem_append.1 hh with hh | hh
     ·exact isSome_false.1 ht.1 (by rw [Zh0]; exact hh)
     ·exact isSome_false.1 ht.2 (by rw [Zk7]; exact hh)
    have hma:d.name ∉ (arsM (p.arrays.take j)).map (·.1):=fun hh=>hm (List.mem_append_right _ (by rw [Zk7] at hh; exact hh))
    have hkeys:ws.map (·.1)=(p.arrays.take j).map ArD.name:=by
     have:=congrArg (List.map Prod.fst) hws
     simpa [List.map_map,Function.comp_def] using this
    have hmw:d.name ∉ ws.map (·.1):=fun hh=>hm (List.mem_append_right _ (by rw [hkeys] at hh; exact hh))
    obtain ⟨vs3,hup⟩:=Ze9 (f:=intV) (s:=d.name) (v:=d.size) hs2
    rw [Zcm hma,show intV d.size=V.int .i64 d.size from rfl] at hup
    generalize hh3:h2.set L.s (.map (mapO intV (arsM (p.arrays.take j) ++ [(d.name,d.size)])) vs3)=h3 at *
    have ars1:arsM (p.arrays.take (j + 1))=arsM (p.arrays.take j) ++ [(d.name,d.size)]:=by rw [htk]; simp [arsM]
    have hold3:∀ q,q ≠ L.s→h3.objs q=h2.objs q:=fun q hq=>by rw [← hh3,Zaa,if_neg hq]
    have B3:Bd h { L with ws:=ws } (insM p.ins) (arsM (p.arrays.take (j + 1))) m0' h3:=by
     obtain ⟨⟨xi,xs,xv,xw,xl,xn⟩,⟨is,iv,iw,il,in_⟩,⟨sv,sw,sl,sn⟩,⟨vw,vl,vn⟩,⟨wl,wn⟩,ln,wnd⟩:=D2
     have ls:=(B2.lt L.s (by simp [Lk.own])).1
     rw [ars1]
     refine ⟨?_,?_,⟨vs3,?_⟩,?_,?_,?_,B2.es,fun r hr=>?_,B2.nd,fun id hid=>?_,B2.bs.mono ?_ (fun q hq=>hold3 q (by omega))⟩
     ·show h3.objs L.x=_; rw [hold3 _ xs]; exact B2.x
     ·show ∃ ver,h3.objs L.i=_; rw [hold3 _ is]; exact B2.i
     ·show h3.objs L.s=_; rw [← hh3,Zaa,if_pos rfl]
     ·show ∃ ver,h3.objs L.v=_; rw [hold3 _ sv.symm]; exact B2.v
     ·show ∃ ver,h3.objs L.w=_; rw [hold3 _ sw.symm]; exact B2.w
     ·show ∃ ver,h3.objs L.l=_; rw [hold3 _ sl.symm]; exact B2.l
     ·have hm:r.2.1 ∈ ws.map (fun r=>r.2.1):=List.mem_map.2 ⟨r,hr,rfl⟩
      rw [hold3 _ (fun e=>sn (by rw [← e]; exact hm))]; exact B2.ws r hr
     ·have:=B2.lt id hid; rw [← hh3]; exact this
     ·rw [← hh3]; exact Nat.le_refl _
    have hsz:d.size=((d.size.toNat:Nat):Int):=by have:=hdi.s1; omega
    simp -dsimp -implicitDefEqProofs only [↓STP,STQ,seval,Bool.false_or,Zaf,Zas,gx2,Lk.cs,hup]
    rw [hsz]
    generalize hNd:d.size.toNat=N at *
    have hN:N ≤ 64:=by have:=hdi.s2; omega
    have hN1:1 ≤ N:=by have:=hdi.s1; omega
    refine Zal (fun q s=>∃ k old h4,q=N - k∧k ≤ N∧((k=0∧old=[])∨(0 < k∧∃ id,old=[(d.name,id,k)]))∧Bd h { L with ws:=ws ++ old } (insM p.ins) (arsM (p.arrays.take (j + 1))) m0' h4 ∧
     s=⟨upd (upd (upd (upd (upd (upd (upd (upd (upd (upd ρ0 1 (.lptr 0 3 0)) 2 (.ptr h.next 0)) 3 (.ptr (h.next + 1) 0)) 4 (.ptr L.x 0)) 8 (.lptr 1 2 0)) 48 (.vec (p.arrays.map ArD.v) .any)) 49 (I p.arrays.length)) 50 (I j)) 68 (I N)) 69 (I k),
      upd (upd m0 0 (some [.vec (p.ins.map InD.v) .any,.vec (p.arrays.map ArD.v) .any,.vec (p.body.map Stm.v) .any])) 1 (some [.str d.name,I N]),2,[],h4⟩)
     (i:=N) ⟨0,[],h3,rfl,Nat.zero_le _,.inl ⟨rfl,rfl⟩,by rw [List.append_nil]; exact B3,by simp -dsimp -implicitDefEqProofs only [↓STP,STQ,seval] <;> rfl⟩ ?_ mono
    rintro q s ⟨k,old,h4,rfl,hk,hold,B4,rfl⟩
    rcases Nat.lt_or_ge k N with hkN | hkN
    ·have hlt:((k:Nat):Int) < ((N:Nat):Int):=by omega
     have gx4:=Zai B4.x
     simp only at gx4
     obtain ⟨vw4,hw4⟩:=B4.w
     simp only at hw4
     have wk:=wiM (show k < 9223372036854775807 by omega)
     have l1:=B4.lt L.x (by simp [Lk.own])
     have l5:=B4.lt L.w (by simp [Lk.own])
     have D4:=Lk.dist B4.nd
     simp only at D4
     rcases hold with ⟨hk0,rfl⟩ | ⟨hk0,id,rfl⟩
     ·have hf:Zaf d.name ws=none:=findL_none.2 hmw
      have g5:(h4.new (.cells (Zau (List.replicate (k + 1) 1)))).get L.x=some (Lk.cs { L with ws:=ws ++ [] } ⟨⟨fun _=>none,[],[]⟩,0,m0',0⟩):=Zai (by rw [Zac,if_neg (by omega)]; exact B4.x)
      have hw5:(h4.new (.cells (Zau (List.replicate (k + 1) 1)))).objs L.w=some (.map (mapO refV (ws ++ [])) vw4):=by rw [Zac,if_neg (by omega)]; exact hw4
      obtain ⟨ver',hup⟩:=Ze9 (f:=refV) (s:=d.name) (v:=(h4.next,k + 1)) hw5
      rw [List.append_nil,Zcm hmw,show refV (h4.next,k + 1)=V.ref h4.next 0 (k + 1) 1 from rfl] at hup
      simp -dsimp -implicitDefEqProofs only [↓STP,STQ,seval,eq_true hlt,gx4,Lk.cs,Zd4 hw4,hf,Zbc,Zbd]
      rw [app_new1 hk0]
      generalize hcs:Zau (List.replicate (k + 1) 1)=cs at *
      simp -dsimp -implicitDefEqProofs only [↓STP,STQ,seval,g5,Lk.cs,hup,wk]
      refine ⟨N - (k + 1),by omega,k + 1,[(d.name,h4.next,k + 1)],_,rfl,by omega,.inr ⟨by omega,_,rfl⟩,B4.grow (old:=[]) (h2:=(h4.new (.cells cs)).set L.w (.map (mapO refV (ws ++ [(d.name,h4.next,k + 1)])) ver')) (by rw [Zaa,if_pos rfl]) ?_ (fun i hil hne _=>?_) rfl,rfl⟩
      ·rw [Zaa,if_neg (by omega),Zac,if_pos rfl,hcs]
      ·rw [Zaa,if_neg hne,Zac,if_neg (by omega)]
     ·have hf:Zaf d.name (ws ++ [(d.name,id,k)])=some (id,k):=Zej hmw
      have hmem:(d.name,id,k) ∈ ws ++ [(d.name,id,k)]:=by simp
      have hid:h4.objs id=some (.cells (Zau (List.replicate k 1))):=B4.ws _ hmem
      have hidm:id ∈ (ws ++ [(d.name,id,k)]).map (fun r=>r.2.1):=List.mem_map.2 ⟨_,hmem,rfl⟩
      have idl:=B4.lt id (List.mem_append_right _ hidm)
      have nx1:L.x ≠ id:=fun e=>D4.1.2.2.2.2.2 (by rw [e]; exact hidm)
      have nw1:L.w ≠ id:=fun e=>D4.2.2.2.2.1.2 (by rw [e]; exact hidm)
      have g5:(h4.move id (.cells (Zau (List.replicate (k + 1) 1)))).get L.x=some (Lk.cs { L with ws:=ws ++ [(d.name,id,k)] } ⟨⟨fun _=>none,[],[]⟩,0,m0',0⟩):=Zai (by rw [Zhw,if_neg (by omega),if_neg nx1]; exact B4.x)
      have hw5:(h4.move id (.cells (Zau (List.replicate (k + 1) 1)))).objs L.w=some (.map (mapO refV (ws ++ [(d.name,id,k)])) vw4):=by rw [Zhw,if_neg (by omega),if_neg nw1]; exact hw4
      obtain ⟨ver',hup⟩:=Ze9 (f:=refV) (s:=d.name) (v:=(h4.next,k + 1)) hw5
      rw [Zj9 hmw,show refV (h4.next,k + 1)=V.ref h4.next 0 (k + 1) 1 from rfl] at hup
      simp -dsimp -implicitDefEqProofs only [↓STP,STQ,seval,eq_true hlt,gx4,Lk.cs,Zd4 hw4,hf,Zay,getD_some,refV]
      rw [app_more (Zai hid) (by rw [Zby,List.length_replicate]) (by omega),natVs_snoc]
      generalize hcs:Zau (List.replicate (k + 1) 1)=cs at *
      simp -dsimp -implicitDefEqProofs only [↓STP,STQ,seval,g5,Lk.cs,hup,wk]
      refine ⟨N - (k + 1),by omega,k + 1,[(d.name,h4.next,k + 1)],_,rfl,by omega,.inr ⟨by omega,_,rfl⟩,B4.grow (old:=[(d.name,id,k)]) (h2:=(h4.move id (.cells cs)).set L.w (.map (mapO refV (ws ++ [(d.name,h4.next,k + 1)])) ver')) (by rw [Zaa,if_pos rfl]) ?_ (fun i hil hne hall=>?_) rfl,rfl⟩
      ·rw [Zaa,if_neg (by omega),Zhw,if_pos rfl,hcs]
      ·rw [Zaa,if_neg hne,Zhw,if_neg (by omega),if_neg (fun e=>hall (d.name,id,k) (by simp) e.symm)]
    ·have hkN':k=N:=by omega
     subst hkN'
     simp -dsimp -implicitDefEqProofs only [↓STP,STQ,seval,Int.lt_irrefl,w1]
     obtain ⟨_,id,rfl⟩:=hold.resolve_left (fun hh=>by omega)
     refine ⟨p.arrays.length - (j + 1),by omega,j + 1,ws ++ [(d.name,id,k)],h4,rfl,hi,?_,B4,?_,rfl⟩
     ·rw [htk,List.map_append,← List.append_assoc]
      exact List.nodup_append.2 ⟨hnd2,by simp,fun a ha b hb e=>by rw [List.map_cons,List.map_nil,List.mem_singleton] at hb; subst hb; subst e; exact hm ha⟩
     ·rw [htk,List.map_append,List.map_append,hws]
      simp only [List.map_cons,List.map_nil,hNd]
  ·have hj':j=p.arrays.length:=by omega
   subst hj'
   rw [List.take_length] at B2 hnd2 hws
   have hp:PV p:=⟨fun d hd=>⟨(hin d hd).w1,(hin d hd).w2,(hin d hd).s1,(hin d hd).s2⟩,fun d hd=>⟨(har d hd).s1,(har d hd).s2⟩,hnd2⟩
   have hkeys:ws.map (·.1)=p.arrays.map ArD.name:=by
    have:=congrArg (List.map Prod.fst) hws
    simpa [List.map_map,Function.comp_def] using this
   have hwlen:ws.length=p.arrays.length:=by simpa using congrArg List.length hws
   have hkn:(ws.map (·.1)).Nodup:=by rw [hkeys]; exact (List.nodup_append.1 hnd2).2.1
   have A:At p { L with ws:=ws } (Ze1 p) h2:=by
    refine ⟨?_,B2.i,B2.s,B2.v,B2.w,B2.l,fun s=>?_,?_,fun i d hd=>?_,hkn,fun r hr=>?_,B2.nd,fun id hid=>(B2.lt id hid).2⟩
    ·have:=B2.x; rw [← hm0] at this; exact this
    ·show Zaf s L.es=none; rw [les]; rfl
    ·show (L.es.map (·.1)).Nodup; rw [les]; simp
    ·have hil:i < p.arrays.length:=(List.getElem?_eq_some_iff.1 hd).1
     have hg:ws[i]?=some ws[i]:=List.getElem?_eq_getElem (by omega)
     have he:(ws.map fun r=>(r.1,r.2.2))[i]?=(p.arrays.map (fun d=>(d.name,d.size.toNat)))[i]?:=by rw [hws]
     rw [List.getElem?_map,List.getElem?_map,hg,hd] at he
     simp only [Option.map_some,Option.some.injEq,Prod.mk.injEq] at he
     have hmem:ws[i] ∈ ws:=List.mem_of_getElem? hg
     refine ⟨ws[i].2.1,List.replicate d.size.toNat 1,?_,?_,?_⟩
     ·show (p.arrays.map fun d=>List.replicate d.size.toNat 1)[i]?=_
      rw [List.getElem?_map,hd]; rfl
     ·rw [List.length_replicate]
      refine Zbh hkn ?_
      show (d.name,ws[i].2.1,d.size.toNat) ∈ ws
      rw [← he.1,← he.2]; exact hmem
     ·rw [← he.2]; exact B2.ws _ hmem
    ·have:r.1 ∈ p.arrays.map ArD.name:=by rw [← hkeys]; exact List.mem_map.2 ⟨r,hr,rfl⟩
     obtain ⟨d,hd,hn⟩:=List.mem_map.1 this
     exact ⟨d,hd,hn⟩
   have T:TOk p (Ze1 p):=by
    refine ⟨⟨(fun s k w h=>by cases h),(fun s n h=>by cases h),by simp [Ze1],fun i l d hl hd=>?_⟩,Nat.zero_le _,by have:=maxI_le hin; show maxI p.ins ≤ 60; omega⟩
    have hl:(p.arrays.map fun d=>List.replicate d.size.toNat 1)[i]?=some l:=hl
    rw [List.getElem?_map,hd] at hl
    cases hl
    have:=(har d (List.mem_of_getElem? hd)).s1
    refine ⟨by rw [List.length_replicate]; omega,fun w hw=>?_⟩
    have:=(List.mem_replicate.1 hw).2
    omega
   have hck:Zbk p=Zaj p p.body (Ze1 p):=by
    unfold Zbk Zfg
    rw [decide_eq_true hnd2]; rfl
   rw [hck] at hK
   simp -dsimp -implicitDefEqProofs only [↓STP,STQ,seval,Int.lt_irrefl]
   refine stmtsG hp ok.lb hv ok.body { L with ws:=ws } (Ze1 p) h2 _ A T (Nat.zero_le _) ?_
   have own2:∀ id,id < h.next + 2→id ∉ Lk.own { L with ws:=ws }:=fun id hl hi=>by have:=(B2.lt id hi).1; omega
   have bnx:=B2.bs.nx
   cases hr:Zaj p p.body (Ze1 p) with
   | error e =>
    rw [hr] at hK
    intro L5 h5 F5
    have b5:Bse h h5:=B2.bs.mono F5.nx (fun q hq=>F5.same q (by omega) (own2 q hq))
    simp -dsimp -implicitDefEqProofs only [↓STP,STQ,seval,Zdg,endD_pan]
    obtain ⟨f1,f2⟩:=b5.fin (n:=e)
    exact ⟨e,_,_,rfl,b5.r0,b5.r1,hK _ (by rw [f1]; have:=b5.nx; omega) f2⟩
   | ok σ =>
    rw [hr] at hK
    intro L5 h5 A5 F5
    have b5:Bse h h5:=B2.bs.mono F5.nx (fun q hq=>F5.same q (by omega) (own2 q hq))
    have gx5:=Zai A5.x
    rw [show L5.x=L.x from F5.x] at gx5
    have st5:=fun ρ m n u=>Zbv (ρ:=ρ) (m:=m) (n:=n) (u:=u) (j:=0) (v:=I ((σ.most:Nat):Int)) (Zai b5.r0) (by decide) rfl rfl
    generalize hh6:h5.set h.next (.cells ([I 0].set 0 (I ((σ.most:Nat):Int))))=h6 at *
    have g6:h6.get (h.next + 1)=some [I 0]:=Zai (by rw [← hh6,Zaa,if_neg (by omega)]; exact b5.r1)
    have st6:=fun ρ m n u=>Zbv (ρ:=ρ) (m:=m) (n:=n) (u:=u) (j:=0) (v:=I 0) g6 (by decide) rfl rfl
    generalize hh7:h6.set (h.next + 1) (.cells ([I 0].set 0 (I 0)))=h7 at *
    have g70:h7.get h.next=some [I ((σ.most:Nat):Int)]:=Zai (by rw [← hh7,Zaa,if_neg (by omega),← hh6,Zaa,if_pos rfl]; rfl)
    have g71:h7.get (h.next + 1)=some [I 0]:=Zai (by rw [← hh7,Zaa,if_pos rfl]; rfl)
    simp -dsimp -implicitDefEqProofs only [↓STP,STQ,seval,gx5,Lk.cs,st5,st6,endD_ret,g70,g71,ir37]
    refine hK h7 (by rw [← hh7,Zax,← hh6,Zax]; have:=b5.nx; omega) (fun q hq=>?_)
    rw [← hh7,Zaa,if_neg (by omega),← hh6,Zaa,if_neg (by omega)]
    exact b5.old q hq
end
end YtljoifdccjcidaaDoor
end Go.Ab
namespace Go.Ab
open Go.RowKit Go.ChangeShapes
mutual
def V.bulk:V→Nat
 | .str s=>s.size + 1
 | .vec xs _=>V.bulks xs + 1
 | .agg xs=>V.bulks xs + 1
 | _=>1
def V.bulks:List V→Nat
 | []=>0
 | x :: xs=>x.bulk + V.bulks xs
end
theorem Zi1:∀ a b:List V,V.bulks (a ++ b)=V.bulks a + V.bulks b
 | [],b=>by rw [List.nil_append,V.bulks,Nat.zero_add]
 | x :: a,b=>by rw [List.cons_append,V.bulks,V.bulks,Zi1 a b,Nat.add_assoc]
theorem Zh6 {v:V}:V.bulks [v]=v.bulk:=by rw [V.bulks,V.bulks,Nat.add_zero]
section
variable {H':Type} {enc:TypeId × Value→H'} {P:Program} {W:World} {ts:List TypeId}
structure BulkOK (B:DataW H'→Nat):Prop where
 str:∀ l,l.length + 1 ≤ B (.lit (.string l))
 lit:∀ l,1 ≤ B (.lit l)
 nil:1 ≤ B .nil
 slice:∀ e s,(e.map B).sum + 1 ≤ B (.slice e s)
 agg:∀ e,(e.map B).sum + 1 ≤ B (.agg e)
theorem bulks_le {α:Type} {g:α→Nat}:∀ {l:List V} {m:List α},l.length=m.length→(∀ (i:Nat) (a:V) (b:α),l[i]?=some a→m[i]?=some b→a.bulk ≤ g b)→V.bulks l ≤ (m.map g).sum
 | [],[],_,_=>Nat.le_refl _
 | [],_ :: _,h,_=>by simp at h
 | _ :: _,[],h,_=>by simp at h
 | x :: l,y :: m,h,hp=>by
  have h1:=hp 0 x y rfl rfl
  have h2:=bulks_le (l:=l) (m:=m) (by simpa using h) (fun i a b ha hb=>hp (i + 1) a b (by simpa using ha) (by simpa using hb))
  rw [V.bulks,List.map_cons,List.sum_cons]; omega
theorem Zir {α:Type} {g:α→Nat}:∀ {l:List (List V)} {m:List α},l.length=m.length→(∀ (i:Nat) (a:List V) (b:α),l[i]?=some a→m[i]?=some b→V.bulks a ≤ g b)→V.bulks l.flatten ≤ (m.map g).sum
 | [],[],_,_=>Nat.le_refl _
 | [],_ :: _,h,_=>by simp at h
 | _ :: _,[],h,_=>by simp at h
 | x :: l,y :: m,h,hp=>by
  have h1:=hp 0 x y rfl rfl
  have h2:=Zir (l:=l) (m:=m) (by simpa using h) (fun i a b ha hb=>hp (i + 1) a b (by simpa using ha) (by simpa using hb))
  rw [List.flatten_cons,Zi1,List.map_cons,List.sum_cons]; omega
theorem trod_VB {B:DataW H'→Nat} (hB:BulkOK B) (hc:Zhh P ts=true):∀ (fuel:Nat) (t:TypeId) (cs:List Value) (x:DataW H' × List MemPlace),ts.contains t=true→DataW.trod enc P W 0 (fun _=>true) true fuel t cs=some x →
  ∃ vs,CRs (k0 W) W vs cs∧Ty P t vs∧vs.length=P.cellsOf t∧V.bulks vs ≤ B x.1∧(aggT P t=some true→V.bulks vs + 1 ≤ B x.1):=by
 intro fuel
 induction fuel with
 | zero=>intro t cs x ht h; simp [DataW.trod] at h
 | succ fuel ih =>
  intro t cs x ht h
  have hk:=Zk1 hc ht
  unfold DataW.trod at h
  simp only at h
  split at h
  ·rename_i hu
   rw [hu] at hk
   cases h
   exact ⟨_,Zkz (.bool _) rfl,.bool hu _,(beq_iff_eq.1 hk).symm,hB.lit _,fun h=>by unfold aggT at h; rw [hu] at h; cases h⟩
  ·rename_i k k' n hu
   rw [hu] at hk
   split at h
   ·rename_i hw
    obtain ⟨rfl,hw⟩:=hw
    cases h
    exact ⟨_,Zkz (.int _ _) rfl,.int hu _ hw,(beq_iff_eq.1 hk).symm,hB.lit _,fun h=>by unfold aggT at h; rw [hu] at h; cases h⟩
   ·simp at h
  ·rename_i hu; rw [hu] at hk; simp at hk
  ·rename_i s hu
   rw [hu] at hk
   split at h
   ·rename_i hs
    cases h
    exact ⟨_,Zkz (.str _) rfl,.str hu _ hs,(beq_iff_eq.1 hk).symm,by rw [Zh6]; exact Nat.le_trans (by rw [V.bulk,Array.length_toList]; exact Nat.le_refl _) (hB.str _),fun h=>by unfold aggT at h; rw [hu] at h; cases h⟩
   ·simp at h
  ·rename_i hu; rw [hu] at hk; simp at hk
  ·rename_i hu; rw [hu] at hk; simp at hk
  ·rename_i e hu
   rw [hu] at hk
   simp only [Bool.and_eq_true,beq_iff_eq,decide_eq_true_eq] at hk
   obtain ⟨ag,ha,_⟩:=Ziq hc hk.1.1
   cases h
   exact ⟨_,Zkz (.vecNil .any rfl) rfl,.slice hu ha [] (by simp) (by simp),hk.2.symm,hB.nil,fun h=>by unfold aggT at h; rw [hu] at h; cases h⟩
  ·rename_i e a len cap hu
   rw [hu] at hk
   simp only [Bool.and_eq_true,beq_iff_eq,decide_eq_true_eq] at hk
   obtain ⟨⟨he,hz⟩,h1⟩:=hk
   obtain ⟨ag,ha,hag⟩:=Ziq hc he
   split at h
   ·rename_i hb
    obtain ⟨_,hlc,hcm⟩:=hb
    rw [Option.bind_eq_some_iff] at h
    obtain ⟨elems,hel,h⟩:=h
    rw [Option.map_eq_some_iff] at h
    obtain ⟨rest,_,rfl⟩:=h
    obtain ⟨g1,g2⟩:=Zih hel
    have hel':∀ i,i < len→∃ vs:List V,vs.length=P.cellsOf e∧Ty P e vs∧(∀ (j:Nat) (v:V),vs[j]?=some v→∃ y,W.cell? (a.add (i * P.cellsOf e + j))=some y∧VR (k0 W) W v y∧y.oneCell'=true)∧∀ y,elems[i]?=some y→(mkEl ag vs).bulk ≤ B y.1:=by
     intro i hi
     obtain ⟨y,hy,hyi⟩:=g2 i hi
     rw [Option.bind_eq_some_iff] at hy
     obtain ⟨row,hrow,hy⟩:=hy
     obtain ⟨vs,r1,r2,r3,r4,r5⟩:=ih _ _ _ he hy
     refine ⟨vs,r3,r2,fun j v hj=>?_,fun y' hy'=>?_⟩
     rotate_left
     ·rw [hyi] at hy'; cases hy'
      cases ag with
      | true=>exact r5 ha
      | false =>
       rw [hag rfl] at r3
       match vs,r3 with
       | [v],_=>rw [Zh6] at r4; exact r4
     obtain ⟨z,q1,q2,q3⟩:=r1.2 j v hj
     unfold World.cells? at hrow
     split at hrow
     ·obtain ⟨l1,l2⟩:=Zih hrow
      have hj':j < P.cellsOf e:=by rw [← r3]; exact (List.getElem?_eq_some_iff.1 hj).1
      obtain ⟨z',m1,m2⟩:=l2 j hj'
      rw [Zd1] at m1
      rw [q1] at m2; cases m2
      exact ⟨z,m1,q2,q3⟩
     ·simp at hrow
    obtain ⟨css,c1,c2⟩:=Ze5 len hel'
    have hmk:∀ (i:Nat) (cs:List V),css[i]?=some cs→(mkEl ag cs).cells=cs:=by
     intro i cs hi
     cases ag with
     | true=>rfl
     | false =>
      obtain ⟨p1,_,p3,_⟩:=c2 i cs hi
      rw [hag rfl] at p1
      match cs,p1 with
      | [v],_ =>
       obtain ⟨y,_,q2,q3⟩:=p3 0 v rfl
       exact vr_not_agg q2 q3
    refine ⟨_,Zkz (x:=.slice (some a) len cap) (.vec (css.map (mkEl ag)) .any a len cap (P.cellsOf e) (fun i j=>(W.cell? (a.add (i * P.cellsOf e + j))).getD undef) rfl (by simp [c1]) hlc (by simp) (fun i el hi=>?_) (fun i el j v hi hj=>?_) (fun i el j v hi hj=>?_)) rfl,
     .slice hu ha css (fun cs hcs=>?_) (by omega),h1.symm,?_,fun h=>by unfold aggT at h; rw [hu] at h; cases h⟩
    ·rw [List.getElem?_map,Option.map_eq_some_iff] at hi
     obtain ⟨cs,hi,rfl⟩:=hi
     rw [hmk i cs hi]
     exact (c2 i cs hi).1
    ·rw [List.getElem?_map,Option.map_eq_some_iff] at hi
     obtain ⟨cs,hi,rfl⟩:=hi
     rw [hmk i cs hi] at hj
     obtain ⟨y,q1,q2,q3⟩:=(c2 i cs hi).2.2.1 j v hj
     rw [q1]
     exact ⟨rfl,by have:=cell_lim q1; rwa [Zbo] at this,q3⟩
    ·rw [List.getElem?_map,Option.map_eq_some_iff] at hi
     obtain ⟨cs,hi,rfl⟩:=hi
     rw [hmk i cs hi] at hj
     obtain ⟨y,q1,q2,q3⟩:=(c2 i cs hi).2.2.1 j v hj
     rw [q1]
     exact q2
    ·obtain ⟨i,hi⟩:=List.mem_iff_getElem?.1 hcs
     exact (c2 i cs hi).2.1
    ·rw [Zh6,V.bulk]
     refine Nat.le_trans ?_ (hB.slice _ _)
     rw [List.map_map]
     refine Nat.add_le_add_right (bulks_le (by simp [c1,g1]) (fun i a y h1 h2=>?_)) 1
     rw [List.getElem?_map,Option.map_eq_some_iff] at h1
     obtain ⟨cs,h1,rfl⟩:=h1
     exact (c2 i cs h1).2.2.2 y h2
   ·simp at h
  ·rename_i cs _ _ fs hu
   rw [hu] at hk
   simp only [Bool.and_eq_true,beq_iff_eq,List.all_eq_true] at hk
   obtain ⟨hk1,hk2⟩:=hk
   split at h
   ·rename_i hl
    rw [Option.map_eq_some_iff] at h
    obtain ⟨xs,hxs,rfl⟩:=h
    obtain ⟨g1,g2⟩:=Zki hxs
    have hel:∀ i,i < fs.size→∃ vs:List V,∀ f,fs[i]?=some f→CRs (k0 W) W vs ((cs.drop f.offset).take (P.cellsOf f.type))∧Ty P f.type vs∧∀ y,xs[i]?=some y→V.bulks vs ≤ B y.1:=by
     intro i hi
     obtain ⟨f,hf⟩:∃ f,fs[i]?=some f:=⟨fs[i],Array.getElem?_eq_getElem hi⟩
     obtain ⟨y,hy,hyi⟩:=g2 i f (by simpa using hf)
     obtain ⟨vs,r1,r2,_,r4,_⟩:=ih _ _ _ (hk1 f (List.mem_of_getElem? (by simpa using hf))) hy
     exact ⟨vs,fun f' hf'=>by rw [hf] at hf'; cases hf'; exact ⟨r1,r2,fun y' hy'=>by rw [hyi] at hy'; cases hy'; exact r4⟩⟩
    obtain ⟨parts,c1,c2⟩:=Ze5 fs.size hel
    have hrows:=(tile_rows hk2 hl).1
    rw [List.drop_zero] at hrows
    have hcr:CRs (k0 W) W parts.flatten cs:=by
     rw [hrows]
     refine Zky (by simp [c1]) (fun i vs xs h1 h2=>?_)
     rw [List.getElem?_map,Option.map_eq_some_iff] at h2
     obtain ⟨f,hf,rfl⟩:=h2
     exact (c2 i vs h1 f (by simpa using hf)).1
    have hbk:V.bulks parts.flatten + 1 ≤ B (.agg (xs.map (·.1))):=by
     refine Nat.le_trans ?_ (hB.agg _)
     rw [List.map_map]
     refine Nat.add_le_add_right (Zir (by rw [c1,g1]; simp) (fun i a y h1 h2=>?_)) 1
     have hi:i < fs.size:=by rw [← c1]; exact (List.getElem?_eq_some_iff.1 h1).1
     exact (c2 i a h1 fs[i] (Array.getElem?_eq_getElem hi)).2.2 y h2
    exact ⟨parts.flatten,hcr,.struct hu parts c1 (fun i f vs hf hi=>(c2 i vs hi f hf).2.1),by rw [← hcr.1,hl],by show _ ≤ B (.agg _); omega,fun _=>hbk⟩
   ·simp at h
  ·rename_i cs _ _ n e hu
   rw [hu] at hk
   simp only [Bool.and_eq_true,beq_iff_eq] at hk
   obtain ⟨hk1,hk2⟩:=hk
   split at h
   ·rename_i hl
    rw [Option.map_eq_some_iff] at h
    obtain ⟨xs,hxs,rfl⟩:=h
    obtain ⟨g1,g2⟩:=Zih hxs
    have hel:∀ i,i < n→∃ vs:List V,CRs (k0 W) W vs ((cs.drop (i * P.cellsOf e)).take (P.cellsOf e))∧Ty P e vs∧∀ y,xs[i]?=some y→V.bulks vs ≤ B y.1:=by
     intro i hi
     obtain ⟨y,hy,hyi⟩:=g2 i hi
     obtain ⟨vs,r1,r2,_,r4,_⟩:=ih _ _ _ hk1 hy
     exact ⟨vs,r1,r2,fun y' hy'=>by rw [hyi] at hy'; cases hy'; exact r4⟩
    obtain ⟨parts,c1,c2⟩:=Ze5 n hel
    have hrows:=chop_rows (n:=n) (z:=P.cellsOf e) (cs:=cs) (by omega)
    have hcr:CRs (k0 W) W parts.flatten cs:=by
     rw [hrows]
     refine Zky (by simp [c1]) (fun i vs xs h1 h2=>?_)
     rw [List.getElem?_map,Option.map_eq_some_iff] at h2
     obtain ⟨f,hf,rfl⟩:=h2
     obtain ⟨hf1,hf2⟩:=List.getElem?_eq_some_iff.1 hf
     simp at hf2; subst hf2
     exact (c2 i vs h1).1
    have hbk:V.bulks parts.flatten + 1 ≤ B (.agg (xs.map (·.1))):=by
     refine Nat.le_trans ?_ (hB.agg _)
     rw [List.map_map]
     exact Nat.add_le_add_right (Zir (by rw [c1,g1]) (fun i a y h1 h2=>(c2 i a h1).2.2 y h2)) 1
    refine ⟨parts.flatten,hcr,.array hu parts c1 (fun vs hvs=>?_),by rw [← hcr.1,hl],by show _ ≤ B (.agg _); omega,fun _=>hbk⟩
    obtain ⟨i,hi⟩:=List.mem_iff_getElem?.1 hvs
    exact (c2 i vs hi).2.1
   ·simp at h
  all_goals first
   | (simp at h; done)
   | (rename_i hu; rw [hu] at hk; simp at hk; done)
   | (rename_i hu _; rw [hu] at hk; simp at hk; done)
   | (rename_i hu _ _; rw [hu] at hk; simp at hk; done)
   | skip
theorem arg_VB {B:DataW H'→Nat} (hB:BulkOK B) (hc:Zhh P ts=true) {t:TypeId} (ht:ts.contains t=true) {b0:Nat} {v:Value} {d:DataW H'} {ps:List MemPlace} (hd:DataW.Trod enc P W 0 (fun _=>true) true t v d ps)
  (hok:Value.okWide P W .any b0 t v):∃ u,VR (k0 W) W u v∧TyArg P t u∧u.bulk ≤ B d:=by
 obtain ⟨fuel,hd⟩:=hd
 obtain ⟨cs,h1,h2,h3,h4,h5⟩:=trod_VB hB hc fuel t _ _ ht hd
 obtain ⟨ag,ha,hag⟩:=Ziq hc ht
 refine ⟨mkEl ag cs,?_,⟨ag,cs,ha,rfl,h2⟩,?_⟩
 rotate_left
 ·cases ag with
  | true=>exact h5 ha
  | false =>
   rw [hag rfl] at h3
   match cs,h3 with
   | [v],_=>rw [Zh6] at h4; exact h4
 cases ag with
 | true =>
  have hv:∃ arr,v=.agg arr:=by
   unfold aggT at ha
   unfold Value.okWide at hok
   split at ha <;> rename_i hu
   ·rw [hu] at hok; obtain ⟨arr,h,_⟩:=hok; exact ⟨arr,h⟩
   ·rw [hu] at hok; obtain ⟨arr,h,_⟩:=hok; exact ⟨arr,h⟩
   ·cases ha
   ·cases ha
  obtain ⟨arr,rfl⟩:=hv
  have h1':CRs (k0 W) W cs arr.toList:=h1
  refine .agg cs arr (fun j=>arr.toList[j]?.getD undef) (by simpa using h1'.1) (fun j u hj=>?_) (fun j u hj=>?_)
  ·obtain ⟨x,p,q,r⟩:=h1'.2 j u hj
   rw [p]; exact ⟨by simpa using p,r⟩
  ·obtain ⟨x,p,q,r⟩:=h1'.2 j u hj
   rw [p]; exact q
 | false =>
  rw [hag rfl] at h3
  match cs,h3 with
  | [u],_ =>
   obtain ⟨x,p,q,r⟩:=h1.2 0 u rfl
   have hlen:v.cells.toList.length=1:=h1.1
   have hv:v.cells=#[v]:=by
    cases v with
    | agg arr =>
     exfalso
     have hcl:=Zk1 hc ht
     have hu0:∀ fs,P.underlying t ≠ some (.struct fs):=fun fs hu=>by unfold aggT at ha; rw [hu] at ha; cases ha
     have hu1:∀ n e,P.underlying t ≠ some (.array n e):=fun n e hu=>by unfold aggT at ha; rw [hu] at ha; cases ha
     unfold Value.okWide at hok
     split at hok
     ·rename_i hu; exact hu0 _ hu
     ·rename_i hu; exact hu1 _ _ hu
     ·unfold Cell.okWide at hok
      split at hcl <;> rename_i hu
      ·rw [hu] at hok; simp [Cell.ok,hu] at hok
      ·rw [hu] at hok; simp [Cell.ok,hu] at hok
      ·rw [hu] at hok; simp [Cell.ok,hu] at hok
      ·rw [hu] at hok; simp [Cell.ok,hu] at hok
      ·exact hu0 _ hu
      ·exact hu1 _ _ hu
      ·cases hcl
    | _=>rfl
   rw [hv] at p
   simp at p
   subst p
   exact q
theorem args_VB {B:DataW H'→Nat} (hB:BulkOK B) (hc:Zhh P ts=true) {b0:Nat}:∀ {tys:List TypeId} {vs:List Value} {ds:List (DataW H')} {ps:List MemPlace},(∀ t ∈ tys,ts.contains t=true)→DataW.TrodAll enc P W 0 (fun _=>true) true tys vs ds ps →
  (∀ (j:Nat) t v,tys[j]?=some t→vs[j]?=some v→Value.okWide P W .any b0 t v)→∃ us,us.length=vs.length∧(∀ (j:Nat) (u:V),us[j]?=some u→∃ x,vs[j]?=some x∧VR (k0 W) W u x)∧Zmo P tys us∧V.bulks us ≤ (ds.map B).sum
 | [],[],[],ps,_,_,_=>⟨[],rfl,fun j u h=>by simp at h,rfl,Nat.le_refl _⟩
 | [],_ :: _,_,_,_,h,_=>h.elim
 | [],[],_ :: _,_,_,h,_=>h.elim
 | _ :: _,[],_,_,_,h,_=>h.elim
 | _ :: _,_ :: _,[],_,_,h,_=>h.elim
 | t :: tys,v :: vs,d :: ds,ps,ht,h,hok=>by
  obtain ⟨p,q,h1,h2,_⟩:=h
  obtain ⟨u,g1,g2,g6⟩:=arg_VB hB hc (ht t (by simp)) h1 (hok 0 t v rfl rfl)
  obtain ⟨us,g3,g4,g5,g7⟩:=args_VB hB hc (fun t h=>ht t (by simp [h])) h2 (fun j t v h1 h2=>hok (j + 1) t v (by simpa using h1) (by simpa using h2))
  refine ⟨u :: us,by simp [g3],fun j w hj=>?_,⟨u,us,rfl,g2,g5⟩,by rw [V.bulks,List.map_cons,List.sum_cons]; omega⟩
  cases j with
  | zero=>simp at hj; subst hj; exact ⟨v,rfl,g1⟩
  | succ j=>simpa using g4 j w (by simpa using hj)
end
end Go.Ab
namespace Go.Ab
theorem Zch {α:Type} {f:α→V} {g:α→Nat} {c:Nat}:∀ {l:List α},(∀ x ∈ l,g x ≤ c * (f x).bulk)→sumL g l ≤ c * V.bulks (l.map f)
 | [],_=>Nat.zero_le _
 | x :: l,h=>by
  have h1:=h x (by simp)
  have h2:=Zch (l:=l) (fun y hy=>h y (by simp [hy]))
  rw [sumL,List.map_cons,V.bulks,Nat.mul_add]; omega
theorem exp_bulk {k o:Int} {n:Nat} {s:ByteArray} {ks:List Exp}:(Exp.mk k o n s ks).v.bulk=6 + s.size + V.bulks (ks.map Exp.v):=by
 rw [Exp.v_mk]; simp only [V.bulk,V.bulks]; omega
theorem stm_bulk {k:Int} {s:ByteArray} {e:List Exp} {a b:List Stm}:(Stm.mk k s e a b).v.bulk=6 + s.size + V.bulks (e.map Exp.v) + V.bulks (a.map Stm.v) + V.bulks (b.map Stm.v):=by
 rw [Stm.v_mk]; simp only [V.bulk,V.bulks]; omega
theorem prg_bulk {p:Prg}:p.v.bulk=4 + V.bulks (p.ins.map InD.v) + V.bulks (p.arrays.map ArD.v) + V.bulks (p.body.map Stm.v):=by
 simp only [Prg.v,Prg.cells,V.bulk,V.bulks]; omega
theorem nth_sum:∀ {l:List (Int × Nat)},(nth l 0).2 + (nth l 1).2 + (nth l 2).2 ≤ sumL (fun x=>x.2) l
 | []=>Nat.le_refl _
 | [a]=>by simp [nth,sumL]
 | [a,b]=>by simp [nth,sumL]
 | a :: b :: c :: r=>by simp [nth,sumL] <;> omega
theorem at0_sum:∀ {l:List Nat},at0 l 0 + at0 l 1 ≤ sumL (fun x=>x) l
 | []=>Nat.le_refl _
 | [a]=>by simp [at0,sumL]
 | a :: b :: r=>by simp [at0,sumL] <;> omega
theorem sumL_map {α β:Type} {f:α→β} {g:β→Nat}:∀ {l:List α},sumL g (l.map f)=sumL (fun x=>g (f x)) l
 | []=>rfl
 | x :: l=>by rw [List.map_cons,sumL,sumL,sumL_map]
theorem held_le {x:Int × Nat} {m:Int}:held x m ≤ x.2 + 2:=by unfold held; split <;> omega
theorem tlen_bulk (e:Exp):EOk e→tlen e ≤ 4 * e.v.bulk:=by
 induction e using Exp.ind with
 | h k o n s ks ih =>
  intro ok
  obtain ⟨_,_,hn,_,_,hks⟩:=Zi2 ok
  have h1:sumL tlen ks ≤ 4 * V.bulks (ks.map Exp.v):=Zch fun x hx=>ih x hx (hks x hx)
  have h2:=nth_sum (l:=ks.map tl)
  rw [sumL_map] at h2
  have h3:sumL (fun x=>(tl x).2) ks=sumL tlen ks:=rfl
  have d:=Zc8 hn
  have a1:=held_le (x:=nth (ks.map tl) 0) (m:=8)
  have a2:=held_le (x:=nth (ks.map tl) 0) (m:=2)
  have a3:=held_le (x:=nth (ks.map tl) 0) (m:=Zce k o)
  have a4:=held_le (x:=nth (ks.map tl) 1) (m:=Zce k o + 1)
  rw [tlen_mk,exp_bulk]
  unfold Zdr
  repeat' split
  all_goals omega
theorem llen_bulk (x:Stm):∀ lv ind,VS x lv→SOk x→ind ≤ 2 * lv→llen x ind ≤ 40 * x.v.bulk:=by
 induction x using Stm.ind with
 | h k s e a b iha ihb =>
  intro lv ind hv ok hi
  obtain ⟨v1,v2,v3,v4,v5,v6,v7,v8,v9,v10,v11⟩:=VS_mk.1 hv
  obtain ⟨_,hs,_,hla,hlb,oke,oka,okb⟩:=Zfc ok
  have g:∀ (l:List Stm),Zbg l (ind + 2)=sumL (fun x=>llen x (ind + 2)) l:=fun l=>by
   induction l with
   | nil=>rfl
   | cons x l ih=>rw [Zbg,sumL,ih]
  have h1:Zbg a (ind + 2) ≤ 40 * V.bulks (a.map Stm.v):=by
   rw [g]
   exact Zch fun x hx=>iha x hx (lv + 1) (ind + 2) (VSs_all.1 v10 x hx) (oka x hx) (by omega)
  have h2:Zbg b (ind + 2) ≤ 40 * V.bulks (b.map Stm.v):=by
   rw [g]
   exact Zch fun x hx=>ihb x hx (lv + 1) (ind + 2) (VSs_all.1 v11 x hx) (okb x hx) (by omega)
  have h3:sumL tlen e ≤ 4 * V.bulks (e.map Exp.v):=Zch fun x hx=>tlen_bulk x (oke x hx)
  have h4:=at0_sum (l:=e.map tlen)
  rw [sumL_map] at h4
  have h5:sumL (fun x=>tlen x) e=sumL tlen e:=rfl
  have e:llen (.mk k s e a b) ind=Zdu k s (e.map tlen) (Zbg a (ind + 2)) (Zbg b (ind + 2)) b.length ind:=by rw [llen]
  rw [e,stm_bulk]
  unfold Zdu
  repeat' split
  all_goals omega
theorem flen_bulk {p:Prg} (ok:POk p) (hv:VSs p.body 1):flen p ≤ 40 * p.v.bulk:=by
 have h1:sumL ilen p.ins ≤ 40 * V.bulks (p.ins.map InD.v):=Zch fun x hx=>by
  obtain ⟨s,f,w,z⟩:=x
  have hx:=ok.ins _ hx
  have g:∀ {n:Int},I64 n→dlen n.toNat ≤ 20:=fun h=>Zc8 (by have:=h.2; omega)
  have a1:=g hx.f
  have a2:=g hx.w
  have a3:=g hx.s
  simp only at a1 a2 a3
  have hb:(InD.v ⟨s,f,w,z⟩).bulk=5 + s.size:=by simp only [InD.v,InD.cells,V.bulk,V.bulks]; omega
  rw [hb]
  unfold ilen
  simp only
  split <;> omega
 have h2:sumL alen p.arrays ≤ 40 * V.bulks (p.arrays.map ArD.v):=Zch fun x hx=>by
  obtain ⟨s,z⟩:=x
  have hx:=ok.arrays _ hx
  have g:∀ {n:Int},I64 n→dlen n.toNat ≤ 20:=fun h=>Zc8 (by have:=h.2; omega)
  have a3:=g hx.s
  simp only at a3
  have hb:(ArD.v ⟨s,z⟩).bulk=3 + s.size:=by simp only [ArD.v,ArD.cells,V.bulk,V.bulks]; omega
  rw [hb]
  unfold alen
  simp only
  omega
 have h3:Zbg p.body 0 ≤ 40 * V.bulks (p.body.map Stm.v):=by
  have g:∀ (l:List Stm),Zbg l 0=sumL (fun x=>llen x 0) l:=fun l=>by
   induction l with
   | nil=>rfl
   | cons x l ih=>rw [Zbg,sumL,ih]
  rw [g]
  exact Zch fun x hx=>llen_bulk x 1 0 (VSs_all.1 hv x hx) (ok.body x hx) (by omega)
 rw [prg_bulk]
 unfold flen
 omega
end Go.Ab
namespace Go.Ab
def errT (r:TR TS):Int:=match r with | .ok _=>0 | .error e=>e
def mostT (r:TR TS):Nat:=match r with | .ok σ=>σ.most | .error _=>0
structure VT (p:Prg):Prop where
 ok:POk p
 body:VSs p.body 1
 ins:∀ d ∈ p.ins,VIn d
 ars:∀ d ∈ p.arrays,VAr d
theorem VP.vt {p:Prg} (h:VP p) (ok:POk p):VT p:=⟨ok,h.body,h.ins,h.arrays⟩
structure UpH (h h':H):Prop where
 nx:h.next ≤ h'.next
 old:∀ j,j < h.next→h'.objs j=h.objs j
theorem UpH.refl (h:H):UpH h h:=⟨Nat.le_refl _,fun _ _=>rfl⟩
theorem UpH.trans {h h' h'':H} (a:UpH h h') (b:UpH h' h''):UpH h h'':=⟨Nat.le_trans a.nx b.nx,fun j hj=>by rw [b.old j (Nat.lt_of_lt_of_le hj a.nx),a.old j hj]⟩
namespace YtljoifdccjcidaaDoor
section
variable {h:H} {K:Out→H→Prop} {p:Nat}
theorem gone2 {p:Prg} (v:VT p) (hK:∀ h',UpH h h'→K (.ret (.tuple [I (mostT (Zbk p)),I (errT (Zbk p))])) h'):R 37 [p.v] h K:=by
 refine goneG v.ok v.body v.ins v.ars ?_
 cases hc:Zbk p with
 | ok σ=>rw [hc] at hK; exact fun h' a b=>hK h' ⟨a,b⟩
 | error e=>rw [hc] at hK; exact fun h' a b=>hK h' ⟨a,b⟩
theorem checkG {p:Prg} (v:VT p) (hK:∀ h',UpH h h'→K (.ret (I (errT (Zbk p)))) h'):R 35 [p.v] h K:=by
 refine run35 (Nat.le_of_ble_eq_true rfl) ?_
 have hv0:p.v=V.agg [.vec (p.ins.map InD.v) .any,.vec (p.arrays.map ArD.v) .any,.vec (p.body.map Stm.v) .any]:=rfl
 simp -dsimp -implicitDefEqProofs only [↓STP,STQ,seval,ir35,hv0]
 rw [← hv0]
 refine gone2 v fun h' u=>?_
 simp -dsimp -implicitDefEqProofs only [↓STP,STQ,seval]
 exact hK h' u
end
end YtljoifdccjcidaaDoor
end Go.Ab
namespace Go.Ab
theorem Zjn {p:Prg} (hin:∀ d ∈ p.ins,VIn d) (har:∀ d ∈ p.arrays,VAr d):TOk p (Ze1 p):=by
 refine ⟨⟨(fun s k w h=>by cases h),(fun s n h=>by cases h),by simp [Ze1],fun i l d hl hd=>?_⟩,Nat.zero_le _,by have:=maxI_le hin; show maxI p.ins ≤ 60; omega⟩
 have hl:(p.arrays.map fun d=>List.replicate d.size.toNat 1)[i]?=some l:=hl
 rw [List.getElem?_map,hd] at hl
 cases hl
 have:=(har d (List.mem_of_getElem? hd)).s1
 refine ⟨by rw [List.length_replicate]; omega,fun w hw=>?_⟩
 have:=(List.mem_replicate.1 hw).2
 omega
theorem PV_of {p:Prg} (v:VT p) (h:Zfg p=true):PV p:=
 ⟨fun d hd=>⟨(v.ins d hd).w1,(v.ins d hd).w2,(v.ins d hd).s1,(v.ins d hd).s2⟩,fun d hd=>⟨(v.ars d hd).s1,(v.ars d hd).s2⟩,of_decide_eq_true h⟩
theorem Zk3 {p:Prg} {σ:TS} (h:Zbk p=.ok σ):Zfg p=true∧Zaj p p.body (Ze1 p)=.ok σ:=by
 unfold Zbk at h
 split at h
 ·rename_i hu; exact ⟨hu,h⟩
 ·cases h
theorem errT_ok {r:TR TS} (h:errT r=0) (hne:∀ e,r=.error e→e ≠ 0):∃ σ,r=.ok σ:=by
 cases r with
 | ok σ=>exact ⟨σ,rfl⟩
 | error e=>exact absurd h (hne e rfl)
def Nz {α:Type} (r:TR α):Prop:=∀ e,r=.error e→e ≠ 0
theorem Nz.ok {α:Type} {a:α}:Nz (.ok a:TR α):=fun e h=>by cases h
theorem Nz.err {α:Type} {e:Int} (h:e ≠ 0):Nz (.error e:TR α):=fun e' h'=>by cases h'; exact h
theorem Nz.and {α β:Type} {r:TR α} {f:α→TR β} (h:Nz r) (hf:∀ a,Nz (f a)):Nz (andT r f):=by
 cases r with
 | ok a=>exact hf a
 | error e=>exact fun e' h'=>h e' (by cases h'; rfl)
theorem Nz.ite {α:Type} {c:Prop} [Decidable c] {a b:TR α} (ha:Nz a) (hb:Nz b):Nz (if c then a else b):=by
 split
 ·exact ha
 ·exact hb
theorem Zhr {k:Kn} {z:Int}:Nz (Zb6 k z):=.ite (.err (by decide)) (.ite (.err (by decide)) .ok)
theorem madeT_nz {p:Prg} {σ:TE} {k o:Int} {n:Nat} {s:ByteArray} {l:List Kn}:Nz (Zgt p σ k o n s l):=by
 unfold Zgt
 refine .ite .ok (.ite ?_ (.ite ?_ (.ite ?_ (.ite (.ite (.err (by decide)) .ok) (.ite (.err (by decide)) .ok)))))
 ·unfold Zkh
  split
  ·exact .ok
  ·split
   ·exact .ok
   ·split
    ·exact .ite .ok (.err (by decide))
    ·exact .err (by decide)
 ·unfold Zeh
  split
  ·exact .and Zhr fun _=>.ok
  ·split
   ·exact .ite (.err (by decide)) (.and Zhr fun _=>.ok)
   ·exact .err (by decide)
 ·unfold opK
  exact .ite (.err (by decide)) (.ite .ok (.ite .ok (.ite .ok .ok)))
theorem toldT_nz {m:Nat} {k:Kn}:Nz (Zgr m k):=.ite (.ite (.err (by decide)) .ok) .ok
theorem Zdy {p:Prg} {σ:TE}:∀ {l:List Exp},(∀ x ∈ l,Nz (Zcj p σ x))→Nz (Za4 p σ l)
 | [],_=>by rw [Za4]; exact .ok
 | x :: xs,h=>by
  rw [Za4]
  exact .and (h x (by simp)) fun _=>.and (Zdy fun y hy=>h y (by simp [hy])) fun _=>.ok
theorem Zjl {p:Prg} {σ:TE} (e:Exp):Nz (Zcj p σ e):=by
 induction e using Exp.ind with
 | h k o n s ks ih =>
  rw [Zcj]
  exact .and (Zdy ih) fun _=>.and madeT_nz fun _=>toldT_nz
theorem Zjb {σ:TS}:Nz (Zg7 σ):=.ite (.err (by decide)) .ok
theorem iterT_nz {f:Nat→TS→TR TS} (h:∀ n σ,Nz (f n σ)):∀ c n σ,Nz (Zcw f c n σ)
 | 0,n,σ=>by rw [Zcw]; exact .ok
 | c + 1,n,σ=>by rw [Zcw]; exact .and (h n σ) fun _=>iterT_nz h c (n + 1) _
theorem stmt1_nz {p:Prg} {k:Int} {s:ByteArray} {l:List Kn} {fa fb:TS→TR TS} (ha:∀ σ,Nz (fa σ)) (hb:∀ σ,Nz (fb σ)) {σ:TS}:Nz (Zfe p k s l fa fb σ):=by
 unfold Zfe
 refine .ite ?_ (.ite ?_ (.ite ?_ (.ite ?_ (.ite (.err (by decide)) .ok))))
 ·exact .ite (.err (by decide)) .ok
 ·unfold Zhm
  split
  ·exact .err (by decide)
  ·exact .and Zhr fun _=>.ite (.err (by decide)) .ok
 ·exact .ite (.err (by decide)) (.and (ha _) fun _=>.and (hb _) fun _=>.ok)
 ·exact .ite (.err (by decide)) (.ite (.err (by decide)) (iterT_nz (fun n τ=>.and Zjb fun _=>.and (ha _) fun _=>.ok) _ _ _))
theorem Zdt {p:Prg}:∀ {l:List Stm},(∀ x ∈ l,∀ σ,Nz (Zc4 p x σ))→∀ σ,Nz (Zaj p l σ)
 | [],_=>fun σ=>by rw [Zaj]; exact .ok
 | x :: xs,h=>fun σ=>by
  rw [Zaj]
  exact .and (h x (by simp) σ) fun _=>Zdt (fun y hy=>h y (by simp [hy])) _
theorem stmtT_nz {p:Prg} (x:Stm):∀ σ,Nz (Zc4 p x σ):=by
 induction x using Stm.ind with
 | h k s e a b iha ihb =>
  intro σ
  rw [Zc4]
  exact .and Zjb fun _=>.and (Zdy fun x _=>Zjl x) fun _=>stmt1_nz (Zdt iha) (Zdt ihb)
theorem Zfy {p:Prg}:Nz (Zbk p):=.ite (Zdt (fun x _=>stmtT_nz x) _) (.err (by decide))
theorem Zjo {x y:List Nat} (h:x.length=y.length) (n:Nat):(List.zipWith max x y).getD n 0=max (x.getD n 0) (y.getD n 0):=by
 rw [List.getD_eq_getElem?_getD,List.getElem?_zipWith,List.getD_eq_getElem?_getD,List.getD_eq_getElem?_getD]
 rcases Nat.lt_or_ge n x.length with q | q
 ·rw [List.getElem?_eq_getElem q,List.getElem?_eq_getElem (by omega)]; rfl
 ·rw [List.getElem?_eq_none q,List.getElem?_eq_none (by omega)]; rfl
theorem both_some {ahead a b:ByteArray→Option (Int × Nat)} {s:ByteArray} {k:Int} {w:Nat} (h:Zdn ahead a b s=some (k,w)):(∃ u,ahead s=some u)∧∃ w1 w2,a s=some (k,w1)∧b s=some (k,w2)∧w=max w1 w2:=by
 unfold Zdn at h
 cases c:ahead s with
 | none=>rw [c] at h; cases h
 | some u =>
  rw [c] at h
  refine ⟨⟨u,rfl⟩,?_⟩
  have h:Zlk (a s) (b s)=some (k,w):=h
  cases ca:a s with
  | none=>rw [ca] at h; cases h
  | some x =>
   obtain ⟨k1,w1⟩:=x
   cases cb:b s with
   | none=>rw [ca,cb] at h; cases h
   | some y =>
    obtain ⟨k2,w2⟩:=y
    rw [ca,cb] at h
    have h:(if k1=k2 then some (k1,max w1 w2) else none)=some (k,w):=h
    split at h
    ·rename_i hk; cases h
     exact ⟨w1,w2,rfl,by rw [hk],rfl⟩
    ·cases h
theorem Zj3 {p:Prg} {x:Stm} {σ:TS}:Zaj p [x] σ=Zc4 p x σ:=by
 rw [Zaj]
 cases Zc4 p x σ with
 | error e=>rfl
 | ok τ=>rw [Zat,Zaj]
end Go.Ab
namespace Go.Ab
structure RS where
 vars:ByteArray→Option Nat
 inw:ByteArray→List Nat
 words:List (List Nat)
 told:List Nat
def Zc5 (c:Prop) [Decidable c]:Nat:=if c then 1 else 0
theorem Zjf (c:Prop) [Decidable c]:Zc5 c ≤ 1:=by unfold Zc5; split <;> decide
def opX (o:Int) (a b:Nat):Nat:=
 if o=1 then a + b else if o=2 then a - b else if o=3 then a * b else if o=4 then Zc5 (a < b) else if o=5 then Zc5 (a=b)
 else if o=6 then Zc5 (a=1∧b=1) else Zc5 (a=1∨b=1)
def rdX (p:Prg) (s:RS) (x:ByteArray) (i:Nat):Nat:=match arOf p x with
 | some j=>(s.words.getD j []).getD i 0
 | none=>(s.inw x).getD i 0
def valOf (p:Prg) (s:RS) (k o:Int) (n:Nat) (x:ByteArray) (l:List Nat):Nat:=
 if k=1 then n else if k=2 then (s.vars x).getD 0 else if k=3 then rdX p s x (l.getD 0 0) else if k=4 then opX o (l.getD 0 0) (l.getD 1 0)
 else if k=5 then 1 - l.getD 0 0 else if l.getD 0 0=1 then l.getD 1 0 else l.getD 2 0
mutual
def valX (p:Prg) (s:RS):Exp→Nat
 | .mk k o n x ks=>valOf p s k o n x (valsX p s ks)
def valsX (p:Prg) (s:RS):List Exp→List Nat
 | []=>[]
 | e :: es=>valX p s e :: valsX p s es
end
theorem Zjx {p:Prg} {s:RS}:∀ l:List Exp,valsX p s l=l.map (valX p s)
 | []=>by rw [valsX]; rfl
 | e :: es=>by rw [valsX,Zjx es]; rfl
theorem Zh8 {p:Prg} {s:RS} {k o:Int} {n:Nat} {x:ByteArray} {ks:List Exp}:valX p s (.mk k o n x ks)=valOf p s k o n x (ks.map (valX p s)):=by rw [valX,Zjx]
def setM (f:ByteArray→Option Nat) (x:ByteArray) (v:Option Nat):ByteArray→Option Nat:=fun t=>if t=x then v else f t
def Zij (f:Nat→RS→RS):Nat→Nat→RS→RS
 | 0,_,s=>s
 | c + 1,n,s=>Zij f c (n + 1) (f n s)
def forX (x:ByteArray) (a b:Nat) (fa:RS→RS) (s:RS):RS:=
 let t:=Zij (fun n s=>fa { s with vars:=setM s.vars x (some n) }) (b + 1 - a) a { s with vars:=setM s.vars x none }
 { t with vars:=setM t.vars x none }
def run1 (p:Prg) (k:Int) (x:ByteArray) (l:List Nat) (fa fb:RS→RS) (s:RS):RS:=
 if k=1 then { s with vars:=setM s.vars x (some (l.getD 0 0)) }
 else if k=2 then (match arOf p x with | some j=>{ s with words:=setW s.words j (l.getD 0 0) (l.getD 1 0) } | none=>s)
 else if k=3 then (if l.getD 0 0=1 then fa s else fb s)
 else if k=4 then forX x (l.getD 0 0) (l.getD 1 0) fa s
 else { s with told:=s.told ++ [l.getD 0 0] }
mutual
def runX (p:Prg):Stm→RS→RS
 | .mk k x e a b,s=>run1 p k x (valsX p s e) (Za9 p a) (Za9 p b) s
def Za9 (p:Prg):List Stm→RS→RS
 | [],s=>s
 | y :: ys,s=>Za9 p ys (runX p y s)
end
theorem runX_mk {p:Prg} {k:Int} {x:ByteArray} {e:List Exp} {a b:List Stm} {s:RS}:runX p (.mk k x e a b) s=run1 p k x (e.map (valX p s)) (Za9 p a) (Za9 p b) s:=by rw [runX,Zjx]
theorem Ziv {p:Prg}:∀ {a b:List Stm} {s:RS},Za9 p (a ++ b) s=Za9 p b (Za9 p a s)
 | [],b,s=>by rw [List.nil_append,Za9]
 | y :: ys,b,s=>by rw [List.cons_append,Za9,Za9,Ziv]
theorem Zlt {p:Prg} {l:List Stm} {j:Nat} (hj:j < l.length) {s:RS}:Za9 p (l.take (j + 1)) s=runX p l[j] (Za9 p (l.take j) s):=by
 rw [List.take_add_one,List.getElem?_eq_getElem hj,Option.toList_some,Ziv,Za9,Za9]
structure VFit (k:Kn) (v:Nat):Prop where
 num:k.kind=1→v < 2 ^ k.w
 boo:k.kind=2→v ≤ 1
 is:k.is=true→v=k.val
structure AgE (p:Prg) (σ:TE) (s:RS):Prop where
 vars:∀ x k w,σ.vars x=some (k,w)→∃ v,s.vars x=some v∧(k=1→v < 2 ^ w)∧(k=2→v ≤ 1)
 loops:∀ x n,Zaf x σ.loops=some n→s.vars x=some n∧σ.vars x=none
 ins:∀ x d,inOf p x=some d→d.size=0→∃ v,s.vars x=some v∧v < 2 ^ d.width.toNat
 inw:∀ x d,inOf p x=some d→d.size ≠ 0→((s.inw x).length:Int)=d.size∧∀ n,(s.inw x).getD n 0 < 2 ^ d.width.toNat
 wl:s.words.length=σ.words.length
 words:∀ (i:Nat) (l l':List Nat),σ.words[i]?=some l→s.words[i]?=some l'→l'.length=l.length∧∀ n,l'.getD n 0 < 2 ^ l.getD n 0
structure Ag (p:Prg) (σ:TS) (s:RS):Prop where
 env:AgE p σ.env s
 told:∀ v ∈ s.told,v < 2 ^ max σ.most 1
 few:s.told.length ≤ σ.steps
theorem Ag.mono {p:Prg} {σ σ':TS} {s:RS} (a:Ag p σ s) (he:σ'.env=σ.env) (hs:σ.steps ≤ σ'.steps) (hm:σ.most ≤ σ'.most):Ag p σ' s:=
 ⟨by rw [he]; exact a.env,fun v hv=>Nat.lt_of_lt_of_le (a.told v hv) (Nat.pow_le_pow_right (by decide) (by omega)),Nat.le_trans a.few hs⟩
inductive VFits:List Nat→List Kn→Prop
 | nil:VFits [] []
 | cons {v:Nat} {k:Kn} {l:List Nat} {ks:List Kn}:VFit k v→VFits l ks→VFits (v :: l) (k :: ks)
theorem VFits.nth:∀ {l:List Nat} {ks:List Kn},VFits l ks→∀ i,VFit (nthK ks i) (l.getD i 0)
 | _,_,.nil,i=>⟨fun h=>absurd (show (2:Int)=1 from h) (by decide),fun _=>Nat.zero_le _,fun h=>absurd (show false=true from h) (by decide)⟩
 | _,_,.cons a b,0=>a
 | _,_,.cons a b,i + 1=>b.nth i
theorem VFits.of {p:Prg} {σ:TE} {s:RS}:∀ {l:List Exp},(∀ x ∈ l,∀ r m,Zcj p σ x=.ok (r,m)→VFit r (valX p s x))→∀ ks m,Za4 p σ l=.ok (ks,m)→VFits (l.map (valX p s)) ks
 | [],_,ks,m,h=>by rw [Za4] at h; cases h; exact .nil
 | e :: es,ih,ks,m,h=>by
  rw [Za4] at h
  obtain ⟨⟨a,ma⟩,h1,h⟩:=Zao h
  obtain ⟨⟨b,mb⟩,h2,h⟩:=Zao h
  cases h
  exact .cons (ih e (by simp) a ma h1) (VFits.of (fun x hx=>ih x (by simp [hx])) b mb h2)
theorem fit_con {n:Nat}:VFit (kcon n) n:=⟨fun _=>lt_wid n,fun h=>absurd (show (1:Int)=2 from h) (by decide),fun _=>rfl⟩
theorem fit_num {n w:Nat} (h:n < 2 ^ w):VFit (knum w) n:=⟨fun _=>h,fun h=>absurd (show (1:Int)=2 from h) (by decide),fun h=>absurd (show false=true from h) (by decide)⟩
theorem Zko {n:Nat} (h:n ≤ 1):VFit kboo n:=⟨fun h=>absurd (show (2:Int)=1 from h) (by decide),fun _=>h,fun h=>absurd (show false=true from h) (by decide)⟩
theorem Zic {k:Kn} {z:Int} {n:Nat} (h:Zb6 k z=.ok n):k.kind=1∧k.is=true∧n=k.val∧(n:Int) < z:=by
 unfold Zb6 at h
 split at h
 ·cases h
 ·rename_i hc
  split at h
  ·cases h
  ·rename_i hz
   cases h
   have h1:k.kind=1:=Decidable.byContradiction fun q=>hc (.inl q)
   have h2:k.is=true:=by
    cases q:k.is with
    | true=>rfl
    | false=>exact absurd (.inr q) hc
   exact ⟨h1,h2,rfl,by omega⟩
theorem opK_fit {o:Int} {a b r:Kn} {x y:Nat} (ha:VFit a x) (hb:VFit b y) (h:opK o a b=.ok r):VFit r (opX o x y):=by
 unfold opK at h
 split at h
 ·cases h
 rename_i hk
 unfold opX
 have ka:a.kind=Zbt o:=Decidable.byContradiction fun q=>hk (.inl q)
 have kb:b.kind=Zbt o:=Decidable.byContradiction fun q=>hk (.inr q)
 have both:∀ {u v w:Nat},(a.is=true→b.is=true→u=v)→(a.is && b.is)=true→u=(if (a.is && b.is)=true then v else w):=fun {u v w} h1 h2=>by
  rw [if_pos h2]
  rw [Bool.and_eq_true] at h2
  exact h1 h2.1 h2.2
 split at h
 ·rename_i o1
  subst o1
  cases h
  have x1:=ha.num ka
  have y1:=hb.num kb
  refine ⟨fun _=>?_,fun h=>absurd (show (1:Int)=2 from h) (by decide),fun h=>both (fun h1 h2=>by rw [if_pos rfl,ha.is h1,hb.is h2]) h⟩
  rw [if_pos rfl]
  have e1:2 ^ a.w ≤ 2 ^ max a.w b.w:=Nat.pow_le_pow_right (by decide) (by omega)
  have e2:2 ^ b.w ≤ 2 ^ max a.w b.w:=Nat.pow_le_pow_right (by decide) (by omega)
  show x + y < 2 ^ (max a.w b.w + 1)
  rw [Nat.pow_succ]
  omega
 rename_i o1
 rw [if_neg o1]
 split at h
 ·rename_i o2
  subst o2
  cases h
  have x1:=ha.num ka
  refine ⟨fun _=>?_,fun h=>absurd (show (1:Int)=2 from h) (by decide),fun h=>both (fun h1 h2=>by rw [if_pos rfl,ha.is h1,hb.is h2]) h⟩
  rw [if_pos rfl]
  show x - y < 2 ^ a.w
  omega
 rename_i o2
 rw [if_neg o2]
 split at h
 ·rename_i o3
  subst o3
  cases h
  have x1:=ha.num ka
  have y1:=hb.num kb
  refine ⟨fun _=>?_,fun h=>absurd (show (1:Int)=2 from h) (by decide),fun h=>both (fun h1 h2=>by rw [if_pos rfl,ha.is h1,hb.is h2]) h⟩
  rw [if_pos rfl]
  show x * y < 2 ^ (a.w + b.w)
  rw [Nat.pow_add]
  exact Nat.mul_lt_mul'' x1 y1
 rename_i o3
 rw [if_neg o3]
 cases h
 split
 ·exact Zko (Zjf _)
 split
 ·exact Zko (Zjf _)
 split
 ·exact Zko (Zjf _)
 ·exact Zko (Zjf _)
theorem AgE.name {p:Prg} {σ:TE} {s:RS} (a:AgE p σ s) {x:ByteArray} {r:Kn} (h:Zkh p σ x=.ok r):∃ v,s.vars x=some v∧VFit r v:=by
 unfold Zkh at h
 split at h
 ·rename_i n hn
  cases h
  exact ⟨n,(a.loops x n hn).1,fit_con⟩
 ·split at h
  ·rename_i k w hv
   cases h
   obtain ⟨v,h1,h2,h3⟩:=a.vars x k w hv
   exact ⟨v,h1,⟨h2,h3,fun h=>absurd (show false=true from h) (by decide)⟩⟩
  ·split at h
   ·rename_i d hd
    split at h
    ·rename_i hz
     cases h
     obtain ⟨v,h1,h2⟩:=a.ins x d hd hz
     exact ⟨v,h1,fit_num h2⟩
    ·cases h
   ·cases h
theorem AgE.index {p:Prg} {σ:TE} {s:RS} (a:AgE p σ s) (ok:EOkT p σ) {x:ByteArray} {k r:Kn} {v:Nat} (hv:VFit k v) (h:Zeh p σ x k=.ok r) :
  VFit r (rdX p s x v)∧((∃ j d,arOf p x=some j∧p.arrays[j]?=some d∧d.name=x∧((s.words.getD j []).length:Int)=d.size∧j < s.words.length∧v < (s.words.getD j []).length)∨(∃ d,arOf p x=none∧inOf p x=some d∧d.size ≠ 0∧((s.inw x).length:Int)=d.size∧v < (s.inw x).length)):=by
 unfold Zeh at h
 unfold rdX
 cases c:arOf p x with
 | some j =>
  rw [c] at h
  simp only at h ⊢
  obtain ⟨n,h1,h2⟩:=Zao h
  cases h2
  obtain ⟨d,hd,hn,hg⟩:=Zcq c
  rw [hg] at h1
  obtain ⟨p1,p2,p3,p4⟩:=Zic h1
  have e:v=n:=by rw [hv.is p2,p3]
  subst e
  have jl:j < p.arrays.length:=(List.getElem?_eq_some_iff.1 hd).1
  have jl1:j < σ.words.length:=by rw [ok.wlen]; exact jl
  have jl2:j < s.words.length:=by rw [a.wl]; exact jl1
  obtain ⟨w1,w2⟩:=a.words j _ _ (List.getElem?_eq_getElem jl1) (List.getElem?_eq_getElem jl2)
  have w3:=(ok.words j _ d (List.getElem?_eq_getElem jl1) hd).1
  have g1:s.words.getD j []=s.words[j]:=by rw [List.getD_eq_getElem?_getD,List.getElem?_eq_getElem jl2]; rfl
  have g2:σ.words.getD j []=σ.words[j]:=by rw [List.getD_eq_getElem?_getD,List.getElem?_eq_getElem jl1]; rfl
  rw [g1,g2]
  exact ⟨fit_num (w2 _),.inl ⟨j,d,rfl,hd,hn,by rw [g1]; omega,jl2,by rw [g1]; omega⟩⟩
 | none =>
  rw [c] at h
  simp only at h ⊢
  split at h
  ·rename_i d hd
   split at h
   ·cases h
   ·rename_i hz
    obtain ⟨n,h1,h2⟩:=Zao h
    cases h2
    obtain ⟨p1,p2,p3,p4⟩:=Zic h1
    have e:v=n:=by rw [hv.is p2,p3]
    subst e
    obtain ⟨i1,i2⟩:=a.inw x d hd hz
    exact ⟨fit_num (i2 _),.inr ⟨d,trivial,hd,hz,i1,by omega⟩⟩
  ·cases h
theorem VFit.cond {k r:Kn} {v:Nat} (h:VFit k v) (hk:r.kind=k.kind) (hw:k.w ≤ r.w) (hi:r.is=false):VFit r v:=
 ⟨fun h1=>Nat.lt_of_lt_of_le (h.num (hk ▸ h1)) (Nat.pow_le_pow_right (by decide) hw),fun h1=>h.boo (hk ▸ h1),fun h1=>by rw [hi] at h1; cases h1⟩
theorem made_fit {p:Prg} {σ:TE} {s:RS} (a:AgE p σ s) (ok:EOkT p σ) {k o:Int} {n:Nat} {x:ByteArray} {l:List Kn} {vs:List Nat} {r:Kn} (hl:VFits vs l) (h:Zgt p σ k o n x l=.ok r):VFit r (valOf p s k o n x vs):=by
 unfold Zgt at h
 unfold valOf
 split at h
 ·rename_i c; rw [if_pos c]; cases h; exact fit_con
 rename_i c; rw [if_neg c]
 split at h
 ·rename_i c; rw [if_pos c]
  obtain ⟨v,h1,h2⟩:=a.name h
  rw [h1]; exact h2
 rename_i c; rw [if_neg c]
 split at h
 ·rename_i c; rw [if_pos c]; exact (a.index ok (hl.nth 0) h).1
 rename_i c; rw [if_neg c]
 split at h
 ·rename_i c; rw [if_pos c]; exact opK_fit (hl.nth 0) (hl.nth 1) h
 rename_i c; rw [if_neg c]
 split at h
 ·rename_i c; rw [if_pos c]
  split at h
  ·cases h
  ·cases h; exact Zko (by omega)
 rename_i c; rw [if_neg c]
 split at h
 ·cases h
 ·rename_i hk
  cases h
  have k2:(nthK l 2).kind=(nthK l 1).kind:=Decidable.byContradiction fun q=>hk (.inr q)
  split
  ·exact (hl.nth 1).cond rfl (by show _ ≤ max _ _; omega) rfl
  ·exact (hl.nth 2).cond k2.symm (by show _ ≤ max _ _; omega) rfl
theorem Zmq {p:Prg} {σ:TE} {s:RS} (a:AgE p σ s) (ok:EOkT p σ) (e:Exp):∀ r m,Zcj p σ e=.ok (r,m)→VFit r (valX p s e):=by
 induction e using Exp.ind with
 | h k o n x ks ih =>
  intro r m h
  rw [Zcj] at h
  obtain ⟨⟨l,ml⟩,h1,h⟩:=Zao h
  obtain ⟨q,h2,h⟩:=Zao h
  have hq:=(Zi8 h).1
  rw [Zh8]
  have hh:r=q:=hq
  subst hh
  exact made_fit a ok (VFits.of ih l ml h1) h2
theorem Zf3 {p:Prg} {σ:TE} {s:RS} (a:AgE p σ s) (ok:EOkT p σ) {l:List Exp} {ks:List Kn} {m:Nat} (h:Za4 p σ l=.ok (ks,m)):VFits (l.map (valX p s)) ks:=VFits.of (fun x _=>Zmq a ok x) ks m h
theorem expr_w {p:Prg} {σ:TE} {e:Exp} {r:Kn} {m:Nat} (h:Zcj p σ e=.ok (r,m)):r.kind=1→r.w ≤ m:=by
 obtain ⟨k,o,n,x,ks⟩:=e
 rw [Zcj] at h
 obtain ⟨⟨l,ml⟩,h1,h⟩:=Zao h
 obtain ⟨q,h2,h⟩:=Zao h
 obtain ⟨t1,t2,t3,t4,t5⟩:=Zi8 h
 have hh:r=q:=t1
 subst hh
 exact t5
end Go.Ab
namespace Go.Ab
theorem Zc0 {f:ByteArray→Option Nat} {x t:ByteArray} {v:Option Nat}:setM f x v t=if t=x then v else f t:=rfl
theorem taken_inv {p:Prg} {σ:TE} {x:ByteArray} (h:¬ Zdc p σ x=true):inOf p x=none∧arOf p x=none∧Zaf x σ.loops=none:=by
 unfold Zdc at h
 refine ⟨?_,?_,?_⟩
 ·cases c:inOf p x with
  | none=>rfl
  | some d=>exact absurd (by rw [c]; rfl) h
 ·cases c:arOf p x with
  | none=>rfl
  | some d=>exact absurd (by rw [c]; cases inOf p x <;> rfl) h
 ·cases c:Zaf x σ.loops with
  | none=>rfl
  | some d=>exact absurd (by rw [c]; cases inOf p x <;> cases arOf p x <;> rfl) h
theorem AgE.set {p:Prg} {σ:TE} {s:RS} (a:AgE p σ s) {x:ByteArray} (ht:¬ Zdc p σ x=true) {u:Option (Int × Nat)} {v:Option Nat} (h:∀ k w,u=some (k,w)→∃ n,v=some n∧(k=1→n < 2 ^ w)∧(k=2→n ≤ 1)) :
  AgE p { σ with vars:=setV σ.vars x u } { s with vars:=setM s.vars x v }:=by
 obtain ⟨t1,t2,t3⟩:=taken_inv ht
 refine ⟨fun t k w hv=>?_,fun t n hn=>?_,fun t d hd hz=>?_,a.inw,a.wl,a.words⟩
 ·have hv:setV σ.vars x u t=some (k,w):=hv
  show ∃ v',setM s.vars x v t=some v'∧_
  unfold setV at hv
  rw [Zc0]
  by_cases c:t=x
  ·rw [if_pos c] at hv ⊢; exact h k w hv
  ·rw [if_neg c] at hv ⊢; exact a.vars t k w hv
 ·have hn:Zaf t σ.loops=some n:=hn
  have c:t ≠ x:=fun e=>by rw [e,t3] at hn; cases hn
  obtain ⟨l1,l2⟩:=a.loops t n hn
  exact ⟨by show setM s.vars x v t=_; rw [Zc0,if_neg c]; exact l1,by show setV σ.vars x u t=_; unfold setV; rw [if_neg c]; exact l2⟩
 ·have c:t ≠ x:=fun e=>by rw [e,t1] at hd; cases hd
  obtain ⟨w,l1,l2⟩:=a.ins t d hd hz
  exact ⟨w,by show setM s.vars x v t=_; rw [Zc0,if_neg c]; exact l1,l2⟩
def RunT (p:Prg) (f:TS→TR TS) (g:RS→RS):Prop:=∀ σ τ s,TOk p σ→Ag p σ s→f σ=.ok τ→Ag p τ (g s)
theorem iter_run {p:Prg} {f:Nat→TS→TR TS} {g:Nat→RS→RS} {I:TS→Prop} {m:Nat} (hr:∀ n,n < m→∀ σ τ s,TOk p σ→I σ→Ag p σ s→f n σ=.ok τ→Ag p τ (g n s)∧I τ) (hg:∀ n,n < m→Zbz p (f n)) :
  ∀ c n,n + c ≤ m→∀ σ τ s,TOk p σ→I σ→Ag p σ s→Zcw f c n σ=.ok τ→Ag p τ (Zij g c n s)∧I τ
 | 0,n,_,σ,τ,s,ok,hi,a,h=>by rw [Zcw] at h; cases h; exact ⟨a,hi⟩
 | c + 1,n,hm,σ,τ,s,ok,hi,a,h=>by
  rw [Zcw] at h
  obtain ⟨ρ,h1,h2⟩:=Zao h
  obtain ⟨a1,i1⟩:=hr n (by omega) σ ρ s ok hi a h1
  rw [Zij]
  exact iter_run hr hg c (n + 1) (by omega) ρ τ _ (hg n (by omega) σ ρ ok h1).ok i1 a1 h2
theorem Zmb {x t:ByteArray} {n m:Nat}:∀ {l:List (ByteArray × Nat)},Zaf t (l ++ [(x,n)])=some m→Zaf t l=some m∨(Zaf t l=none∧t=x∧m=n)
 | [],h=>by
  simp only [List.nil_append,Zaf] at h
  split at h
  ·rename_i e; cases h; exact .inr ⟨rfl,e.symm,rfl⟩
  ·cases h
 | (y,k) :: l,h=>by
  simp only [List.cons_append,Zaf] at h ⊢
  split at h
  ·rename_i e; rw [if_pos e]; exact .inl h
  ·rename_i e; rw [if_neg e]; exact Zmb h
structure Free (p:Prg) (x:ByteArray) (ls:List (ByteArray × Nat)) (σ:TS):Prop where
 i:inOf p x=none
 a:arOf p x=none
 l:Zaf x ls=none
 e:σ.env.loops=ls
 v:σ.env.vars x=none
theorem turn_ext {p:Prg} {x:ByteArray} {σ:TS} (ok:TOk p σ) {n:Nat} (hn:n < 1152921504606846976):TOk p { σ with env:={ σ.env with loops:=σ.env.loops ++ [(x,n)] } }:=
 ⟨⟨ok.env.vars,fun t m hm=>by
  have hm:(t,m) ∈ σ.env.loops ++ [(x,n)]:=hm
  rcases List.mem_append.1 hm with hm | hm
  ·exact ok.env.loops t m hm
  ·rw [List.mem_singleton] at hm; cases hm; exact hn,ok.env.wlen,ok.env.words⟩,ok.steps,ok.most⟩
theorem AgE.turn {p:Prg} {x:ByteArray} {ls:List (ByteArray × Nat)} {σ:TS} {s:RS} (hi:Free p x ls σ) (a:AgE p σ.env s) {n:Nat}:AgE p { σ.env with loops:=σ.env.loops ++ [(x,n)] } { s with vars:=setM s.vars x (some n) }:=by
 refine ⟨fun t k w hv=>?_,fun t m hm=>?_,fun t d hd hz=>?_,a.inw,a.wl,a.words⟩
 ·have hv:σ.env.vars t=some (k,w):=hv
  have c:t ≠ x:=fun e=>by rw [e,hi.v] at hv; cases hv
  obtain ⟨v,l1,l2⟩:=a.vars t k w hv
  exact ⟨v,by show setM s.vars x (some n) t=_; rw [Zc0,if_neg c]; exact l1,l2⟩
 ·have hm:Zaf t (σ.env.loops ++ [(x,n)])=some m:=hm
  rcases Zmb hm with h1 | ⟨h1,rfl,rfl⟩
  ·have c:t ≠ x:=fun e=>by rw [e,hi.e,hi.l] at h1; cases h1
   obtain ⟨l1,l2⟩:=a.loops t m h1
   exact ⟨by show setM s.vars x (some n) t=_; rw [Zc0,if_neg c]; exact l1,l2⟩
  ·exact ⟨by show setM s.vars t (some m) t=_; rw [Zc0,if_pos rfl],hi.v⟩
 ·have c:t ≠ x:=fun e=>by rw [e,hi.i] at hd; cases hd
  obtain ⟨w,l1,l2⟩:=a.ins t d hd hz
  exact ⟨w,by show setM s.vars x (some n) t=_; rw [Zc0,if_neg c]; exact l1,l2⟩
theorem Zg1 {x:ByteArray} {n:Nat}:∀ {l:List (ByteArray × Nat)},Zaf x l=none→Zaf x (l ++ [(x,n)])=some n
 | [],_=>by simp [Zaf]
 | (y,k) :: l,h=>by
  simp only [List.cons_append,Zaf] at h ⊢
  split at h
  ·cases h
  ·rename_i e; rw [if_neg e]; exact Zg1 h
theorem Zg0 {x t:ByteArray} {n m:Nat}:∀ {l:List (ByteArray × Nat)},Zaf t l=some m→Zaf t (l ++ [(x,n)])=some m
 | (y,k) :: l,h=>by
  simp only [List.cons_append,Zaf] at h ⊢
  split at h
  ·rename_i e; rw [if_pos e]; exact h
  ·rename_i e; rw [if_neg e]; exact Zg0 h
theorem turn_run {p:Prg} {x:ByteArray} {ls:List (ByteArray × Nat)} {fa:TS→TR TS} {ga:RS→RS} (hr:RunT p fa ga) (hg:Zbz p fa) {n:Nat} (hn:n < 1152921504606846976) (σ τ:TS) (s:RS) (ok:TOk p σ) (hi:Free p x ls σ) (a:Ag p σ s) (h:Zfd x fa n σ=.ok τ) :
  Ag p τ (ga { s with vars:=setM s.vars x (some n) })∧Free p x ls τ:=by
 unfold Zfd at h
 obtain ⟨ρ,h1,h⟩:=Zao h
 obtain ⟨ρ2,h2,h⟩:=Zao h
 obtain ⟨rfl,k1⟩:=Zcz ok h1
 have oke:=turn_ext (x:=x) k1.ok hn
 have a0:Ag p ({ σ with steps:=σ.steps + 1,env:={ σ.env with loops:=σ.env.loops ++ [(x,n)] } }:TS) { s with vars:=setM s.vars x (some n) }:=⟨AgE.turn hi a.env,a.told,Nat.le_trans a.few (Nat.le_succ _)⟩
 have k2:=hg _ _ oke h2
 have a2:=hr _ _ _ oke a0 h2
 have hl:ρ2.env.loops=σ.env.loops ++ [(x,n)]:=k2.loops
 cases h
 have hx:=a2.env.loops x n (by rw [hl]; exact Zg1 (by rw [hi.e]; exact hi.l))
 refine ⟨⟨⟨a2.env.vars,fun t m hm=>?_,a2.env.ins,a2.env.inw,a2.env.wl,a2.env.words⟩,a2.told,a2.few⟩,⟨hi.i,hi.a,hi.l,hi.e,hx.2⟩⟩
 have hm:Zaf t σ.env.loops=some m:=hm
 exact a2.env.loops t m (by rw [hl]; exact Zg0 hm)
theorem for_is {p:Prg} {x:ByteArray} {l:List Kn} {fa:TS→TR TS} {σ τ:TS} (hs:forT p x l fa σ=.ok τ):(nthK l 0).is=true∧(nthK l 1).is=true∧¬ Zdc p σ.env x=true ∧
  Zcw (Zfd x fa) ((nthK l 1).val + 1 - (nthK l 0).val) (nthK l 0).val { σ with env:={ σ.env with vars:=setV σ.env.vars x none } }=.ok τ:=by
 unfold forT at hs
 split at hs
 ·cases hs
 rename_i hc
 split at hs
 ·cases hs
 rename_i ht
 refine ⟨?_,?_,ht,hs⟩
 ·cases q:(nthK l 0).is with
  | true=>rfl
  | false=>exact absurd (.inr (.inr (.inl q))) hc
 ·cases q:(nthK l 1).is with
  | true=>rfl
  | false=>exact absurd (.inr (.inr (.inr q))) hc
theorem Zkn {p:Prg} {x:ByteArray} {σ:TS} {s:RS} (a:Ag p σ s) (ok:TOk p σ) (ht:¬ Zdc p σ.env x=true) :
  Ag p { σ with env:={ σ.env with vars:=setV σ.env.vars x none } } { s with vars:=setM s.vars x none }∧Free p x σ.env.loops { σ with env:={ σ.env with vars:=setV σ.env.vars x none } }∧TOk p { σ with env:={ σ.env with vars:=setV σ.env.vars x none } }:=by
 obtain ⟨t1,t2,t3⟩:=taken_inv ht
 exact ⟨⟨a.env.set ht (fun k w h=>by cases h),a.told,a.few⟩,⟨t1,t2,t3,rfl,by show setV σ.env.vars x none x=none; unfold setV; rw [if_pos rfl]⟩,⟨ok.env.setV (fun k w h=>by cases h),ok.steps,ok.most⟩⟩
theorem for_end {p:Prg} {x:ByteArray} {ls:List (ByteArray × Nat)} {σ:TS} {s:RS} (a:Ag p σ s) (hi:Free p x ls σ):Ag p σ { s with vars:=setM s.vars x none }:=by
 refine ⟨⟨fun t k w hv=>?_,fun t m hm=>?_,fun t d hd hz=>?_,a.env.inw,a.env.wl,a.env.words⟩,a.told,a.few⟩
 ·have c:t ≠ x:=fun e=>by rw [e,hi.v] at hv; cases hv
  show ∃ v,setM s.vars x none t=some v∧_
  rw [Zc0,if_neg c]; exact a.env.vars t k w hv
 ·have c:t ≠ x:=fun e=>by rw [e,hi.e,hi.l] at hm; cases hm
  show setM s.vars x none t=some m∧_
  rw [Zc0,if_neg c]; exact a.env.loops t m hm
 ·have c:t ≠ x:=fun e=>by rw [e,hi.i] at hd; cases hd
  show ∃ v,setM s.vars x none t=some v∧_
  rw [Zc0,if_neg c]; exact a.env.ins t d hd hz
theorem for_run {p:Prg} {x:ByteArray} {l:List Kn} {vs:List Nat} (hv:VFits vs l) (kl:∀ k ∈ l,KOk k) {fa:TS→TR TS} {ga:RS→RS} (hr:RunT p fa ga) (hg:Zbz p fa):RunT p (forT p x l fa) (forX x (vs.getD 0 0) (vs.getD 1 0) ga):=by
 intro σ τ s ok a h
 obtain ⟨i0,i1,ht,h⟩:=for_is h
 have b1:=(Zbl kl 1).lt
 rw [(hv.nth 0).is i0,(hv.nth 1).is i1]
 unfold forX
 obtain ⟨a0,f0,k0⟩:=Zkn a ok ht
 by_cases hle:(nthK l 0).val ≤ (nthK l 1).val
 ·obtain ⟨a1,f1⟩:=iter_run (f:=Zfd x fa) (g:=fun n s=>ga { s with vars:=setM s.vars x (some n) }) (m:=(nthK l 1).val + 1) (I:=Free p x σ.env.loops) (fun n hn σ τ s ok hi a h=>turn_run hr hg (by omega) σ τ s ok hi a h) (fun n hn=>Zi7 hg (by omega)) ((nthK l 1).val + 1 - (nthK l 0).val) (nthK l 0).val (by omega) _ τ _ k0 f0 a0 h
  exact for_end a1 f1
 ·rw [show (nthK l 1).val + 1 - (nthK l 0).val=0 by omega,Zcw] at h
  rw [show (nthK l 1).val + 1 - (nthK l 0).val=0 by omega,Zij]
  cases h
  exact for_end a0 f0
theorem if_run {p:Prg} {l:List Kn} {vs:List Nat} {fa fb:TS→TR TS} {ga gb:RS→RS} (ra:RunT p fa ga) (rb:RunT p fb gb) (ha:Zbz p fa) (hb:Zbz p fb):RunT p (ifT l fa fb) (fun s=>if vs.getD 0 0=1 then ga s else gb s):=by
 intro σ τ s ok a h
 unfold ifT at h
 split at h
 ·cases h
 obtain ⟨σ1,h1,h⟩:=Zao h
 obtain ⟨σ2,h2,h⟩:=Zao h
 have k1:=ha { σ with ifs:=σ.ifs + 1 } _ ⟨ok.env,ok.steps,ok.most⟩ h1
 have k2:=hb { σ1 with env:=σ.env } _ ⟨ok.env,k1.ok.steps,k1.ok.most⟩ h2
 have hst1:σ.steps ≤ σ1.steps:=k1.steps
 have hst2:σ1.steps ≤ σ2.steps:=k2.steps
 have hm1:σ.most ≤ σ1.most:=k1.most
 have hm2:σ1.most ≤ σ2.most:=k2.most
 have hl1:σ1.env.loops=σ.env.loops:=k1.loops
 have hl2:σ2.env.loops=σ.env.loops:=k2.loops
 have key:∀ (i:Nat) (a b:List Nat),σ2.env.words[i]?=some a→σ1.env.words[i]?=some b→a.length=b.length:=fun i a b ha hb=>by
  have hil:i < p.arrays.length:=by rw [← k2.ok.env.wlen]; exact (List.getElem?_eq_some_iff.1 ha).1
  have hd:=List.getElem?_eq_getElem hil
  have la:=(k2.ok.env.words i a _ ha hd).1
  have lb:=(k1.ok.env.words i b _ hb hd).1
  omega
 have wl:σ2.env.words.length=σ1.env.words.length:=k2.ok.env.wlen.trans k1.ok.env.wlen.symm
 have lv:∀ x n,Zaf x σ.env.loops=some n→Zdn σ.env.vars σ1.env.vars σ2.env.vars x=none:=fun x n hn=>by
  unfold Zdn; rw [(a.env.loops x n hn).2]
 cases h
 show Ag p _ (if vs.getD 0 0=1 then ga s else gb s)
 split
 ·have a1:=ra { σ with ifs:=σ.ifs + 1 } _ s ⟨ok.env,ok.steps,ok.most⟩ ⟨a.env,a.told,a.few⟩ h1
  refine ⟨⟨fun t k w hv=>?_,fun t n hn=>⟨(a1.env.loops t n (by rw [hl1]; exact hn)).1,lv t n hn⟩,a1.env.ins,a1.env.inw,?_,fun i x x' hx hx'=>?_⟩,fun v hv=>Nat.lt_of_lt_of_le (a1.told v hv) (Nat.pow_le_pow_right (by decide) (by show max σ1.most 1 ≤ max σ2.most 1; omega)),Nat.le_trans a1.few hst2⟩
  ·obtain ⟨_,w1,w2,f1,f2,rfl⟩:=both_some hv
   obtain ⟨v,g1,g2,g3⟩:=a1.env.vars t _ _ f1
   exact ⟨v,g1,fun hk=>Nat.lt_of_lt_of_le (g2 hk) (Nat.pow_le_pow_right (by decide) (by omega)),g3⟩
  ·show _=(maxW _ _).length
   unfold maxW; rw [List.length_zipWith,a1.env.wl]; omega
  ·obtain ⟨u,b,f1,f2,rfl⟩:=maxW_get hx
   obtain ⟨m1,m2⟩:=a1.env.words i b x' f2 hx'
   have hab:=key i u b f1 f2
   refine ⟨by rw [List.length_zipWith]; omega,fun n=>?_⟩
   rw [Zjo hab]
   exact Nat.lt_of_lt_of_le (m2 n) (Nat.pow_le_pow_right (by decide) (by omega))
 ·have a1:=rb { σ1 with env:=σ.env } _ s ⟨ok.env,k1.ok.steps,k1.ok.most⟩ (a.mono rfl hst1 hm1) h2
  refine ⟨⟨fun t k w hv=>?_,fun t n hn=>⟨(a1.env.loops t n (by rw [hl2]; exact hn)).1,lv t n hn⟩,a1.env.ins,a1.env.inw,?_,fun i x x' hx hx'=>?_⟩,a1.told,a1.few⟩
  ·obtain ⟨_,w1,w2,f1,f2,rfl⟩:=both_some hv
   obtain ⟨v,g1,g2,g3⟩:=a1.env.vars t _ _ f2
   exact ⟨v,g1,fun hk=>Nat.lt_of_lt_of_le (g2 hk) (Nat.pow_le_pow_right (by decide) (by omega)),g3⟩
  ·show _=(maxW _ _).length
   unfold maxW; rw [List.length_zipWith,a1.env.wl]; omega
  ·obtain ⟨u,b,f1,f2,rfl⟩:=maxW_get hx
   obtain ⟨m1,m2⟩:=a1.env.words i u x' f1 hx'
   have hab:=key i u b f1 f2
   refine ⟨by rw [List.length_zipWith]; omega,fun n=>?_⟩
   rw [Zjo hab]
   exact Nat.lt_of_lt_of_le (m2 n) (Nat.pow_le_pow_right (by decide) (by omega))
theorem set_run {p:Prg} {x:ByteArray} {l:List Kn} {vs:List Nat} (hv:VFits vs l):RunT p (setT p x l) (fun s=>{ s with vars:=setM s.vars x (some (vs.getD 0 0)) }):=by
 intro σ τ s ok a h
 unfold setT at h
 split at h
 ·cases h
 rename_i ht
 cases h
 have h0:=hv.nth 0
 exact ⟨a.env.set ht (fun k w h=>by cases h; exact ⟨_,rfl,h0.num,h0.boo⟩),a.told,a.few⟩
theorem Zj1 {p:Prg} {x:ByteArray} {l:List Kn} {σ τ:TS} (h:Zhm p x l σ=.ok τ):∃ j d,arOf p x=some j∧p.arrays[j]?=some d∧d.name=x∧(nthK l 0).is=true∧((nthK l 0).val:Int) < d.size∧(nthK l 1).kind=1∧τ={ σ with env:={ σ.env with words:=setW σ.env.words j (nthK l 0).val (nthK l 1).w } }:=by
 unfold Zhm at h
 cases c:arOf p x with
 | none=>rw [c] at h; cases h
 | some j =>
  rw [c] at h
  simp only at h
  obtain ⟨n,h1,h2⟩:=Zao h
  obtain ⟨d,hd,hn,hg⟩:=Zcq c
  rw [hg] at h1
  obtain ⟨p1,p2,p3,p4⟩:=Zic h1
  split at h2
  ·cases h2
  ·rename_i hk
   cases h2
   exact ⟨j,d,rfl,hd,hn,p2,by rw [← p3]; exact p4,Decidable.byContradiction hk,by rw [p3]⟩
theorem store_run {p:Prg} {x:ByteArray} {l:List Kn} {vs:List Nat} (hv:VFits vs l):RunT p (Zhm p x l) (fun s=>match arOf p x with | some j=>{ s with words:=setW s.words j (vs.getD 0 0) (vs.getD 1 0) } | none=>s):=by
 intro σ τ s ok a h
 obtain ⟨j,d,e1,e2,e3,e4,e5,e6,rfl⟩:=Zj1 h
 have h0:=hv.nth 0
 have h1:=hv.nth 1
 rw [e1]
 refine ⟨⟨a.env.vars,a.env.loops,a.env.ins,a.env.inw,by show (setW _ _ _ _).length=(setW _ _ _ _).length; rw [setW_len,setW_len]; exact a.env.wl,fun i u u' hu hu'=>?_⟩,a.told,a.few⟩
 have hu:(setW σ.env.words j (nthK l 0).val (nthK l 1).w)[i]?=some u:=hu
 have hu':(setW s.words j (vs.getD 0 0) (vs.getD 1 0))[i]?=some u':=hu'
 rw [Zex] at hu hu'
 by_cases cj:i=j
 ·rw [if_pos cj,Option.map_eq_some_iff] at hu hu'
  obtain ⟨y,e,rfl⟩:=hu
  obtain ⟨y',e',rfl⟩:=hu'
  obtain ⟨a1,a2⟩:=a.env.words i y y' e e'
  refine ⟨by rw [List.length_set,List.length_set]; exact a1,fun m=>?_⟩
  have hm:=a2 m
  have q0:=h0.is e4
  have q1:=h1.num e6
  generalize vs.getD 0 0=v0 at *
  generalize vs.getD 1 0=v1 at *
  rw [List.getD_eq_getElem?_getD,List.getD_eq_getElem?_getD,List.getElem?_set,List.getElem?_set,q0]
  rw [List.getD_eq_getElem?_getD,List.getD_eq_getElem?_getD] at hm
  by_cases cn:(nthK l 0).val=m
  ·rw [if_pos cn,if_pos cn,a1]
   split
   ·exact q1
   ·exact Nat.zero_lt_one
  ·rw [if_neg cn,if_neg cn]; exact hm
 ·rw [if_neg cj] at hu hu'
  exact a.env.words i u u' hu hu'
theorem Zje {p:Prg} (hp:PV p):∀ {l:List Stm} {lv:Nat},VSs l lv→(∀ x ∈ l,RunT p (Zc4 p x) (runX p x))→RunT p (Zaj p l) (Za9 p l)
 | [],lv,hv,ih=>fun σ τ s ok a h=>by rw [Zaj] at h; cases h; rw [Za9]; exact a
 | x :: xs,lv,hv,ih=>fun σ τ s ok a h=>by
  rw [Zaj] at h
  obtain ⟨σ1,h1,h2⟩:=Zao h
  have hx:=VSs_all.1 hv x (by simp)
  have hxs:VSs xs lv:=VSs_all.2 fun y hy=>VSs_all.1 hv y (by simp [hy])
  have k:Keep p σ σ1:=Zbm hp (l:=[x]) (VSs_all.2 fun y hy=>by rw [List.mem_singleton] at hy; subst hy; exact hx) _ _ ok (by rw [Zj3]; exact h1)
  rw [Za9]
  exact Zje hp hxs (fun y hy=>ih y (by simp [hy])) σ1 τ _ k.ok (ih x (by simp) σ σ1 s ok a h1) h2
theorem stmt_inv {p:Prg} {k:Int} {x:ByteArray} {e:List Exp} {a b:List Stm} {σ τ:TS} (h:Zc4 p (.mk k x e a b) σ=.ok τ):∃ l m,Zg7 σ=.ok { σ with steps:=σ.steps + 1 }∧Za4 p σ.env e=.ok (l,m)∧Zfe p k x l (Zaj p a) (Zaj p b) { σ with steps:=σ.steps + 1,most:=max σ.most m }=.ok τ:=by
 rw [Zc4] at h
 obtain ⟨σ1,h1,h⟩:=Zao h
 obtain ⟨⟨l,m⟩,h2,h⟩:=Zao h
 have e1:σ1={ σ with steps:=σ.steps + 1 }:=by
  unfold Zg7 at h1
  split at h1
  ·cases h1
  ·cases h1; rfl
 subst e1
 exact ⟨l,m,h1,h2,h⟩
theorem stmt_run {p:Prg} (hp:PV p) (x:Stm):∀ lv,VS x lv→RunT p (Zc4 p x) (runX p x):=by
 induction x using Stm.ind with
 | h k y e a b iha ihb =>
  intro lv hv σ τ s ok ag h
  obtain ⟨v1,v2,v3,v4,v5,v6,v7,v8,v9,v10,v11⟩:=VS_mk.1 hv
  have ra:=Zje hp v10 fun x hx=>iha x hx _ (VSs_all.1 v10 x hx)
  have rb:=Zje hp v11 fun x hx=>ihb x hx _ (VSs_all.1 v11 x hx)
  have ga:=Zbm hp v10
  have gb:=Zbm hp v11
  obtain ⟨l,m,h1,h2,h⟩:=stmt_inv h
  obtain ⟨_,k1⟩:=Zcz ok h1
  have vf:=Zf3 ag.env ok.env h2
  obtain ⟨kl,km,kn⟩:=Zb7 hp ok.env v9 l m h2
  have ok1:TOk p { σ with steps:=σ.steps + 1,most:=max σ.most m }:=⟨ok.env,k1.ok.steps,by have:=ok.most; show max σ.most m ≤ 60; omega⟩
  have ag1:Ag p { σ with steps:=σ.steps + 1,most:=max σ.most m } s:=ag.mono rfl (Nat.le_succ _) (Nat.le_max_left _ _)
  rw [runX_mk]
  unfold Zfe at h
  unfold run1
  split at h
  ·rename_i c; rw [if_pos c]; exact set_run vf _ τ s ok1 ag1 h
  rename_i c; rw [if_neg c]
  split at h
  ·rename_i c; rw [if_pos c]; exact store_run vf _ τ s ok1 ag1 h
  rename_i c; rw [if_neg c]
  split at h
  ·rename_i c; rw [if_pos c]; exact if_run (vs:=e.map (valX p s)) ra rb ga gb _ τ s ok1 ag1 h
  rename_i c; rw [if_neg c]
  split at h
  ·rename_i c; rw [if_pos c]; exact for_run vf kl ra ga _ τ s ok1 ag1 h
  rename_i c3; rw [if_neg c3]
  split at h
  ·cases h
  ·cases h
   have k5:e.length=1:=by
    rw [v4,if_neg]
    omega
   refine ⟨⟨ag1.env.vars,ag1.env.loops,ag1.env.ins,ag1.env.inw,ag1.env.wl,ag1.env.words⟩,fun v hv=>?_,by have:=ag.few; show (s.told ++ _).length ≤ _; rw [List.length_append]; show s.told.length + 1 ≤ σ.steps + 1; omega⟩
   have hv:v ∈ s.told ++ [(e.map (valX p s)).getD 0 0]:=hv
   rcases List.mem_append.1 hv with hv | hv
   ·exact ag1.told v hv
   ·rw [List.mem_singleton] at hv
    subst hv
    match e,k5 with
    | [e0],_ =>
    rw [Za4] at h2
    obtain ⟨⟨r,m0⟩,g1,h2⟩:=Zao h2
    rw [Za4] at h2
    cases h2
    have f0:=Zmq ag.env ok.env e0 r m0 g1
    have kr:=(Zgj hp ok.env e0 _ (v9 e0 (by simp)) r m0 g1).1
    show valX p s e0 < _
    rcases kr.kind with hk | hk
    ·have w0:=expr_w g1 hk
     exact Nat.lt_of_lt_of_le (f0.num hk) (Nat.pow_le_pow_right (by decide) (by show r.w ≤ max (max σ.most (max m0 0)) 1; omega))
    ·have:=f0.boo hk
     have h2:(2:Nat) ^ 1 ≤ 2 ^ max (max σ.most (max m0 0)) 1:=Nat.pow_le_pow_right (by decide) (by omega)
     show valX p s e0 < 2 ^ max (max σ.most (max m0 0)) 1
     omega
theorem Zj2 {p:Prg} (hp:PV p) {l:List Stm} {lv:Nat} (hv:VSs l lv):RunT p (Zaj p l) (Za9 p l):=Zje hp hv fun x hx=>stmt_run hp x _ (VSs_all.1 hv x hx)
end Go.Ab
namespace Go.Ab
def WordsAt (h:H) (v:V) (ws:List Nat):Prop:=
 v=.vec (Ws ws) .any∨(∃ id:Nat,id < h.next∧v=.ref id 0 ws.length 1∧h.get id=some (Ws ws))
def ListsAt (h:H) (v:V) (ls:List (List Nat)):Prop:=
 ∃ vs:List V,vs.length=ls.length∧(∀ (i:Nat) (x:V) (ws:List Nat),vs[i]?=some x→ls[i]?=some ws→WordsAt h x ws) ∧
  (v=.vec vs .any∨(∃ id:Nat,id < h.next∧v=.ref id 0 vs.length 1∧h.get id=some vs))
theorem WordsAt.frame {h h':H} {v:V} {ws:List Nat} (a:WordsAt h v ws) (hn:h.next ≤ h'.next) (e:∀ j,j < h.next→h'.objs j=h.objs j):WordsAt h' v ws:=by
 rcases a with a | ⟨id,h1,h2,h3⟩
 ·exact .inl a
 ·exact .inr ⟨id,Nat.lt_of_lt_of_le h1 hn,h2,by unfold H.get at h3 ⊢; rw [e id h1]; exact h3⟩
theorem ListsAt.frame {h h':H} {v:V} {ls:List (List Nat)} (a:ListsAt h v ls) (hn:h.next ≤ h'.next) (e:∀ j,j < h.next→h'.objs j=h.objs j):ListsAt h' v ls:=by
 obtain ⟨vs,h1,h2,h3⟩:=a
 refine ⟨vs,h1,fun i x ws hx hw=>(h2 i x ws hx hw).frame hn e,?_⟩
 rcases h3 with h3 | ⟨id,h4,h5,h6⟩
 ·exact .inl h3
 ·exact .inr ⟨id,Nat.lt_of_lt_of_le h4 hn,h5,by unfold H.get at h6 ⊢; rw [e id h4]; exact h6⟩
theorem WordsAt.out {h:H} {v:V} {ws:List Nat} (a:WordsAt h v ws):v.out=some v∧v.cells=[v]∧v.stays=true∧∀ h1:H,Zfa h1 .i v=some (I ws.length):=by
 rcases a with rfl | ⟨id,_,rfl,_⟩
 ·exact ⟨rfl,rfl,rfl,fun _=>by simp [Zfa,Za7]⟩
 ·exact ⟨rfl,rfl,rfl,fun _=>rfl⟩
theorem ListsAt.out {h:H} {v:V} {ls:List (List Nat)} (a:ListsAt h v ls):v.out=some v∧v.cells=[v]∧v.stays=true∧∀ h1:H,Zfa h1 .i v=some (I ls.length):=by
 obtain ⟨vs,h1,_,rfl | ⟨id,_,rfl,_⟩⟩:=a
 ·exact ⟨rfl,rfl,rfl,fun _=>by simp [Zfa,h1]⟩
 ·exact ⟨rfl,rfl,rfl,fun _=>by simp [Zfa,h1]⟩
theorem get1 {cs:List V} {i:Nat} {v:V} (hi:cs[i]?=some v):takeV cs i 1 false=some v:=by simp [takeV,hi]
theorem WordsAt.idx {h:H} {v:V} {ws:List Nat} (a:WordsAt h v ws) {i:Nat} (hi:i < ws.length) :
  ∃ p,Zi4 v (.int .i64 (i:Int)) 1=some p∧∀ m,Ze0 m h p 1 false=some (.int .u64 ((ws[i]:Nat):Int)):=by
 have hg:(Ws ws)[i]?=some (W ws[i]):=by rw [Zmn,List.getElem?_eq_getElem hi]; rfl
 rcases a with rfl | ⟨id,_,rfl,h3⟩
 ·refine ⟨.iptr [W ws[i]],?_,fun m=>rfl⟩
  simp only [Zi4,Int.natCast_nonneg,if_true,Int.toNat_natCast,hg]
  rfl
 ·refine ⟨.ptr id (0 + i * 1),?_,fun m=>?_⟩
  ·simp only [Zi4,Int.natCast_nonneg,Int.toNat_natCast]
   rw [if_pos ⟨trivial,by omega,trivial⟩]
  ·simp only [Ze0,h3]
   exact get1 (by rw [Nat.zero_add,Nat.mul_one]; exact hg)
theorem ListsAt.idx {h:H} {v:V} {ls:List (List Nat)} (a:ListsAt h v ls) {i:Nat} (hi:i < ls.length) :
  ∃ p x,Zi4 v (.int .i64 (i:Int)) 1=some p∧(∀ m,Ze0 m h p 1 false=some x)∧WordsAt h x ls[i]:=by
 obtain ⟨vs,h1,h2,h3⟩:=a
 have hi':i < vs.length:=by omega
 have hw:WordsAt h vs[i] ls[i]:=h2 i _ _ (List.getElem?_eq_getElem hi') (List.getElem?_eq_getElem hi)
 have hg:vs[i]?=some vs[i]:=List.getElem?_eq_getElem hi'
 rcases h3 with rfl | ⟨id,_,rfl,h5⟩
 ·refine ⟨.iptr [vs[i]],vs[i],?_,fun m=>rfl,hw⟩
  simp only [Zi4,Int.natCast_nonneg,if_true,Int.toNat_natCast,hg,hw.out.2.1,List.length_cons,List.length_nil]
 ·refine ⟨.ptr id (0 + i * 1),vs[i],?_,fun m=>?_,hw⟩
  ·simp only [Zi4,Int.natCast_nonneg,Int.toNat_natCast]
   rw [if_pos ⟨trivial,by omega,trivial⟩]
  ·simp only [Ze0,h5]
   exact get1 (by rw [Nat.zero_add,Nat.mul_one]; exact hg)
end Go.Ab
namespace Go.Ab
structure Ik where
 x:Nat
 v:Nat
 w:Nat
 t:Nat
 tv:V
 es:List (ByteArray × Nat)
 ws:List (ByteArray × Nat × Nat)
def Ik.own (L:Ik):List Nat:=[L.x,L.v,L.w,L.t] ++ L.ws.map fun r=>r.2.1
def wV (n:Nat):V:=W n
structure AtI (p:Prg) (L:Ik) (s:RS) (h:H):Prop where
 x:h.objs L.x=some (.cells [.map L.v,.map L.w,L.tv])
 v:∃ ver,h.objs L.v=some (.map (mapO wV L.es) ver)
 w:∃ ver,h.objs L.w=some (.map (mapO refV L.ws) ver)
 es:∀ y,Zaf y L.es=s.vars y
 esn:(L.es.map (·.1)).Nodup
 ars:∀ (i:Nat) (d:ArD),p.arrays[i]?=some d→∃ id ws,s.words[i]?=some ws∧Zaf d.name L.ws=some (id,ws.length)∧h.objs id=some (.cells (Ws ws))
 inw:∀ (y:ByteArray) (d:InD),inOf p y=some d→d.size ≠ 0→∃ id,Zaf y L.ws=some (id,(s.inw y).length)∧h.objs id=some (.cells (Ws (s.inw y)))
 told:Grow h 1 (s.told.map fun n=>[W n]) L.t L.tv
 wsn:(L.ws.map (·.1)).Nodup
 nd:L.own.Nodup
 lt:∀ id ∈ L.own,id < h.next
structure FrI (L L':Ik) (h h':H):Prop where
 nx:h.next ≤ h'.next
 x:L'.x=L.x
 same:∀ id,id < h.next→id ∉ L.own→h'.objs id=h.objs id
 own:∀ id ∈ L'.own,id ∈ L.own∨h.next ≤ id
theorem FrI.refl (L:Ik) (h:H):FrI L L h h:=⟨Nat.le_refl _,rfl,fun _ _ _=>rfl,fun _ hi=>.inl hi⟩
theorem FrI.trans {L L' L'':Ik} {h h' h'':H} (a:FrI L L' h h') (b:FrI L' L'' h' h''):FrI L L'' h h'':=
 ⟨Nat.le_trans a.nx b.nx,b.x.trans a.x,fun id hl hn=>by
  rw [b.same id (Nat.lt_of_lt_of_le hl a.nx) (fun hi=>(a.own id hi).elim hn (fun hh=>absurd hl (Nat.not_lt.2 hh)))]
  exact a.same id hl hn,fun id hi=>(b.own id hi).elim (fun hh=>a.own id hh) (fun hh=>.inr (Nat.le_trans a.nx hh))⟩
theorem Ik.dist {L:Ik} (h:L.own.Nodup):(L.x ≠ L.v∧L.x ≠ L.w∧L.x ≠ L.t∧L.x ∉ L.ws.map fun r=>r.2.1)∧(L.v ≠ L.w∧L.v ≠ L.t∧L.v ∉ L.ws.map fun r=>r.2.1)∧(L.w ≠ L.t∧L.w ∉ L.ws.map fun r=>r.2.1)∧(L.t ∉ L.ws.map fun r=>r.2.1)∧(L.ws.map fun r=>r.2.1).Nodup:=by
 simp only [Ik.own,List.cons_append,List.nil_append,List.nodup_cons,List.mem_cons,not_or] at h
 exact ⟨h.1,h.2.1,h.2.2.1,h.2.2.2.1,h.2.2.2.2⟩
theorem Ik.mem {L:Ik}:L.x ∈ L.own∧L.v ∈ L.own∧L.w ∈ L.own∧L.t ∈ L.own:=by simp [Ik.own]
theorem Ik.ws_mem {L:Ik} {y:ByteArray} {id n:Nat} (h:Zaf y L.ws=some (id,n)):(id ∈ L.ws.map fun r=>r.2.1)∧id ∈ L.own:=by
 have hm:id ∈ L.ws.map fun r=>r.2.1:=List.mem_map.2 ⟨_,Za8 h,rfl⟩
 exact ⟨hm,by unfold Ik.own; exact List.mem_append_right _ hm⟩
theorem W_and {a b:Nat} (ha:a ≤ 1) (hb:b ≤ 1):bits2 .and .u64 (a:Int) (b:Int)=some (W (Zc5 (a=1∧b=1))):=by
 have h1:a=0∨a=1:=by omega
 have h2:b=0∨b=1:=by omega
 rcases h1 with rfl | rfl <;> rcases h2 with rfl | rfl <;> rfl
theorem W_or {a b:Nat} (ha:a ≤ 1) (hb:b ≤ 1):bits2 .or .u64 (a:Int) (b:Int)=some (W (Zc5 (a=1∨b=1))):=by
 have h1:a=0∨a=1:=by omega
 have h2:b=0∨b=1:=by omega
 rcases h1 with rfl | rfl <;> rcases h2 with rfl | rfl <;> rfl
theorem opX_1 {a b:Nat}:opX 1 a b=a + b:=rfl
theorem opX_2 {a b:Nat}:opX 2 a b=a - b:=rfl
theorem opX_3 {a b:Nat}:opX 3 a b=a * b:=rfl
theorem opX_4 {a b:Nat}:opX 4 a b=Zc5 (a < b):=rfl
theorem opX_5 {a b:Nat}:opX 5 a b=Zc5 (a=b):=rfl
theorem opX_6 {a b:Nat}:opX 6 a b=Zc5 (a=1∧b=1):=rfl
theorem opX_7 {a b:Nat}:opX 7 a b=Zc5 (a=1∨b=1):=rfl
theorem VFit.lt {k:Kn} {v:Nat} (h:VFit k v) (hk:KOk k):v < 1152921504606846976:=by
 rcases hk.kind with h1 | h1
 ·exact Nat.lt_of_lt_of_le (h.num h1) (Nat.le_trans (Nat.pow_le_pow_right (by decide) hk.w) (by decide))
 ·have:=h.boo h1; omega
theorem Zku {p:Prg} {σ:TE} {k o:Int} {n:Nat} {x:ByteArray} {ks:List Exp} {r:Kn} {m:Nat} (h:Zcj p σ (.mk k o n x ks)=.ok (r,m)):∃ l ml,Za4 p σ ks=.ok (l,ml)∧Zgt p σ k o n x l=.ok r:=by
 rw [Zcj] at h
 obtain ⟨⟨l,ml⟩,h1,h⟩:=Zao h
 obtain ⟨q,h2,h⟩:=Zao h
 have hq:r=q:=(Zi8 h).1
 subst hq
 exact ⟨l,ml,h1,h2⟩
theorem Zem {p:Prg} {σ:TE}:∀ {l:List Exp} {ks:List Kn} {m:Nat},Za4 p σ l=.ok (ks,m)→∀ x ∈ l,∃ r m',Zcj p σ x=.ok (r,m')
 | e :: es,ks,m,h,x,hx=>by
  rw [Za4] at h
  obtain ⟨⟨a,ma⟩,h1,h⟩:=Zao h
  obtain ⟨⟨b,mb⟩,h2,h⟩:=Zao h
  rcases List.mem_cons.1 hx with rfl | hx
  ·exact ⟨a,ma,h1⟩
  ·exact Zem h2 x hx
theorem AtI.index {p:Prg} {σ:TE} {L:Ik} {s:RS} {h:H} (A:AtI p L s h) (ag:AgE p σ s) (ok:EOkT p σ) {x:ByteArray} {k r:Kn} {v:Nat} (hv:VFit k v) (ht:Zeh p σ x k=.ok r) :
  ∃ id len,Zaf x L.ws=some (id,len)∧v < len∧∃ ws,h.get id=some (Ws ws)∧ws.length=len∧ws[v]?=some (rdX p s x v):=by
 obtain ⟨_,hh⟩:=ag.index ok hv ht
 rcases hh with ⟨j,d,e1,e2,e3,e4,e5,e6⟩ | ⟨d,e1,e2,e3,e4,e5⟩
 ·obtain ⟨id,ws,f1,f2,f3⟩:=A.ars j d e2
  have g:s.words.getD j []=ws:=by rw [List.getD_eq_getElem?_getD,f1]; rfl
  rw [e3] at f2
  rw [g] at e6
  refine ⟨id,ws.length,f2,e6,ws,Zai f3,rfl,?_⟩
  unfold rdX
  rw [e1]
  simp only
  rw [g,List.getD_eq_getElem?_getD,List.getElem?_eq_getElem e6]; rfl
 ·obtain ⟨id,f1,f2⟩:=A.inw x d e2 e3
  refine ⟨id,_,f1,e5,s.inw x,Zai f2,rfl,?_⟩
  unfold rdX
  rw [e1]
  simp only
  rw [List.getD_eq_getElem?_getD,List.getElem?_eq_getElem e5]; rfl
namespace YtljoifdccjcidaaDoor
section
variable {h:H} {K:Out→H→Prop} {p:Prg} {L:Ik} {s:RS}
theorem truthI {b:Bool} (hK:K (.ret (W (Zc5 (b=true)))) h):R 62 [.bool b] h K:=by
 refine run62 (Nat.le_of_ble_eq_true rfl) ?_
 cases b with
 | false =>
  simp -dsimp -implicitDefEqProofs only [↓STP,STQ,seval,ir62]
  exact hK
 | true =>
  simp -dsimp -implicitDefEqProofs only [↓STP,STQ,seval,ir62]
  exact hK
def SpV (p:Prg) (e:Exp):Prop:=∀ (σ:TE) (L:Ik) (s:RS) (h:H) (K:Out→H→Prop) (r:Kn) (m:Nat),AtI p L s h→AgE p σ s→EOkT p σ→Zcj p σ e=.ok (r,m)→K (.ret (W (valX p s e))) h→R 44 [.ptr L.x 0,e.v] h K
theorem Zjw (hp:PV p) (e:Exp):∀ lv,VE e lv→EOk e→SpV p e:=by
 induction e using Exp.ind with
 | h k o n x ks ih =>
  intro lv hv okE σ L s h K r m A ag okt ht hK
  obtain ⟨v1,v2,v3,v4,v5,v6,v7,v8,v9⟩:=VE_mk.1 hv
  obtain ⟨hk,ho,hn,hs,hl,hks⟩:=Zi2 okE
  obtain ⟨l,ml,t1,t2⟩:=Zku ht
  have vf:=Zf3 ag okt t1
  have ka:=Zem t1
  obtain ⟨kl,km,kn⟩:=Zb7 hp okt v9 l ml t1
  have rk:=(Zgj hp okt _ lv hv r m ht).1
  have rf:=Zmq ag okt _ r m ht
  have rlt:=rf.lt rk
  have gx:=Zai A.x
  rw [Zh8] at hK rf rlt
  unfold valOf at hK rf rlt
  have hkk:k=1∨k=2∨k=3∨k=4∨k=5∨k=6:=by
   unfold Zbs at v2
   repeat' split at v2
   all_goals omega
  have f0:=vf.nth 0
  have f1:=vf.nth 1
  have l0:=f0.lt (Zbl kl 0)
  have l1:=f1.lt (Zbl kl 1)
  unfold Zgt at t2
  refine run44 (Nat.le_of_ble_eq_true rfl) ?_
  rcases hkk with rfl | rfl | rfl | rfl | rfl | rfl
  ·rw [if_pos rfl] at hK
   simp -dsimp -implicitDefEqProofs only [↓STP,STQ,seval,Exp.v_mk,ir44]
   exact hK
  ·rw [if_neg (by decide),if_pos rfl] at hK t2
   obtain ⟨ver,hvv⟩:=A.v
   obtain ⟨v,e1,e2⟩:=ag.name t2
   have e3:Zaf x L.es=some v:=by rw [A.es,e1]
   rw [e1,Option.getD_some] at hK
   simp -dsimp -implicitDefEqProofs only [↓STP,STQ,seval,Exp.v_mk,ir44,gx,Zd4 hvv,e3,Zay,getD_some,wV]
   exact hK
  ·rw [if_neg (by decide),if_neg (by decide),if_pos rfl] at hK t2
   obtain ⟨e0,rfl⟩:=len1 (l:=ks) (by have:Zbs 3=1:=rfl; omega)
   obtain ⟨r0,m0',q0⟩:=ka e0 (by simp)
   obtain ⟨id,len,g1,g2,ws,g3,g4,g5⟩:=A.index ag okt f0 t2
   have g6:(Ws ws)[valX p s e0]?=some (W (rdX p s x (valX p s e0))):=by rw [Zmn]; rw [show ws[valX p s e0]?=some (rdX p s x (valX p s e0)) from g5]; rfl
   have g2:valX p s e0 < len:=g2
   have hK:K (.ret (W (rdX p s x (valX p s e0)))) h:=hK
   obtain ⟨ver,hw⟩:=A.w
   simp -dsimp -implicitDefEqProofs only [↓STP,STQ,seval,Exp.v_mk,ir44,gx,Zd4 hw,g1,Zay,getD_some,refV,List.map_cons,List.map_nil,Exp.v_clen,Exp.v_tk,Exp.v_ag,Exp.v_out]
   refine ih e0 (by simp) _ (v9 e0 (by simp)) (hks e0 (by simp)) σ L s h _ r0 m0' A ag okt q0 ?_
   simp -dsimp -implicitDefEqProofs only [↓STP,STQ,seval,gx,Zd4 hw,g1,g3,g6,Zay,getD_some,refV,Int.ofNat_lt,g2,Nat.mul_one]
   exact hK
  ·rw [if_neg (by decide),if_neg (by decide),if_neg (by decide),if_pos rfl] at hK rf rlt t2
   obtain ⟨e0,e1,rfl⟩:=len2 (l:=ks) (by have:Zbs 4=2:=rfl; omega)
   obtain ⟨r0,m0',q0⟩:=ka e0 (by simp)
   obtain ⟨r1,m1',q1⟩:=ka e1 (by simp)
   obtain ⟨o1,o7⟩:=v5 rfl
   have hK:K (.ret (W (opX o (valX p s e0) (valX p s e1)))) h:=hK
   have rlt:opX o (valX p s e0) (valX p s e1) < 1152921504606846976:=rlt
   have l0:valX p s e0 < 1152921504606846976:=l0
   have l1:valX p s e1 < 1152921504606846976:=l1
   have kk:(nthK l 0).kind=Zbt o∧(nthK l 1).kind=Zbt o:=by
    unfold opK at t2
    split at t2
    ·cases t2
    ·rename_i hc
     exact ⟨Decidable.byContradiction fun q=>hc (.inl q),Decidable.byContradiction fun q=>hc (.inr q)⟩
   have b0:Zbt o=2→valX p s e0 ≤ 1:=fun hh=>f0.boo (kk.1.trans hh)
   have b1:Zbt o=2→valX p s e1 ≤ 1:=fun hh=>f1.boo (kk.2.trans hh)
   simp -dsimp -implicitDefEqProofs only [↓STP,STQ,seval,Exp.v_mk,ir44,List.map_cons,List.map_nil,Exp.v_clen,Exp.v_tk,Exp.v_ag,Exp.v_out]
   refine ih e0 (by simp) _ (v9 e0 (by simp)) (hks e0 (by simp)) σ L s h _ r0 m0' A ag okt q0 ?_
   simp -dsimp -implicitDefEqProofs only [↓STP,STQ,seval,List.map_cons,List.map_nil,Exp.v_clen,Exp.v_tk,Exp.v_ag,Exp.v_out]
   refine ih e1 (by simp) _ (v9 e1 (by simp)) (hks e1 (by simp)) σ L s h _ r1 m1' A ag okt q1 ?_
   generalize valX p s e0=a at *
   generalize valX p s e1=b at *
   have oo:o=1∨o=2∨o=3∨o=4∨o=5∨o=6∨o=7:=by omega
   rcases oo with rfl | rfl | rfl | rfl | rfl | rfl | rfl
   ·rw [opX_1] at hK rlt
    have w:=wuadd (show a + b < 18446744073709551616 by omega)
    simp -dsimp -implicitDefEqProofs only [↓STP,STQ,seval,w]
    exact hK
   ·rw [opX_2] at hK
    have hm:(if (b:Int) < (a:Int) then (b:Int) else (a:Int))=((min a b:Nat):Int):=by split <;> omega
    have w:IntKind.u64.wrap ((a:Int) - ((min a b:Nat):Int))=((a - b:Nat):Int):=by rw [Zaq] <;> omega
    simp -dsimp -implicitDefEqProofs only [↓STP,STQ,seval,minV_two,hm,w]
    exact hK
   ·rw [opX_3] at hK rlt
    have w:IntKind.u64.wrap ((a:Int) * (b:Int))=((a * b:Nat):Int):=by rw [← Int.natCast_mul,Zaq] <;> omega
    simp -dsimp -implicitDefEqProofs only [↓STP,STQ,seval,w]
    exact hK
   ·rw [opX_4] at hK
    simp -dsimp -implicitDefEqProofs only [↓STP,STQ,seval]
    refine truthI ?_
    simp -dsimp -implicitDefEqProofs only [↓STP,STQ,seval]
    rw [show Zc5 (decide ((a:Int) < (b:Int))=true)=Zc5 (a < b) by unfold Zc5; simp]
    exact hK
   ·rw [opX_5] at hK
    simp -dsimp -implicitDefEqProofs only [↓STP,STQ,seval]
    refine truthI ?_
    simp -dsimp -implicitDefEqProofs only [↓STP,STQ,seval]
    rw [show Zc5 (decide ((a:Int)=(b:Int))=true)=Zc5 (a=b) by unfold Zc5; simp [Int.ofNat_inj]]
    exact hK
   ·rw [opX_6] at hK
    have w:=W_and (b0 rfl) (b1 rfl)
    simp -dsimp -implicitDefEqProofs only [↓STP,STQ,seval,w]
    exact hK
   ·rw [opX_7] at hK
    have w:=W_or (b0 rfl) (b1 rfl)
    simp -dsimp -implicitDefEqProofs only [↓STP,STQ,seval,w]
    exact hK
  ·rw [if_neg (by decide),if_neg (by decide),if_neg (by decide),if_neg (by decide),if_pos rfl] at hK t2
   obtain ⟨e0,rfl⟩:=len1 (l:=ks) (by have:Zbs 5=1:=rfl; omega)
   obtain ⟨r0,m0',q0⟩:=ka e0 (by simp)
   have b0:valX p s e0 ≤ 1:=by
    refine f0.boo ?_
    split at t2
    ·cases t2
    ·rename_i hc; exact Decidable.byContradiction hc
   have hK:K (.ret (W (1 - valX p s e0))) h:=hK
   have w1:IntKind.u64.wrap (1 - (valX p s e0:Int))=((1 - valX p s e0:Nat):Int):=by rw [Zaq] <;> omega
   simp -dsimp -implicitDefEqProofs only [↓STP,STQ,seval,Exp.v_mk,ir44,List.map_cons,List.map_nil,Exp.v_clen,Exp.v_tk,Exp.v_ag,Exp.v_out]
   refine ih e0 (by simp) _ (v9 e0 (by simp)) (hks e0 (by simp)) σ L s h _ r0 m0' A ag okt q0 ?_
   simp -dsimp -implicitDefEqProofs only [↓STP,STQ,seval,w1]
   exact hK
  ·rw [if_neg (by decide),if_neg (by decide),if_neg (by decide),if_neg (by decide),if_neg (by decide)] at hK
   obtain ⟨e0,e1,e2,rfl⟩:=len3 (l:=ks) (by have:Zbs 6=3:=rfl; omega)
   obtain ⟨r0,m0',q0⟩:=ka e0 (by simp)
   obtain ⟨r1,m1',q1⟩:=ka e1 (by simp)
   obtain ⟨r2,m2',q2⟩:=ka e2 (by simp)
   have hK:K (.ret (W (if valX p s e0=1 then valX p s e1 else valX p s e2))) h:=hK
   simp -dsimp -implicitDefEqProofs only [↓STP,STQ,seval,Exp.v_mk,ir44,List.map_cons,List.map_nil,Exp.v_clen,Exp.v_tk,Exp.v_ag,Exp.v_out]
   refine ih e0 (by simp) _ (v9 e0 (by simp)) (hks e0 (by simp)) σ L s h _ r0 m0' A ag okt q0 ?_
   by_cases c:valX p s e0=1
   ·rw [if_pos c] at hK
    have c':((valX p s e0:Nat):Int)=1:=by omega
    simp -dsimp -implicitDefEqProofs only [↓STP,STQ,seval,eq_true c',List.map_cons,List.map_nil,Exp.v_clen,Exp.v_tk,Exp.v_ag,Exp.v_out]
    refine ih e1 (by simp) _ (v9 e1 (by simp)) (hks e1 (by simp)) σ L s h _ r1 m1' A ag okt q1 ?_
    simp -dsimp -implicitDefEqProofs only [↓STP,STQ,seval]
    exact hK
   ·rw [if_neg c] at hK
    have c':¬ ((valX p s e0:Nat):Int)=1:=by omega
    simp -dsimp -implicitDefEqProofs only [↓STP,STQ,seval,eq_false c',List.map_cons,List.map_nil,Exp.v_clen,Exp.v_tk,Exp.v_ag,Exp.v_out]
    refine ih e2 (by simp) _ (v9 e2 (by simp)) (hks e2 (by simp)) σ L s h _ r2 m2' A ag okt q2 ?_
    simp -dsimp -implicitDefEqProofs only [↓STP,STQ,seval]
    exact hK
end
end YtljoifdccjcidaaDoor
end Go.Ab
namespace Go.Ab
theorem Grow.same {h h':H} {sz j:Nat} {css:List (List V)} {v:V} (g:Grow h sz css j v) (e:h'.objs j=h.objs j):Grow h' sz css j v:=g.frame fun _=>e
theorem AtI.vars {p:Prg} {L:Ik} {s:RS} {h h':H} (A:AtI p L s h) (hn:h'.next=h.next) (same:∀ j,j ≠ L.v→h'.objs j=h.objs j) {es':List (ByteArray × Nat)} (hv:∃ ver,h'.objs L.v=some (.map (mapO wV es') ver)) {vars':ByteArray→Option Nat} (he:∀ y,Zaf y es'=vars' y) (hk:(es'.map (·.1)).Nodup) :
  AtI p { L with es:=es' } { s with vars:=vars' } h'∧FrI L { L with es:=es' } h h':=by
 obtain ⟨⟨xv,xw,xt,xn⟩,⟨vw,vt,vn⟩,⟨wt,wn⟩,tn,_⟩:=Ik.dist A.nd
 refine ⟨⟨?_,hv,?_,he,hk,fun i d hd=>?_,fun y d hd hz=>?_,A.told.same (same _ vt.symm),A.wsn,A.nd,fun id hi=>by rw [hn]; exact A.lt id hi⟩,⟨Nat.le_of_eq hn.symm,rfl,fun id _ hno=>same id fun e=>hno (by rw [e]; exact Ik.mem.2.1),fun id hi=>.inl hi⟩⟩
 ·show h'.objs L.x=_; rw [same _ xv]; exact A.x
 ·show ∃ ver,h'.objs L.w=_; rw [same _ vw.symm]; exact A.w
 ·obtain ⟨id,ws,a,b,c⟩:=A.ars i d hd
  exact ⟨id,ws,a,b,by rw [same _ (fun e=>vn (e ▸ (Ik.ws_mem b).1))]; exact c⟩
 ·obtain ⟨id,b,c⟩:=A.inw y d hd hz
  exact ⟨id,b,by rw [same _ (fun e=>vn (e ▸ (Ik.ws_mem b).1))]; exact c⟩
theorem AtI.put {p:Prg} {L:Ik} {s:RS} {h:H} (A:AtI p L s h) (y:ByteArray) (n:Nat):∃ ver',mupV h .s (.map L.v) (.str y) (W n)=some (h.set L.v (.map (mapO wV (setE y n L.es)) ver')) ∧
  AtI p { L with es:=setE y n L.es } { s with vars:=setM s.vars y (some n) } (h.set L.v (.map (mapO wV (setE y n L.es)) ver'))∧FrI L { L with es:=setE y n L.es } h (h.set L.v (.map (mapO wV (setE y n L.es)) ver')):=by
 obtain ⟨ver,hv⟩:=A.v
 obtain ⟨ver',hup⟩:=Ze9 (f:=wV) (s:=y) (v:=n) hv
 exact ⟨ver',hup,A.vars (h':=h.set L.v (.map (mapO wV (setE y n L.es)) ver')) rfl (fun j hj=>by rw [Zaa,if_neg hj]) (es':=setE y n L.es) ⟨ver',by rw [Zaa,if_pos rfl]⟩ (fun t=>by rw [Zcx,A.es]; rfl) (Zee A.esn)⟩
theorem AtI.del {p:Prg} {L:Ik} {s:RS} {h:H} (A:AtI p L s h) (y:ByteArray):∃ h',mdelV h .s (.map L.v) (.str y)=some h' ∧
  AtI p { L with es:=delE y L.es } { s with vars:=setM s.vars y none } h'∧FrI L { L with es:=delE y L.es } h h':=by
 obtain ⟨ver,hv⟩:=A.v
 obtain ⟨h',hmd,n1,s1,v1⟩:=mdel_ok (s:=y) hv
 exact ⟨h',hmd,A.vars n1 s1 v1 (fun t=>by rw [Zgg A.esn,A.es]; rfl) (List.Nodup.sublist Zi9 A.esn)⟩
theorem nodup_inj {α β:Type} {f:α→β}:∀ {l:List α},(l.map f).Nodup→∀ {x y:α},x ∈ l→y ∈ l→f x=f y→x=y
 | a :: l,h,x,y,hx,hy,e=>by
  rw [List.map_cons,List.nodup_cons] at h
  rcases List.mem_cons.1 hx with g1 | g1
  ·rcases List.mem_cons.1 hy with g2 | g2
   ·rw [g1,g2]
   ·exact absurd (List.mem_map.2 ⟨y,g2,by rw [← e,g1]⟩) h.1
  ·rcases List.mem_cons.1 hy with g2 | g2
   ·exact absurd (List.mem_map.2 ⟨x,g1,by rw [e,g2]⟩) h.1
   ·exact nodup_inj h.2 g1 g2 e
theorem Zhu {a b:Nat} {l:List Nat} (h:a ∉ l) (hb:b ∈ l):b ≠ a:=fun e=>h (e ▸ hb)
theorem Zga {α β:Type} {f:α→β}:∀ {l:List α},(l.map f).Nodup→∀ {i j:Nat} {x y:α},l[i]?=some x→l[j]?=some y→f x=f y→i=j
 | a :: l,h,0,0,x,y,hx,hy,e=>rfl
 | a :: l,h,i + 1,0,x,y,hx,hy,e=>by
  rw [List.map_cons,List.nodup_cons] at h
  simp at hx hy
  exact absurd (List.mem_map.2 ⟨x,List.mem_of_getElem? hx,by rw [e,hy]⟩) h.1
 | a :: l,h,0,j + 1,x,y,hx,hy,e=>by
  rw [List.map_cons,List.nodup_cons] at h
  simp at hx hy
  exact absurd (List.mem_map.2 ⟨y,List.mem_of_getElem? hy,by rw [← e,hx]⟩) h.1
 | a :: l,h,i + 1,j + 1,x,y,hx,hy,e=>by
  rw [List.map_cons,List.nodup_cons] at h
  simp at hx hy
  rw [Zga h.2 hx hy e]
theorem nodup_ids {ws:List (ByteArray × Nat × Nat)} (h:(ws.map fun r=>r.2.1).Nodup) {a b:ByteArray} {i j n m:Nat} (ha:Zaf a ws=some (i,n)) (hb:Zaf b ws=some (j,m)) (hab:a ≠ b):i ≠ j:=fun e=>by
 have h3:=nodup_inj h (Za8 ha) (Za8 hb) e
 cases h3
 exact hab rfl
theorem Ws_set {l:List Nat} {i n:Nat}:(Ws l).set i (W n)=Ws (l.set i n):=by simp [Ws,List.map_set]
theorem AtI.word {p:Prg} (hp:PV p) {L:Ik} {s:RS} {h:H} (A:AtI p L s h) {j:Nat} {d:ArD} {ws:List Nat} {id n v:Nat} (hd:p.arrays[j]?=some d) (hj:s.words[j]?=some ws) (hf:Zaf d.name L.ws=some (id,ws.length)) :
  AtI p L { s with words:=setW s.words j n v } (h.set id (.cells (Ws (ws.set n v))))∧FrI L L h (h.set id (.cells (Ws (ws.set n v)))):=by
 obtain ⟨⟨xv,xw,xt,xn⟩,⟨vw,vt,vn⟩,⟨wt,wn⟩,tn,wnd⟩:=Ik.dist A.nd
 have hm:=Ik.ws_mem hf
 have ne:∀ {i:Nat},i ∉ L.ws.map (fun r=>r.2.1)→i ≠ id:=fun hn e=>hn (e ▸ hm.1)
 refine ⟨⟨?_,?_,?_,A.es,A.esn,fun i e he=>?_,fun y e he hz=>?_,A.told.same (by rw [Zaa,if_neg (ne tn)]),A.wsn,A.nd,A.lt⟩,⟨Nat.le_refl _,rfl,fun i _ hno=>by rw [Zaa,if_neg (fun e=>hno (by rw [e]; exact hm.2))],fun i hi=>.inl hi⟩⟩
 ·rw [Zaa,if_neg (ne xn)]; exact A.x
 ·rw [Zaa,if_neg (ne vn)]; exact A.v
 ·rw [Zaa,if_neg (ne wn)]; exact A.w
 ·by_cases c:i=j
  ·subst c
   rw [hd] at he; cases he
   refine ⟨id,ws.set n v,?_,by rw [List.length_set]; exact hf,by rw [Zaa,if_pos rfl]⟩
   show (setW s.words i n v)[i]?=_
   rw [Zex,if_pos rfl,hj]; rfl
  ·obtain ⟨id',ws',a,b,q⟩:=A.ars i e he
   have hne:e.name ≠ d.name:=fun en=>by
    exact c (Zga (List.nodup_append.1 hp.nm).2.1 he hd en)
   refine ⟨id',ws',?_,b,by rw [Zaa,if_neg (nodup_ids wnd b hf hne)]; exact q⟩
   show (setW s.words j n v)[i]?=_
   rw [Zex,if_neg c]; exact a
 ·obtain ⟨id',b,q⟩:=A.inw y e he hz
  have hne:y ≠ d.name:=fun en=>by
   obtain ⟨m1,m2⟩:=Zcn he
   exact (List.nodup_append.1 hp.nm).2.2 e.name (List.mem_map.2 ⟨e,m1,rfl⟩) d.name (List.mem_map.2 ⟨d,List.mem_of_getElem? hd,rfl⟩) (m2.trans en)
  exact ⟨id',b,by rw [Zaa,if_neg (nodup_ids wnd b hf hne)]; exact q⟩
theorem AtI.tell {p:Prg} {L:Ik} {s:RS} {h:H} (A:AtI p L s h) (n:Nat) (hl:s.told.length < 1000000) :
  ∃ h1:H,(∀ (st:S) (q:Nat) (ag:Bool) (c2:Cap),st.h=h→appV st q L.tv (.vec [W n] c2) 1 8 ag true=some (.ref h.next 0 (s.told.length + 1) 1,st.withH h1))∧h1.objs L.x=some (.cells [.map L.v,.map L.w,L.tv]) ∧
   AtI p { L with t:=h.next,tv:=.ref h.next 0 (s.told.length + 1) 1 } { s with told:=s.told ++ [n] } (h1.set L.x (.cells [.map L.v,.map L.w,.ref h.next 0 (s.told.length + 1) 1])) ∧
   FrI L { L with t:=h.next,tv:=.ref h.next 0 (s.told.length + 1) 1 } h (h1.set L.x (.cells [.map L.v,.map L.w,.ref h.next 0 (s.told.length + 1) 1])):=by
 obtain ⟨⟨xv,xw,xt,xn⟩,⟨vw,vt,vn⟩,⟨wt,wn⟩,tn,wnd⟩:=Ik.dist A.nd
 obtain ⟨h1,a1,a2,a3,a4⟩:=grow_app (bytes:=8) (el:=W n) A.told rfl (by decide) (by decide) (by rw [List.length_map]; exact hl)
 rw [List.length_map] at a1 a2
 have lx:=A.lt L.x Ik.mem.1
 have lv:=A.lt L.v Ik.mem.2.1
 have lw:=A.lt L.w Ik.mem.2.2.1
 have lt:=A.lt L.t Ik.mem.2.2.2
 have same:∀ i,i < h.next→i ≠ L.t→h1.objs i=h.objs i:=fun i hi hne=>a4 i hi fun _=>hne
 refine ⟨h1,a1,by rw [same _ lx xt]; exact A.x,⟨by rw [Zaa,if_pos rfl],?_,?_,A.es,A.esn,fun i d hd=>?_,fun y d hd hz=>?_,?_,A.wsn,?_,fun id hi=>?_⟩,⟨by rw [Zax,a3]; omega,rfl,fun id hl hno=>?_,fun id hi=>?_⟩⟩
 ·show ∃ ver,(h1.set L.x _).objs L.v=_
  rw [Zaa,if_neg xv.symm,same _ lv vt]; exact A.v
 ·show ∃ ver,(h1.set L.x _).objs L.w=_
  rw [Zaa,if_neg xw.symm,same _ lw wt]; exact A.w
 ·obtain ⟨id,ws,a,b,c⟩:=A.ars i d hd
  have hm:=Ik.ws_mem b
  exact ⟨id,ws,a,b,by rw [Zaa,if_neg (Zhu xn hm.1),same _ (A.lt id hm.2) (Zhu tn hm.1)]; exact c⟩
 ·obtain ⟨id,b,c⟩:=A.inw y d hd hz
  have hm:=Ik.ws_mem b
  exact ⟨id,b,by rw [Zaa,if_neg (Zhu xn hm.1),same _ (A.lt id hm.2) (Zhu tn hm.1)]; exact c⟩
 ·have e:(s.told ++ [n]).map (fun n=>[W n])=s.told.map (fun n=>[W n]) ++ [V.cells (W n)]:=by rw [List.map_append]; rfl
  show Grow _ 1 ((s.told ++ [n]).map fun n=>[W n]) h.next _
  rw [e]
  exact a2.same (by rw [Zaa,if_neg (by omega)])
 ·have hw:∀ i ∈ L.ws.map (fun r=>r.2.1),i < h.next:=fun i hi=>A.lt i (by unfold Ik.own; exact List.mem_append_right _ hi)
  show (Ik.own { L with t:=h.next,tv:=.ref h.next 0 (s.told.length + 1) 1 }).Nodup
  simp only [Ik.own,List.cons_append,List.nil_append,List.nodup_cons,List.mem_cons,not_or]
  exact ⟨⟨xv,xw,by omega,xn⟩,⟨vw,by omega,vn⟩,⟨by omega,wn⟩,fun hh=>absurd (hw _ hh) (Nat.lt_irrefl _),wnd⟩
 ·have hi:id ∈ Ik.own { L with t:=h.next,tv:=.ref h.next 0 (s.told.length + 1) 1 }:=hi
  rw [Zax,a3]
  simp only [Ik.own,List.cons_append,List.nil_append,List.mem_cons] at hi
  rcases hi with e | e | e | e | e
  ·omega
  ·omega
  ·omega
  ·omega
  ·have:=A.lt id (by unfold Ik.own; exact List.mem_append_right _ e); omega
 ·rw [Zaa,if_neg (fun e=>hno (by rw [e]; exact Ik.mem.1)),same id hl (fun e=>hno (by rw [e]; exact Ik.mem.2.2.2))]
 ·have hi:id ∈ Ik.own { L with t:=h.next,tv:=.ref h.next 0 (s.told.length + 1) 1 }:=hi
  simp only [Ik.own,List.cons_append,List.nil_append,List.mem_cons] at hi
  rcases hi with e | e | e | e | e
  ·exact .inl (by rw [e]; exact Ik.mem.1)
  ·exact .inl (by rw [e]; exact Ik.mem.2.1)
  ·exact .inl (by rw [e]; exact Ik.mem.2.2.1)
  ·exact .inr (by omega)
  ·exact .inl (by unfold Ik.own; exact List.mem_append_right _ e)
end Go.Ab
namespace Go.Ab
def SpB (R:Za2) (f:FuncId) (p:Prg) (l:List Stm):Prop:=∀ (σ τ:TS) (L:Ik) (s:RS) (h:H) (K:Out→H→Prop),AtI p L s h→Ag p σ s→TOk p σ→Zaj p l σ=.ok τ →
 (∀ L' h',AtI p L' (Za9 p l s) h'→FrI L L' h h'→K (.ret (.tuple [])) h')→R f [.ptr L.x 0,.vec (l.map Stm.v) .any] h K
theorem one_step {p:Prg} (hp:PV p) {x:Stm} {lv:Nat} (hv:VS x lv):Zbz p (Zc4 p x):=fun σ τ ok h=>Zbm hp (l:=[x]) (VSs_all.2 fun y hy=>by rw [List.mem_singleton] at hy; subst hy; exact hv) _ _ ok (by rw [Zj3]; exact h)
namespace YtljoifdccjcidaaDoor
section
variable {K:Out→H→Prop} {p:Prg}
theorem loopI (hp:PV p) {k:Int} {y:ByteArray} {e:List Exp} {a b:List Stm} {lv:Nat} (ha:SpB R 30 p a) (va:VSs a (lv + 1)) (ve:∀ x ∈ e,VE x (lv + 1)) (oke:∀ x ∈ e,EOk x) (el:e.length=2) {σ τ:TS} {L:Ik} {s:RS} {h:H} {l:List Kn} {m:Nat} (A:AtI p L s h) (ag:Ag p σ s) (ok:TOk p σ)
  (he:Za4 p σ.env e=.ok (l,m)) (hf:forT p y l (Zaj p a) σ=.ok τ)
  (hK:∀ L' h',AtI p L' (forX y ((e.map (valX p s)).getD 0 0) ((e.map (valX p s)).getD 1 0) (Za9 p a) s) h'→FrI L L' h h'→K (.ret (.tuple [])) h'):R 45 [.ptr L.x 0,(Stm.mk k y e a b).v] h K:=by
 have vf:=Zf3 ag.env ok.env he
 obtain ⟨kl,km,kn⟩:=Zb7 hp ok.env ve l m he
 have ka:=Zem he
 obtain ⟨e0,e1,rfl⟩:=len2 (l:=e) el
 obtain ⟨r0,m0',q0⟩:=ka e0 (by simp)
 obtain ⟨r1,m1',q1⟩:=ka e1 (by simp)
 obtain ⟨i0,i1,ht,hi⟩:=for_is hf
 have b0:=(vf.nth 0).lt (Zbl kl 0)
 have b1:=(vf.nth 1).lt (Zbl kl 1)
 rw [← (vf.nth 0).is i0,← (vf.nth 1).is i1] at hi
 have hga:Zbz p (Zaj p a):=Zbm hp va
 have hra:RunT p (Zaj p a) (Za9 p a):=Zj2 hp va
 have hi:Zcw (Zfd y (Zaj p a)) (valX p s e1 + 1 - valX p s e0) (valX p s e0) { σ with env:={ σ.env with vars:=setV σ.env.vars y none } }=.ok τ:=hi
 have b0:valX p s e0 < 1152921504606846976:=b0
 have b1:valX p s e1 < 1152921504606846976:=b1
 have hK:∀ L' h',AtI p L' (forX y (valX p s e0) (valX p s e1) (Za9 p a) s) h'→FrI L L' h h'→K (.ret (.tuple [])) h':=hK
 refine run45 (Nat.le_of_ble_eq_true rfl) ?_
 simp -dsimp -implicitDefEqProofs only [↓STP,STQ,seval,Stm.v_mk,ir45,List.map_cons,List.map_nil,Exp.v_clen,Exp.v_tk,Exp.v_ag,Exp.v_out]
 refine Zjw hp e0 _ (ve e0 (by simp)) (oke e0 (by simp)) σ.env L s h _ r0 m0' A ag.env ok.env q0 ?_
 simp -dsimp -implicitDefEqProofs only [↓STP,STQ,seval,List.map_cons,List.map_nil,Exp.v_clen,Exp.v_tk,Exp.v_ag,Exp.v_out]
 refine Zjw hp e1 _ (ve e1 (by simp)) (oke e1 (by simp)) σ.env L s h _ r1 m1' A ag.env ok.env q1 ?_
 have gx:=Zai A.x
 obtain ⟨h1,hmd,A1,F1⟩:=A.del y
 simp -dsimp -implicitDefEqProofs only [↓STP,STQ,seval,gx,hmd]
 obtain ⟨a0,f0,k0⟩:=Zkn ag ok ht
 unfold forX at hK
 generalize valX p s e0=n0 at *
 generalize valX p s e1=n1 at *
 generalize hs1:({ s with vars:=setM s.vars y none }:RS)=s1 at *
 generalize hσ1:({ σ with env:={ σ.env with vars:=setV σ.env.vars y none } }:TS)=σ1 at *
 generalize hL1:({ L with es:=delE y L.es }:Ik)=L1 at *
 generalize htf:Zij (fun n s=>Za9 p a { s with vars:=setM s.vars y (some n) }) (n1 + 1 - n0) n0 s1=tf at *
 refine Zal (fun c s'=>∃ n τ' t L' h',c=n1 + 1 - n∧n ≤ 1152921504606846976∧AtI p L' t h'∧Ag p τ' t∧TOk p τ'∧Free p y σ.env.loops τ'∧FrI L L' h h'∧Zcw (Zfd y (Zaj p a)) (n1 + 1 - n) n τ'=.ok τ∧Zij (fun n s=>Za9 p a { s with vars:=setM s.vars y (some n) }) (n1 + 1 - n) n t=tf ∧
  s'=⟨upd (upd (upd (upd ρ0 0 (.ptr L.x 0)) 3 (.lptr 0 5 0)) 5 (W n1)) 6 (W n),upd m0 0 (some [I k,.str y,.vec [e0.v,e1.v] .any,.vec (a.map Stm.v) .any,.vec (b.map Stm.v) .any]),1,[],h'⟩)
  (i:=n1 + 1 - n0) ⟨n0,σ1,s1,L1,h1,rfl,by omega,A1,a0,k0,f0,F1,hi,htf,by simp -dsimp -implicitDefEqProofs only [↓STP,STQ,seval] <;> rfl⟩ ?_ mono
 rintro c s' ⟨n,τ',t,L',h',rfl,hn,A',ag',ok',fr',F',hi',ht',rfl⟩
 have gx':=Zai A'.x
 rw [F'.x] at gx'
 by_cases hle:n ≤ n1
 ·have hle':((n:Nat):Int) ≤ ((n1:Nat):Int):=by omega
  obtain ⟨ver',hup,A2,F2⟩:=A'.put y n
  simp -dsimp -implicitDefEqProofs only [↓STP,STQ,seval,eq_true hle',gx',hup]
  rw [show n1 + 1 - n=(n1 + 1 - (n + 1)) + 1 by omega,Zcw] at hi'
  rw [show n1 + 1 - n=(n1 + 1 - (n + 1)) + 1 by omega,Zij] at ht'
  obtain ⟨ρ,w1,w2⟩:=Zao hi'
  have tk:=turn_run (x:=y) hra hga (by omega) τ' ρ t ok' fr' ag' w1
  unfold Zfd at w1
  obtain ⟨τ1,u1,w1⟩:=Zao w1
  obtain ⟨τ2,u2,w1⟩:=Zao w1
  obtain ⟨rfl,k1⟩:=Zcz ok' u1
  have oke':=turn_ext (x:=y) (n:=n) k1.ok (by omega)
  have ag2:Ag p ({ τ' with steps:=τ'.steps + 1,env:={ τ'.env with loops:=τ'.env.loops ++ [(y,n)] } }:TS) { t with vars:=setM t.vars y (some n) }:=⟨AgE.turn fr' ag'.env,ag'.told,Nat.le_trans ag'.few (Nat.le_succ _)⟩
  have okρ:TOk p ρ:=(Zi7 hga (n:=n) (by omega) _ _ ok' (by unfold Zfd; rw [u1,Zat,u2,Zat]; exact w1)).ok
  rw [← F'.x]
  refine ha _ _ { L' with es:=setE y n L'.es } _ _ _ A2 ag2 oke' u2 fun L3 h3 A3 F3=>?_
  have w:IntKind.u64.wrap ((n:Int) + 1)=((n + 1:Nat):Int):=by rw [Zaq] <;> omega
  simp -dsimp -implicitDefEqProofs only [↓STP,STQ,seval,w]
  exact ⟨n1 + 1 - (n + 1),by omega,n + 1,ρ,_,L3,h3,rfl,by omega,A3,tk.1,okρ,tk.2,(F'.trans F2).trans F3,w2,ht',by rw [F'.x]⟩
 ·have hle':¬ ((n:Nat):Int) ≤ ((n1:Nat):Int):=by omega
  obtain ⟨h2,hmd2,A2,F2⟩:=A'.del y
  rw [show n1 + 1 - n=0 by omega,Zij] at ht'
  subst ht'
  simp -dsimp -implicitDefEqProofs only [↓STP,STQ,seval,eq_false hle',gx',hmd2]
  exact hK _ _ A2 (F'.trans F2)
theorem bodyI_of (hp:PV p) {l:List Stm} {lv:Nat} (hlen:l.length ≤ 9223372036854775807) (ih:∀ x ∈ l,SpB R 30 p x.thn∧SpB R 30 p x.els) (hv:VSs l lv) (okl:∀ x ∈ l,SOk x):SpB R 30 p l:=by
 intro σ τ L s h K A ag ok hs hK
 refine run30 (Nat.le_of_ble_eq_true rfl) ?_
 simp -dsimp -implicitDefEqProofs only [↓STP,STQ,seval,ir30,List.length_map]
 refine Zal (fun c s'=>∃ j τ' L' h',j ≤ l.length∧c=l.length - j∧Zaj p (l.take j) σ=.ok τ'∧TOk p τ'∧AtI p L' (Za9 p (l.take j) s) h'∧Ag p τ' (Za9 p (l.take j) s)∧FrI L L' h h' ∧
  s'=⟨upd (upd (upd (upd ρ0 0 (.ptr L.x 0)) 8 (.vec (l.map Stm.v) .any)) 9 (I l.length)) 10 (I j),m0,0,[],h'⟩) (i:=l.length) ⟨0,σ,L,h,Nat.zero_le _,rfl,by rw [List.take_zero,Zaj],ok,by rw [List.take_zero,Za9]; exact A,by rw [List.take_zero,Za9]; exact ag,FrI.refl _ _,by simp -dsimp -implicitDefEqProofs only [↓STP,STQ,seval] <;> rfl⟩ ?_ mono
 rintro c s' ⟨j,τ',L',h',hj,rfl,hr,ok',A',ag',F',rfl⟩
 rcases Nat.lt_or_ge j l.length with hi | hi
 ·have hget:=Za6 (f:=Stm.v) hi
  have hx:=ih _ (List.getElem_mem hi)
  have hvx:=VSs_all.1 hv _ (List.getElem_mem hi)
  have okx:=okl _ (List.getElem_mem hi)
  have w1:=wiM (show j < 9223372036854775807 by omega)
  have htk:=Zev hi hr
  have htr:=Zlt (p:=p) hi (s:=s)
  have hrest:∃ τ2,Zaj p (l.take (j + 1)) σ=.ok τ2:=by
   have e:l=l.take (j + 1) ++ l.drop (j + 1):=(List.take_append_drop _ _).symm
   rw [e,Zcl] at hs
   obtain ⟨τ2,h1,_⟩:=Zao hs
   exact ⟨τ2,h1⟩
  obtain ⟨τ2,hτ2⟩:=hrest
  have hst:Zc4 p l[j] τ'=.ok τ2:=by rw [← htk]; exact hτ2
  have g1:=one_step hp hvx τ' τ2 ok' hst
  have ag2:=stmt_run hp l[j] _ hvx τ' τ2 _ ok' ag' hst
  rw [← htr] at ag2
  generalize hxe:l[j]=x at *
  obtain ⟨k,y,e,a,b⟩:=x
  obtain ⟨v1,v2,v3,v4,v5,v6,v7,v8,v9,v10,v11⟩:=VS_mk.1 hvx
  obtain ⟨_,_,_,_,_,oke,oka,okb⟩:=Zfc okx
  obtain ⟨lk,m,t1,t2,t3⟩:=stmt_inv hst
  have hga:Zbz p (Zaj p a):=Zbm hp v10
  have hgb:Zbz p (Zaj p b):=Zbm hp v11
  obtain ⟨_,k1⟩:=Zcz ok' t1
  have vf:=Zf3 ag'.env ok'.env t2
  obtain ⟨kl,km,kn⟩:=Zb7 hp ok'.env v9 lk m t2
  have ka:=Zem t2
  have ok1:TOk p { τ' with steps:=τ'.steps + 1,most:=max τ'.most m }:=⟨ok'.env,k1.ok.steps,by have:=ok'.most; show max τ'.most m ≤ 60; omega⟩
  have ag1:Ag p { τ' with steps:=τ'.steps + 1,most:=max τ'.most m } (Za9 p (l.take j) s):=ag'.mono rfl (Nat.le_succ _) (Nat.le_max_left _ _)
  have hx1:SpB R 30 p a:=hx.1
  have hx2:SpB R 30 p b:=hx.2
  have gx':=Zai A'.x
  have gx0:=gx'
  rw [F'.x] at gx0
  rw [runX_mk] at htr
  unfold run1 at htr
  unfold Zfe at t3
  have kk:k=1∨k=2∨k=3∨k=4∨k=5:=by omega
  have hll:0 < e.length:=by rw [v4]; split <;> decide
  have hend:∀ {L2:Ik} {h2:H},AtI p L2 (Za9 p (l.take (j + 1)) s) h2→FrI L' L2 h' h2→∃ (c:Nat),c < l.length - j∧∃ j' τ'' L'' h'',j' ≤ l.length∧c=l.length - j'∧Zaj p (l.take j') σ=.ok τ''∧TOk p τ''∧AtI p L'' (Za9 p (l.take j') s) h''∧Ag p τ'' (Za9 p (l.take j') s)∧FrI L L'' h h'' ∧
    (⟨upd (upd (upd (upd ρ0 0 (.ptr L.x 0)) 8 (.vec (l.map Stm.v) .any)) 9 (I l.length)) 10 (I ((j + 1:Nat):Int)),m0,0,[],h2⟩:S)=⟨upd (upd (upd (upd ρ0 0 (.ptr L.x 0)) 8 (.vec (l.map Stm.v) .any)) 9 (I l.length)) 10 (I j'),m0,0,[],h''⟩:=fun A2 F2=>⟨l.length - (j + 1),by omega,j + 1,τ2,_,_,hi,rfl,hτ2,g1.ok,A2,ag2,F'.trans F2,rfl⟩
  generalize Za9 p (l.take j) s=t at *
  generalize Za9 p (l.take (j + 1)) s=t2' at *
  rcases kk with rfl | rfl | rfl | rfl | rfl
  ·rw [if_pos rfl] at htr
   obtain ⟨e0,rfl⟩:=len1 (l:=e) (by rw [v4]; decide)
   obtain ⟨r0,m0',q0⟩:=ka e0 (by simp)
   simp -dsimp -implicitDefEqProofs only [↓STP,STQ,seval,Int.ofNat_lt,hi,hget,Zae,Stm.v_mk,gx0,List.map_cons,List.map_nil,Exp.v_clen,Exp.v_tk,Exp.v_ag,Exp.v_out]
   rw [← F'.x]
   refine Zjw hp e0 _ (v9 e0 (by simp)) (oke e0 (by simp)) τ'.env L' t h' _ r0 m0' A' ag'.env ok'.env q0 ?_
   obtain ⟨ver',hup,A2,F2⟩:=A'.put y (valX p t e0)
   simp -dsimp -implicitDefEqProofs only [↓STP,STQ,seval,gx',hup,w1]
   rw [F'.x]
   exact hend (by rw [htr]; exact A2) F2
  ·rw [if_neg (by decide),if_pos rfl] at htr t3
   obtain ⟨e0,e1,rfl⟩:=len2 (l:=e) (by rw [v4]; decide)
   obtain ⟨r0,m0',q0⟩:=ka e0 (by simp)
   obtain ⟨r1,m1',q1⟩:=ka e1 (by simp)
   simp -dsimp -implicitDefEqProofs only [↓STP,STQ,seval,Int.ofNat_lt,hi,hget,Zae,Stm.v_mk,gx0,List.map_cons,List.map_nil,Exp.v_clen,Exp.v_tk,Exp.v_ag,Exp.v_out]
   rw [← F'.x]
   refine Zjw hp e0 _ (v9 e0 (by simp)) (oke e0 (by simp)) τ'.env L' t h' _ r0 m0' A' ag'.env ok'.env q0 ?_
   simp -dsimp -implicitDefEqProofs only [↓STP,STQ,seval,List.map_cons,List.map_nil,Exp.v_clen,Exp.v_tk,Exp.v_ag,Exp.v_out]
   refine Zjw hp e1 _ (v9 e1 (by simp)) (oke e1 (by simp)) τ'.env L' t h' _ r1 m1' A' ag'.env ok'.env q1 ?_
   obtain ⟨jj,d,f1,f2,f3,f4,f5,f6,rfl⟩:=Zj1 t3
   obtain ⟨id,ws,b1,b2,b3⟩:=A'.ars jj d f2
   have hv0:=(vf.nth 0).is f4
   have hv0:valX p t e0=(nthK lk 0).val:=hv0
   have jl1:jj < τ'.env.words.length:=by rw [ok'.env.wlen]; exact (List.getElem?_eq_some_iff.1 f2).1
   have hlw:=(ag'.env.words jj _ _ (List.getElem?_eq_getElem jl1) b1).1
   have hlz:=(ok'.env.words jj _ d (List.getElem?_eq_getElem jl1) f2).1
   have hlt:valX p t e0 < ws.length:=by omega
   have hltI:((valX p t e0:Nat):Int) < ((ws.length:Nat):Int):=by omega
   obtain ⟨ver,hw⟩:=A'.w
   obtain ⟨A2,F2⟩:=A'.word hp (n:=valX p t e0) (v:=valX p t e1) f2 b1 b2
   rw [f3] at b2
   rw [f1] at htr
   have stw:=fun ρ m n' u=>Zbv (ρ:=ρ) (m:=m) (n:=n') (u:=u) (j:=valX p t e0) (v:=W (valX p t e1)) (Zai b3) (by rw [Za7]; exact hlt) rfl rfl
   rw [Ws_set] at stw
   simp -dsimp -implicitDefEqProofs only [↓STP,STQ,seval,gx',Zd4 hw,b2,Zay,getD_some,refV,eq_true hltI,Nat.mul_one,stw,w1]
   rw [F'.x]
   exact hend (by rw [htr]; exact A2) F2
  ·rw [if_neg (by decide),if_neg (by decide),if_pos rfl] at htr t3
   obtain ⟨e0,rfl⟩:=len1 (l:=e) (by rw [v4]; decide)
   obtain ⟨r0,m0',q0⟩:=ka e0 (by simp)
   unfold ifT at t3
   split at t3
   ·cases t3
   obtain ⟨σ1,h1,t3⟩:=Zao t3
   obtain ⟨σ2,h2,t3⟩:=Zao t3
   have k1':=hga { ({ τ' with steps:=τ'.steps + 1,most:=max τ'.most m }:TS) with ifs:=τ'.ifs + 1 } _ ⟨ok1.env,ok1.steps,ok1.most⟩ h1
   simp -dsimp -implicitDefEqProofs only [↓STP,STQ,seval,Int.ofNat_lt,hi,hget,Zae,Stm.v_mk,gx0,List.map_cons,List.map_nil,Exp.v_clen,Exp.v_tk,Exp.v_ag,Exp.v_out]
   rw [← F'.x]
   refine Zjw hp e0 _ (v9 e0 (by simp)) (oke e0 (by simp)) τ'.env L' t h' _ r0 m0' A' ag'.env ok'.env q0 ?_
   have htr:t2'=if valX p t e0=1 then Za9 p a t else Za9 p b t:=htr
   by_cases c:valX p t e0=1
   ·have c':((valX p t e0:Nat):Int)=1:=by omega
    rw [if_pos c] at htr
    simp -dsimp -implicitDefEqProofs only [↓STP,STQ,seval,eq_true c']
    refine hx1 { ({ τ' with steps:=τ'.steps + 1,most:=max τ'.most m }:TS) with ifs:=τ'.ifs + 1 } _ L' t h' _ A' ⟨ag1.env,ag1.told,ag1.few⟩ ⟨ok1.env,ok1.steps,ok1.most⟩ h1 fun L2 h2 A2 F2=>?_
    simp -dsimp -implicitDefEqProofs only [↓STP,STQ,seval,w1]
    rw [F'.x]
    exact hend (by rw [htr]; exact A2) F2
   ·have c':¬ ((valX p t e0:Nat):Int)=1:=by omega
    rw [if_neg c] at htr
    simp -dsimp -implicitDefEqProofs only [↓STP,STQ,seval,eq_false c']
    refine hx2 { σ1 with env:=τ'.env } _ L' t h' _ A' (ag1.mono rfl k1'.steps k1'.most) ⟨ok1.env,k1'.ok.steps,k1'.ok.most⟩ h2 fun L2 h2 A2 F2=>?_
    simp -dsimp -implicitDefEqProofs only [↓STP,STQ,seval,w1]
    rw [F'.x]
    exact hend (by rw [htr]; exact A2) F2
  ·rw [if_neg (by decide),if_neg (by decide),if_neg (by decide),if_pos rfl] at htr t3
   simp -dsimp -implicitDefEqProofs only [↓STP,STQ,seval,Int.ofNat_lt,hi,hget,Zae,Stm.v_mk,gx0]
   rw [← Stm.v_mk,← F'.x]
   refine loopI hp (k:=4) (b:=b) (lv:=lv) hx1 v10 v9 oke (by rw [v4]; decide) A' ag1 ok1 t2 t3 fun L2 h2 A2 F2=>?_
   simp -dsimp -implicitDefEqProofs only [↓STP,STQ,seval,w1]
   rw [F'.x]
   exact hend (by rw [htr]; exact A2) F2
  ·rw [if_neg (by decide),if_neg (by decide),if_neg (by decide),if_neg (by decide)] at htr
   obtain ⟨e0,rfl⟩:=len1 (l:=e) (by rw [v4]; decide)
   obtain ⟨r0,m0',q0⟩:=ka e0 (by simp)
   simp -dsimp -implicitDefEqProofs only [↓STP,STQ,seval,Int.ofNat_lt,hi,hget,Zae,Stm.v_mk,gx0,List.map_cons,List.map_nil,Exp.v_clen,Exp.v_tk,Exp.v_ag,Exp.v_out]
   rw [← F'.x]
   refine Zjw hp e0 _ (v9 e0 (by simp)) (oke e0 (by simp)) τ'.env L' t h' _ r0 m0' A' ag'.env ok'.env q0 ?_
   have hfew:t.told.length < 1000000:=by have:=ag'.few; have:=ok'.steps; omega
   obtain ⟨h1,a1,a2,A2,F2⟩:=A'.tell (valX p t e0) hfew
   have gx2:=Zai a2
   have st5:∀ ρ m n' u,Zae ⟨ρ,m,n',u,h1⟩ (.ptr L'.x 2) (.ref h'.next 0 (t.told.length + 1) 1) 1=some ⟨ρ,m,n',u,h1.set L'.x (.cells [.map L'.v,.map L'.w,.ref h'.next 0 (t.told.length + 1) 1])⟩:=fun ρ m n' u=>Zbv (j:=2) gx2 (show 2 < 3 by decide) rfl rfl
   have ht2:t2'={ t with told:=t.told ++ [valX p t e0] }:=htr
   simp -dsimp -implicitDefEqProofs only [↓STP,STQ,seval,gx',a1,st5,w1]
   rw [F'.x] at A2 F2 ⊢
   exact hend (by rw [ht2]; exact A2) F2
 ·have hj':j=l.length:=by omega
  subst hj'
  rw [List.take_length] at A'
  simp -dsimp -implicitDefEqProofs only [↓STP,STQ,seval,Int.lt_irrefl]
  exact hK _ _ A' F'
theorem bodyII (hp:PV p) (x:Stm):∀ lv,VS x lv→SOk x→SpB R 30 p x.thn∧SpB R 30 p x.els:=by
 induction x using Stm.ind with
 | h k s e a b iha ihb =>
  intro lv hv ok
  obtain ⟨v1,v2,v3,v4,v5,v6,v7,v8,v9,v10,v11⟩:=VS_mk.1 hv
  obtain ⟨_,_,_,la,lb,oke,oka,okb⟩:=Zfc ok
  have hm:=Zap
  exact ⟨bodyI_of (l:=a) hp (by omega) (fun x hx=>iha x hx _ (VSs_all.1 v10 x hx) (oka x hx)) v10 oka,bodyI_of (l:=b) hp (by omega) (fun x hx=>ihb x hx _ (VSs_all.1 v11 x hx) (okb x hx)) v11 okb⟩
theorem bodyI (hp:PV p) {l:List Stm} {lv:Nat} (hl:l.length ≤ maxLen) (hv:VSs l lv) (ok:∀ x ∈ l,SOk x):SpB R 30 p l:=
 bodyI_of hp (by have:=Zap; omega) (fun x hx=>bodyII hp x _ (VSs_all.1 hv x hx) (ok x hx)) hv ok
end
end YtljoifdccjcidaaDoor
end Go.Ab
namespace Go.Ab
def Zbr (d:InD):Nat:=max d.size.toNat 1
def frmD (d:InD):Nat:=(d.frm - 1).toNat
def Zgw (ls:List (List Nat)) (a:List Nat) (d:InD):List Nat:=((ls.getD (frmD d) []).drop (a.getD (frmD d) 0)).take (Zbr d)
def okD (ls:List (List Nat)) (a:List Nat) (d:InD):Prop:=frmD d < ls.length∧a.getD (frmD d) 0 + Zbr d ≤ (ls.getD (frmD d) []).length∧∀ v ∈ Zgw ls a d,v < 2 ^ d.width.toNat
instance {ls:List (List Nat)} {a:List Nat} {d:InD}:Decidable (okD ls a d):=by unfold okD; infer_instance
def Zht (a:List Nat) (d:InD):List Nat:=a.set (frmD d) (a.getD (frmD d) 0 + Zbr d)
def fitG:List InD→List (List Nat)→List Nat→Option (List Nat)
 | [],ls,a=>some a
 | d :: ds,ls,a=>if okD ls a d then fitG ds ls (Zht a d) else none
def Zma (ls:List (List Nat)):Option (List Nat)→Bool
 | some a=>decide (a=ls.map List.length)
 | none=>false
def fitB (p:Prg) (ls:List (List Nat)):Bool:=Zma ls (fitG p.ins ls (List.replicate ls.length 0))
def LV (ls:List (List Nat)):V:=.vec (ls.map fun l=>.vec (Ws l) .any) .any
structure LsOk (ls:List (List Nat)):Prop where
 len:ls.length ≤ 30
 all:∀ l ∈ ls,l.length ≤ 1000∧∀ v ∈ l,v < 18446744073709551616
theorem Zlc {ls:List (List Nat)} {i:Nat} (h:i < ls.length):(ls.map fun l=>V.vec (Ws l) .any)[i]?=some (.vec (Ws (ls.getD i [])) .any):=by
 rw [List.getElem?_map,List.getElem?_eq_getElem h,List.getD_eq_getElem?_getD,List.getElem?_eq_getElem h]; rfl
theorem LsOk.get {ls:List (List Nat)} (ok:LsOk ls) (i:Nat):(ls.getD i []).length ≤ 1000∧∀ v ∈ ls.getD i [],v < 18446744073709551616:=by
 rw [List.getD_eq_getElem?_getD]
 cases h:ls[i]? with
 | none=>exact ⟨Nat.zero_le _,fun v hv=>by cases hv⟩
 | some l=>exact ok.all l (List.mem_of_getElem? h)
theorem Zef {l:List Nat} {i:Nat} (h:i < l.length):(Zau l)[i]?=some (I ((l.getD i 0:Nat):Int)):=Zcv h
theorem Zhv {l:List Nat} {i n:Nat}:(Zau l).set i (I ((n:Nat):Int))=Zau (l.set i n):=by simp [Zau,List.map_set]
theorem Zgc {n:Nat}:(List.replicate n [V.int .i64 0]).flatten=Zau (List.replicate n 0):=by
 induction n with
 | zero=>rfl
 | succ n ih=>rw [List.replicate_succ,List.flatten_cons,ih,List.replicate_succ]; rfl
theorem Zlm {n:Nat} {w:Int} (h:1 ≤ w):(n=0∨¬ ((max (blen n) 1:Nat):Int) > w) ↔ n < 2 ^ w.toNat:=by
 have hb:=blen_le (k:=w.toNat) (n:=n)
 constructor
 ·rintro (rfl | h1)
  ·exact Nat.two_pow_pos _
  ·exact hb.1 (by omega)
 ·intro h1
  have:=hb.2 h1
  exact .inr (by omega)
theorem Ws_getD {l:List Nat} {i:Nat} (h:i < l.length):(Ws l)[i]?=some (W (l.getD i 0)):=by
 rw [Zmn,List.getElem?_eq_getElem h,List.getD_eq_getElem?_getD,List.getElem?_eq_getElem h]; rfl
theorem Zh1 {l:List Nat} {i n:Nat} (h:i < l.length):(l.set i n).getD i 0=n:=by
 rw [List.getD_eq_getElem?_getD,List.getElem?_set,if_pos rfl,if_pos h]; rfl
theorem mem_words {l:List Nat} {k i m:Nat} (h:k + i < l.length) (hm:i < m):l.getD (k + i) 0 ∈ (l.drop k).take m:=by
 rw [List.getD_eq_getElem?_getD,List.getElem?_eq_getElem h]
 refine List.mem_of_getElem? (i:=i) ?_
 rw [List.getElem?_take,if_pos hm,List.getElem?_drop,List.getElem?_eq_getElem h]; rfl
theorem Zlq {l:List Nat} {k i:Nat} (h:k + i < l.length):(l.drop k).take (i + 1)=(l.drop k).take i ++ [l.getD (k + i) 0]:=by
 rw [List.take_add_one,List.getElem?_drop,List.getD_eq_getElem?_getD,List.getElem?_eq_getElem h]; rfl
namespace YtljoifdccjcidaaDoor
section
variable {h:H} {K:Out→H→Prop} {p:Prg}
theorem sizeI {d:InD} (h0:0 ≤ d.size) (hK:K (.ret (I ((Zbr d:Nat):Int))) h):R 28 [d.v] h K:=by
 refine run28 (Nat.le_of_ble_eq_true rfl) ?_
 have hm:(if (1:Int) > d.size then (1:Int) else d.size)=((Zbr d:Nat):Int):=by unfold Zbr; split <;> omega
 simp -dsimp -implicitDefEqProofs only [↓STP,STQ,seval,Zam,ir28,Zbf,hm]
 exact hK
theorem fitI (v:VT p) {ls:List (List Nat)} (ok:LsOk ls) (hK:∀ h',UpH h h'→K (.ret (.bool (fitB p ls))) h'):R 36 [p.v,LV ls] h K:=by
 refine run36 (Nat.le_of_ble_eq_true rfl) ?_
 have hlen:=ok.len
 have pli:=v.ok.li
 have hm:=Zap
 simp -dsimp -implicitDefEqProofs only [↓STP,STQ,seval,Prg.v,Prg.cells,LV,ir36,List.length_map,Zig (n:=ls.length) (sz:=1) (bytes:=8) (by omega) (by decide) (by decide),Zgc]
 unfold fitB at hK
 refine Zal (fun c s'=>∃ j a h',j ≤ p.ins.length∧c=p.ins.length - j∧a.length=ls.length∧fitG (p.ins.drop j) ls a=fitG p.ins ls (List.replicate ls.length 0)∧h'.objs h.next=some (.cells (Zau a))∧h'.next=h.next + 1∧(∀ i,i < h.next→h'.objs i=h.objs i) ∧
  s'=⟨upd (upd (upd (upd (upd ρ0 1 (LV ls)) 5 (.ref h.next 0 ls.length 1)) 16 (.vec (p.ins.map InD.v) .any)) 17 (I p.ins.length)) 18 (I j),m0,0,[],h'⟩)
  (i:=p.ins.length) ⟨0,List.replicate ls.length 0,_,Nat.zero_le _,rfl,by simp,rfl,by rw [Zac,if_pos rfl],rfl,fun i hi=>by rw [Zac,if_neg (Nat.ne_of_lt hi)],by simp -dsimp -implicitDefEqProofs only [↓STP,STQ,seval,LV] <;> rfl⟩ ?_ mono
 rintro c s' ⟨j,a,h',hj,rfl,hal,hr,ho,hn,hold,rfl⟩
 rcases Nat.lt_or_ge j p.ins.length with hi | hi
 ·have hget:=Za6 (f:=InD.v) hi
  have hdm:p.ins[j] ∈ p.ins:=List.getElem_mem hi
  have hdi:=v.ins _ hdm
  have w1:=wiM (show j < 9223372036854775807 by omega)
  have hdr:p.ins.drop j=p.ins[j] :: p.ins.drop (j + 1):=List.drop_eq_getElem_cons hi
  rw [hdr,fitG] at hr
  generalize p.ins[j]=d at *
  by_cases hfr:(ls.length:Int) < d.frm
  ·have hno:¬ okD ls a d:=fun hh=>by have:=hh.1; unfold frmD at this; have:=hdi.f1; omega
   rw [if_neg hno] at hr
   rw [← hr] at hK
   simp -dsimp -implicitDefEqProofs only [↓STP,STQ,seval,Int.ofNat_lt,hi,hget,Zam,Zae,LV,List.length_map,eq_true hfr]
   exact hK h' ⟨by omega,hold⟩
  have hf1:=hdi.f1
  have hf:frmD d < ls.length:=by unfold frmD; omega
  have hf2:=hdi.f2
  have efr:((frmD d:Nat):Int)=d.frm - 1:=by unfold frmD; omega
  have hfI:IntKind.i64.wrap (d.frm - 1)=((frmD d:Nat):Int):=by
   rw [efr,wrap_i64] <;> omega
  have hsz:Zbr d ≤ 64:=by have:=hdi.s2; unfold Zbr; omega
  have gl:=Zlc hf
  obtain ⟨okl,okw⟩:=ok.get (frmD d)
  simp -dsimp -implicitDefEqProofs only [↓STP,STQ,seval,Int.ofNat_lt,hi,hget,Zam,Zae,LV,List.length_map,eq_false hfr]
  rw [← Zam]
  refine sizeI hdi.s1 ?_
  simp -dsimp -implicitDefEqProofs only [↓STP,STQ,seval]
  have hyes:okD ls a d→fitG (p.ins.drop (j + 1)) ls (Zht a d)=fitG p.ins ls (List.replicate ls.length 0):=fun q=>by rw [if_pos q] at hr; exact hr
  have hnot:¬ okD ls a d→none=fitG p.ins ls (List.replicate ls.length 0):=fun q=>by rw [if_neg q] at hr; exact hr
  clear hr
  unfold okD Zgw at hyes hnot
  unfold Zht at hyes
  generalize hfd:frmD d=f at *
  generalize hld:ls.getD f []=l at *
  generalize hkd:a.getD f 0=k0 at *
  generalize hsd:Zbr d=N at *
  have hfa:f < a.length:=by omega
  refine Zal (fun c s'=>∃ i h'',i ≤ N∧c=N - i∧(i=0∨k0 + i ≤ l.length)∧(∀ v ∈ (l.drop k0).take i,v < 2 ^ d.width.toNat)∧h''.objs h.next=some (.cells (Zau (a.set f (k0 + i))))∧h''.next=h.next + 1∧(∀ i,i < h.next→h''.objs i=h.objs i) ∧
   s'=⟨upd (upd (upd (upd (upd (upd (upd (upd ρ0 1 (LV ls)) 5 (.ref h.next 0 ls.length 1)) 7 (.lptr 0 4 0)) 16 (.vec (p.ins.map InD.v) .any)) 17 (I p.ins.length)) 18 (I j)) 28 (I N)) 29 (I i),upd m0 0 (some [.str d.name,I d.frm,I d.width,I d.size]),1,[],h''⟩)
   (i:=N) ⟨0,h',Nat.zero_le _,rfl,.inl rfl,by simp,by
    have e:a.set f (k0 + 0)=a:=by
     apply List.ext_getElem?
     intro q
     rw [List.getElem?_set]
     split
     ·rename_i e; subst e
      rw [← hkd,List.getD_eq_getElem?_getD,List.getElem?_eq_getElem hfa]; rfl
     ·rfl
    rw [e]; exact ho,hn,hold,by simp -dsimp -implicitDefEqProofs only [↓STP,STQ,seval,LV] <;> rfl⟩ ?_ mono
  rintro c s' ⟨i,h'',hiN,rfl,hki,hws,ho2,hn2,hold2,rfl⟩
  have g2:=Zai ho2
  have lset:(a.set f (k0 + i)).length=a.length:=List.length_set
  have ga:=Zef (l:=a.set f (k0 + i)) (i:=f) (by omega)
  rw [Zh1 hfa] at ga
  have hfI':((f:Nat):Int) < ((ls.length:Nat):Int):=by omega
  by_cases hlt:i < N
  ·have hltI:((i:Nat):Int) < ((N:Nat):Int):=by omega
   by_cases hge:l.length ≤ k0 + i
   ·have hgeI:((l.length:Nat):Int) ≤ ((k0 + i:Nat):Int):=by omega
    rw [← hnot (by rintro ⟨_,h2,_⟩; omega)] at hK
    simp -dsimp -implicitDefEqProofs only [↓STP,STQ,seval,eq_true hltI,LV,hfI,gl,Zam,InD.v_cells,eq_true hfI',Nat.mul_one,g2,ga,Za7,eq_true hgeI]
    exact hK h'' ⟨by omega,hold2⟩
   ·have hgeI:¬ ((l.length:Nat):Int) ≤ ((k0 + i:Nat):Int):=by omega
    have hkl:k0 + i < l.length:=by omega
    have hklI:((k0 + i:Nat):Int) < ((l.length:Nat):Int):=by omega
    have gw:=Ws_getD hkl
    have hvm:=mem_words hkl hlt
    have hv64:l.getD (k0 + i) 0 < 18446744073709551616:=okw _ (List.mem_of_mem_drop (List.mem_of_mem_take hvm))
    have htw:=Zlq hkl
    have wf:=Zlm (n:=l.getD (k0 + i) 0) hdi.w1
    generalize l.getD (k0 + i) 0=v0 at *
    have w2:IntKind.i64.wrap (((k0 + i:Nat):Int) + 1)=((k0 + (i + 1):Nat):Int):=by rw [wrap_i64] <;> omega
    have w3:=wiM (show i < 9223372036854775807 by omega)
    have stw:=fun ρ m n' u=>Zbv (ρ:=ρ) (m:=m) (n:=n') (u:=u) (j:=f) (v:=I ((k0 + (i + 1):Nat):Int)) g2 (by rw [Zby]; omega) rfl rfl
    rw [Zhv,List.set_set] at stw
    have hnext:v0 < 2 ^ d.width.toNat→∃ (c:Nat),c < N - i∧∃ i' h3,i' ≤ N∧c=N - i'∧(i'=0∨k0 + i' ≤ l.length)∧(∀ v ∈ (l.drop k0).take i',v < 2 ^ d.width.toNat)∧h3.objs h.next=some (.cells (Zau (a.set f (k0 + i'))))∧h3.next=h.next + 1∧(∀ i,i < h.next→h3.objs i=h.objs i) ∧
      (⟨upd (upd (upd (upd (upd (upd (upd (upd ρ0 1 (LV ls)) 5 (.ref h.next 0 ls.length 1)) 7 (.lptr 0 4 0)) 16 (.vec (p.ins.map InD.v) .any)) 17 (I p.ins.length)) 18 (I j)) 28 (I N)) 29 (I ((i + 1:Nat):Int)),upd m0 0 (some [.str d.name,I d.frm,I d.width,I d.size]),1,[],h''.set h.next (.cells (Zau (a.set f (k0 + (i + 1)))))⟩:S) =
      ⟨upd (upd (upd (upd (upd (upd (upd (upd ρ0 1 (LV ls)) 5 (.ref h.next 0 ls.length 1)) 7 (.lptr 0 4 0)) 16 (.vec (p.ins.map InD.v) .any)) 17 (I p.ins.length)) 18 (I j)) 28 (I N)) 29 (I i'),upd m0 0 (some [.str d.name,I d.frm,I d.width,I d.size]),1,[],h3⟩:=fun hv0 =>
     ⟨N - (i + 1),by omega,i + 1,h''.set h.next (.cells (Zau (a.set f (k0 + (i + 1))))),hlt,rfl,.inr (by omega),fun v hv=>by
      rw [htw] at hv
      rcases List.mem_append.1 hv with hv | hv
      ·exact hws v hv
      ·rw [List.mem_singleton] at hv; subst hv; exact hv0,by rw [Zaa,if_pos rfl],hn2,fun q hq=>by rw [Zaa,if_neg (by omega)]; exact hold2 q hq,rfl⟩
    by_cases hz:(v0:Int)=0
    ·have hlt0:v0 < 2 ^ d.width.toNat:=wf.1 (.inl (by omega))
     simp -dsimp -implicitDefEqProofs only [↓STP,STQ,seval,eq_true hltI,LV,hfI,gl,Zam,eq_true hfI',Nat.mul_one,g2,ga,Za7,eq_false hgeI,eq_true hklI,gw,eq_true hz,stw,w2,w3]
     exact hnext hlt0
    ·simp -dsimp -implicitDefEqProofs only [↓STP,STQ,seval,eq_true hltI,LV,hfI,gl,Zam,eq_true hfI',Nat.mul_one,g2,ga,Za7,eq_false hgeI,eq_true hklI,gw,eq_false hz]
     refine Zll hv64 ?_
     by_cases hw:d.width < ((max (blen v0) 1:Nat):Int)
     ·have hge0:¬ v0 < 2 ^ d.width.toNat:=fun hh=>(wf.2 hh).elim (fun e=>hz (by omega)) (fun e=>e hw)
      rw [← hnot (by rintro ⟨_,_,h3⟩; exact hge0 (h3 _ hvm))] at hK
      simp -dsimp -implicitDefEqProofs only [↓STP,STQ,seval,eq_true hw]
      exact hK h'' ⟨by omega,hold2⟩
     ·have hlt0:v0 < 2 ^ d.width.toNat:=wf.1 (.inr hw)
      simp -dsimp -implicitDefEqProofs only [↓STP,STQ,seval,eq_false hw,hfI,Nat.mul_one,eq_true hfI',g2,ga,stw,w2,w3]
      exact hnext hlt0
  ·have hiN':i=N:=by omega
   subst hiN'
   simp -dsimp -implicitDefEqProofs only [↓STP,STQ,seval,Int.lt_irrefl,w1]
   have hN1:1 ≤ i:=by rw [← hsd]; unfold Zbr; omega
   have hr:=hyes ⟨hf,by omega,hws⟩
   exact ⟨p.ins.length - (j + 1),by omega,j + 1,a.set f (k0 + i),h'',hi,rfl,by rw [List.length_set]; exact hal,hr,ho2,hn2,hold2,rfl⟩
 ·have hj':j=p.ins.length:=by omega
  subst hj'
  rw [List.drop_length,fitG] at hr
  rw [← hr] at hK
  simp -dsimp -implicitDefEqProofs only [↓STP,STQ,seval,Int.lt_irrefl,LV,List.length_map]
  have g1:=Zai ho
  refine Zar (N:=ls.length) (fun i=>⟨upd (upd (upd (upd ρ0 5 (.ref h.next 0 ls.length 1)) 74 (LV ls)) 75 (I ls.length)) 76 (I i),m0,0,[],h'⟩) (fun i=>a.take i=(ls.map List.length).take i) (by simp -dsimp -implicitDefEqProofs only [↓STP,STQ,seval,LV] <;> rfl) rfl (fun i hlt htk=>?_) (fun htk=>?_) mono
  ·have gl:=Zlc hlt
   have ga:=Zef (l:=a) (i:=i) (by omega)
   have hltI:((i:Nat):Int) < ((ls.length:Nat):Int):=by omega
   have w3:=wiM (show i < 9223372036854775807 by omega)
   have e1:ls.getD i []=ls[i]:=by rw [List.getD_eq_getElem?_getD,List.getElem?_eq_getElem hlt]; rfl
   have e2:a.getD i 0=a[i]:=by rw [List.getD_eq_getElem?_getD,List.getElem?_eq_getElem (by omega)]; rfl
   by_cases he:((a.getD i 0:Nat):Int)=(((ls.getD i []).length:Nat):Int)
   ·simp -dsimp -implicitDefEqProofs only [↓STP,STQ,seval,eq_true hltI,LV,gl,g1,ga,Nat.mul_one,Za7,eq_true he,w3]
    rw [List.take_add_one,List.take_add_one,htk,List.getElem?_eq_getElem (by omega),List.getElem?_map,List.getElem?_eq_getElem hlt]
    rw [e1,e2] at he
    have he:a[i]=ls[i].length:=by omega
    rw [he]; rfl
   ·have hno:Zma ls (some a)=false:=decide_eq_false fun hh=>he (by
     have this:a.getD i 0=(ls.map List.length).getD i 0:=congrArg (fun l=>l.getD i 0) hh
     rw [this,e1,List.getD_eq_getElem?_getD,List.getElem?_map,List.getElem?_eq_getElem hlt]; rfl)
    rw [hno] at hK
    simp -dsimp -implicitDefEqProofs only [↓STP,STQ,seval,eq_true hltI,LV,gl,g1,ga,Nat.mul_one,Za7,eq_false he,w3]
    exact hK h' ⟨by omega,hold⟩
  ·have hyes:Zma ls (some a)=true:=decide_eq_true (by
    have e1:a.take ls.length=a:=List.take_of_length_le (by omega)
    have e2:(ls.map List.length).take ls.length=ls.map List.length:=List.take_of_length_le (by rw [List.length_map]; exact Nat.le_refl _)
    rw [← e1,← e2,htk])
   rw [hyes] at hK
   simp -dsimp -implicitDefEqProofs only [↓STP,STQ,seval,Int.lt_irrefl]
   exact hK h' ⟨by omega,hold⟩
end
end YtljoifdccjcidaaDoor
end Go.Ab
namespace Go.Ab
def insD:List InD→List (List Nat)→List Nat→List (InD × List Nat)
 | [],_,_=>[]
 | d :: ds,ls,a=>(d,Zgw ls a d) :: insD ds ls (Zht a d)
def Zca:List (InD × List Nat)→List (ByteArray × Nat)
 | []=>[]
 | (d,ws) :: l=>if d.size=0 then (d.name,ws.getD 0 0) :: Zca l else Zca l
def arrL:List (InD × List Nat)→List (ByteArray × List Nat)
 | []=>[]
 | (d,ws) :: l=>if d.size=0 then arrL l else (d.name,ws) :: arrL l
def atI0 (ls:List (List Nat)):List Nat:=List.replicate ls.length 0
def Zcc (p:Prg) (ls:List (List Nat)):RS:=
 ⟨fun y=>Zaf y (Zca (insD p.ins ls (atI0 ls))),fun y=>(Zaf y (arrL (insD p.ins ls (atI0 ls)))).getD [],p.arrays.map fun d=>List.replicate d.size.toNat 0,[]⟩
def outX (p:Prg) (ls:List (List Nat)):List Nat:=(Za9 p p.body (Zcc p ls)).told
def errI (p:Prg) (ls:List (List Nat)):Int:=if errT (Zbk p) ≠ 0 then errT (Zbk p) else if fitB p ls then 0 else 1
def resX (p:Prg) (ls:List (List Nat)):List Nat:=if errI p ls=0 then outX p ls else []
theorem Zea:∀ {a b:List (InD × List Nat)},Zca (a ++ b)=Zca a ++ Zca b
 | [],b=>rfl
 | (d,ws) :: l,b=>by
  simp only [List.cons_append,Zca]
  split
  ·rw [Zea]; rfl
  ·exact Zea
theorem Zgm:∀ {a b:List (InD × List Nat)},arrL (a ++ b)=arrL a ++ arrL b
 | [],b=>rfl
 | (d,ws) :: l,b=>by
  simp only [List.cons_append,arrL]
  split
  ·exact Zgm
  ·rw [Zgm]; rfl
theorem scalL_keys:∀ {l:List (InD × List Nat)},((Zca l).map (·.1)).Sublist (l.map fun r=>r.1.name)
 | []=>List.Sublist.refl _
 | (d,ws) :: l=>by
  simp only [Zca,List.map_cons]
  split
  ·exact scalL_keys.cons_cons _
  ·exact scalL_keys.cons _
theorem arrL_keys:∀ {l:List (InD × List Nat)},((arrL l).map (·.1)).Sublist (l.map fun r=>r.1.name)
 | []=>List.Sublist.refl _
 | (d,ws) :: l=>by
  simp only [arrL,List.map_cons]
  split
  ·exact arrL_keys.cons _
  ·exact arrL_keys.cons_cons _
theorem Zka:∀ {l:List (InD × List Nat)} {d:InD} {ws:List Nat},(d,ws) ∈ l→d.size=0→(d.name,ws.getD 0 0) ∈ Zca l
 | (e,us) :: l,d,ws,hm,hz=>by
  simp only [Zca]
  rcases List.mem_cons.1 hm with h | h
  ·cases h; rw [if_pos hz]; exact List.mem_cons_self
  ·split
   ·exact List.mem_cons_of_mem _ (Zka h hz)
   ·exact Zka h hz
theorem arrL_mem:∀ {l:List (InD × List Nat)} {d:InD} {ws:List Nat},(d,ws) ∈ l→d.size ≠ 0→(d.name,ws) ∈ arrL l
 | (e,us) :: l,d,ws,hm,hz=>by
  simp only [arrL]
  rcases List.mem_cons.1 hm with h | h
  ·cases h; rw [if_neg hz]; exact List.mem_cons_self
  ·split
   ·exact arrL_mem h hz
   ·exact List.mem_cons_of_mem _ (arrL_mem h hz)
theorem Zjh:∀ {l:List InD} {ls:List (List Nat)} {a:List Nat},(insD l ls a).map (·.1)=l
 | [],_,_=>rfl
 | d :: ds,ls,a=>by rw [insD,List.map_cons,Zjh]
theorem Zci {l:List InD} {ls:List (List Nat)} {a:List Nat}:(insD l ls a).map (fun r=>r.1.name)=l.map InD.name:=by
 have:=congrArg (List.map InD.name) (Zjh (l:=l) (ls:=ls) (a:=a))
 rw [List.map_map] at this
 exact this
theorem insD_ok:∀ {l:List InD} {ls:List (List Nat)} {a a':List Nat},fitG l ls a=some a'→∀ r ∈ insD l ls a,r.2.length=Zbr r.1∧∀ v ∈ r.2,v < 2 ^ r.1.width.toNat
 | d :: ds,ls,a,a',h,r,hr=>by
  rw [fitG] at h
  split at h
  ·rename_i hd
   rw [insD] at hr
   rcases List.mem_cons.1 hr with e | hr
   ·subst e
    obtain ⟨h1,h2,h3⟩:=hd
    refine ⟨?_,h3⟩
    show (((ls.getD (frmD d) []).drop (a.getD (frmD d) 0)).take (Zbr d)).length=Zbr d
    rw [List.length_take,List.length_drop]; omega
   ·exact insD_ok h r hr
  ·cases h
theorem Zkp {p:Prg} {ls:List (List Nat)} (h:fitB p ls=true):∃ a,fitG p.ins ls (atI0 ls)=some a:=by
 unfold fitB at h
 cases c:fitG p.ins ls (List.replicate ls.length 0) with
 | some a=>exact ⟨a,c⟩
 | none=>rw [c] at h; cases h
theorem Zjc {p:Prg} (hn:(p.ins.map InD.name).Nodup) {ls:List (List Nat)} {y:ByteArray} {d:InD} (hd:inOf p y=some d):∃ ws,(d,ws) ∈ insD p.ins ls (atI0 ls)∧(d.size=0→(Zcc p ls).vars y=some (ws.getD 0 0))∧(d.size ≠ 0→Zaf y (arrL (insD p.ins ls (atI0 ls)))=some ws):=by
 obtain ⟨hm,rfl⟩:=Zcn hd
 rw [← Zjh (l:=p.ins) (ls:=ls) (a:=atI0 ls)] at hm
 obtain ⟨⟨d',ws⟩,hm2,rfl⟩:=List.mem_map.1 hm
 rw [← Zci (ls:=ls) (a:=atI0 ls)] at hn
 exact ⟨ws,hm2,fun hz=>Zbh (List.Nodup.sublist scalL_keys hn) (Zka hm2 hz),fun hz=>Zbh (List.Nodup.sublist arrL_keys hn) (arrL_mem hm2 hz)⟩
theorem ag_start {p:Prg} (hp:PV p) {ls:List (List Nat)} (hf:fitB p ls=true):Ag p (Ze1 p) (Zcc p ls):=by
 obtain ⟨a,ha⟩:=Zkp hf
 have hn:=(List.nodup_append.1 hp.nm).1
 refine ⟨⟨(fun x k w h=>by cases h),(fun x n h=>by cases h),fun x d hd hz=>?_,fun x d hd hz=>?_,?_,fun i l l' hl hl'=>?_⟩,(fun v hv=>by cases hv),Nat.zero_le _⟩
 ·obtain ⟨ws,h1,h2,_⟩:=Zjc hn (ls:=ls) hd
  obtain ⟨g1,g2⟩:=insD_ok ha _ h1
  refine ⟨_,h2 hz,g2 _ ?_⟩
  have g1:ws.length=Zbr d:=g1
  have:0 < ws.length:=by rw [g1]; unfold Zbr; omega
  rw [List.getD_eq_getElem?_getD,List.getElem?_eq_getElem this]
  exact List.getElem_mem this
 ·obtain ⟨ws,h1,_,h2⟩:=Zjc hn (ls:=ls) hd
  obtain ⟨g1,g2⟩:=insD_ok ha _ h1
  have e:(Zcc p ls).inw x=ws:=by show (Zaf x _).getD []=ws; rw [h2 hz]; rfl
  have hd0:=hp.ins d (Zcn hd).1
  rw [e]
  have g1:ws.length=Zbr d:=g1
  refine ⟨by rw [g1]; unfold Zbr; omega,fun n=>?_⟩
  rw [List.getD_eq_getElem?_getD]
  cases c:ws[n]? with
  | none=>exact Nat.two_pow_pos _
  | some v=>exact g2 v (List.mem_of_getElem? c)
 ·show (p.arrays.map _).length=(p.arrays.map _).length
  rw [List.length_map,List.length_map]
 ·have hl:(p.arrays.map fun d=>List.replicate d.size.toNat 1)[i]?=some l:=hl
  have hl':(p.arrays.map fun d=>List.replicate d.size.toNat 0)[i]?=some l':=hl'
  rw [List.getElem?_map] at hl hl'
  cases c:p.arrays[i]? with
  | none=>rw [c] at hl; cases hl
  | some d =>
   rw [c] at hl hl'
   cases hl; cases hl'
   refine ⟨by rw [List.length_replicate,List.length_replicate],fun n=>?_⟩
   rw [List.getD_eq_getElem?_getD,List.getElem?_replicate]
   have:=Nat.two_pow_pos ((List.replicate d.size.toNat 1).getD n 0)
   split
   ·exact this
   ·exact this
theorem UpH.same {h h':H} (u:UpH h h') {j:Nat} {o:O} (hj:j < h.next) (ho:h.objs j=some o):h'.objs j=some o:=by rw [u.old j hj]; exact ho
namespace YtljoifdccjcidaaDoor
section
variable {h:H} {K:Out→H→Prop} {p:Prg}
theorem checkI (v:VT p) {ls:List (List Nat)} (ok:LsOk ls) (hK:∀ h',UpH h h'→K (.ret (I (errI p ls))) h'):R 16 [p.v,LV ls] h K:=by
 refine run16 (Nat.le_of_ble_eq_true rfl) ?_
 have hv0:p.v=V.agg [.vec (p.ins.map InD.v) .any,.vec (p.arrays.map ArD.v) .any,.vec (p.body.map Stm.v) .any]:=rfl
 have hL:LV ls=.vec (ls.map fun l=>.vec (Ws l) .any) .any:=rfl
 unfold errI at hK
 simp -dsimp -implicitDefEqProofs only [↓STP,STQ,seval,ir16,hv0,hL]
 rw [← hv0]
 refine checkG v fun h1 u1=>?_
 by_cases c:errT (Zbk p)=0
 rotate_left
 ·rw [if_pos c] at hK
  simp -dsimp -implicitDefEqProofs only [↓STP,STQ,seval,eq_false c]
  exact hK h1 u1
 rw [if_neg (by simp [c])] at hK
 simp -dsimp -implicitDefEqProofs only [↓STP,STQ,seval,eq_true c,hv0,hL]
 rw [← hv0,← hL]
 refine fitI v ok fun h2 u2=>?_
 cases f:fitB p ls with
 | true =>
  rw [f] at hK
  simp -dsimp -implicitDefEqProofs only [↓STP,STQ,seval]
  exact hK h2 (u1.trans u2)
 | false =>
  rw [f] at hK
  simp -dsimp -implicitDefEqProofs only [↓STP,STQ,seval]
  exact hK h2 (u1.trans u2)
end
end YtljoifdccjcidaaDoor
end Go.Ab
namespace Go.Ab
structure Bi (b:Nat) (h0:H) (es:List (ByteArray × Nat)) (ws:List (ByteArray × Nat × Nat)) (wd:List (ByteArray × List Nat)) (a:List Nat) (h:H):Prop where
 x:h.objs (b + 2)=some (.cells [.nilmap,.map (b + 1),.vec [] .full])
 f:∃ ver,h.objs b=some (.map (mapO wV es) ver)
 w:∃ ver,h.objs (b + 1)=some (.map (mapO refV ws) ver)
 t:h.objs (b + 3)=some (.cells (Zau a))
 cs:∀ y l,Zaf y wd=some l→∃ id,Zaf y ws=some (id,l.length)∧h.objs id=some (.cells (Ws l))
 keys:ws.map (·.1)=wd.map (·.1)
 ids:(ws.map fun r=>r.2.1).Nodup
 lt:∀ r ∈ ws,b + 4 ≤ r.2.1∧r.2.1 < h.next
 nx:b + 4 ≤ h.next
 old:∀ j,j < b→h.objs j=h0.objs j
theorem Bi.scal {b:Nat} {h0 h:H} {es:List (ByteArray × Nat)} {ws:List (ByteArray × Nat × Nat)} {wd:List (ByteArray × List Nat)} {a:List Nat} (B:Bi b h0 es ws wd a h) {es':List (ByteArray × Nat)} {ver:Nat} :
  Bi b h0 es' ws wd a (h.set b (.map (mapO wV es') ver)):=by
 refine ⟨?_,⟨ver,by rw [Zaa,if_pos rfl]⟩,?_,?_,fun y l hl=>?_,B.keys,B.ids,B.lt,B.nx,fun j hj=>?_⟩
 ·rw [Zaa,if_neg (by omega)]; exact B.x
 ·rw [Zaa,if_neg (by omega)]; exact B.w
 ·rw [Zaa,if_neg (by omega)]; exact B.t
 ·obtain ⟨id,h1,h2⟩:=B.cs y l hl
  have:=B.lt _ (Za8 h1)
  simp only at this
  exact ⟨id,h1,by rw [Zaa,if_neg (by omega)]; exact h2⟩
 ·rw [Zaa,if_neg (by omega)]; exact B.old j hj
theorem Bi.step {b:Nat} {h0 h:H} {es:List (ByteArray × Nat)} {ws:List (ByteArray × Nat × Nat)} {wd:List (ByteArray × List Nat)} {a:List Nat} (B:Bi b h0 es ws wd a h) {a':List Nat} :
  Bi b h0 es ws wd a' (h.set (b + 3) (.cells (Zau a'))):=by
 have nx:=B.nx
 refine ⟨?_,?_,?_,by rw [Zaa,if_pos rfl],fun y l hl=>?_,B.keys,B.ids,B.lt,B.nx,fun j hj=>?_⟩
 ·rw [Zaa,if_neg (by omega)]; exact B.x
 ·rw [Zaa,if_neg (by omega)]; exact B.f
 ·rw [Zaa,if_neg (by omega)]; exact B.w
 ·obtain ⟨id,h1,h2⟩:=B.cs y l hl
  have:=B.lt _ (Za8 h1)
  simp only at this
  exact ⟨id,h1,by rw [Zaa,if_neg (by omega)]; exact h2⟩
 ·rw [Zaa,if_neg (by omega)]; exact B.old j hj
theorem Bi.array {b:Nat} {h0 h:H} {es:List (ByteArray × Nat)} {ws:List (ByteArray × Nat × Nat)} {wd:List (ByteArray × List Nat)} {a:List Nat} (B:Bi b h0 es ws wd a h) {y:ByteArray} {l:List Nat} {ver:Nat} (hy:y ∉ wd.map (·.1)) :
  Bi b h0 es (ws ++ [(y,h.next,l.length)]) (wd ++ [(y,l)]) a ((h.new (.cells (Ws l))).set (b + 1) (.map (mapO refV (ws ++ [(y,h.next,l.length)])) ver)):=by
 have nx:=B.nx
 have hyw:y ∉ ws.map (·.1):=by rw [B.keys]; exact hy
 refine ⟨?_,?_,⟨ver,by rw [Zaa,if_pos rfl]⟩,?_,fun z m hz=>?_,by rw [List.map_append,List.map_append,B.keys]; rfl,?_,fun r hr=>?_,by rw [Zax,Zag]; omega,fun j hj=>?_⟩
 ·rw [Zaa,if_neg (by omega),Zac,if_neg (by omega)]; exact B.x
 ·rw [Zaa,if_neg (by omega),Zac,if_neg (by omega)]; exact B.f
 ·rw [Zaa,if_neg (by omega),Zac,if_neg (by omega)]; exact B.t
 ·by_cases c:z=y
  ·subst c
   rw [Zej hy] at hz
   cases hz
   exact ⟨h.next,Zej hyw,by rw [Zaa,if_neg (by omega),Zac,if_pos rfl]⟩
  ·have key:∀ {α:Type} {q:List (ByteArray × α)} {v:α},Zaf z (q ++ [(y,v)])=Zaf z q:=by
    intro α q v
    induction q with
    | nil=>simp only [List.nil_append,Zaf]; rw [if_neg (fun e=>c e.symm)]
    | cons e es ih=>simp only [List.cons_append,Zaf,ih]
   rw [key] at hz ⊢
   obtain ⟨id,h1,h2⟩:=B.cs z m hz
   have:=B.lt _ (Za8 h1)
   simp only at this
   exact ⟨id,h1,by rw [Zaa,if_neg (by omega),Zac,if_neg (by omega)]; exact h2⟩
 ·rw [List.map_append]
  refine List.nodup_append.2 ⟨B.ids,by simp,fun u hu v hv e=>?_⟩
  simp only [List.map_cons,List.map_nil,List.mem_singleton] at hv
  obtain ⟨r,hr,rfl⟩:=List.mem_map.1 hu
  have:=(B.lt r hr).2
  omega
 ·rw [Zax,Zag]
  rcases List.mem_append.1 hr with hr | hr
  ·have:=B.lt r hr; omega
  ·rw [List.mem_singleton] at hr; subst hr
   exact ⟨nx,Nat.lt_succ_self _⟩
 ·rw [Zaa,if_neg (by omega),Zac,if_neg (by omega)]; exact B.old j hj
theorem app_newWs {st:S} {s:Nat} {l:List Nat} {c:Cap} (h1:0 < l.length) (h2:l.length ≤ 1000):appV st s (.vec [] .full) (.vec (Ws l) c) 1 8 false true=some (.ref st.h.next 0 l.length 1,st.withH (st.h.new (.cells (Ws l)))):=by
 have hf:(Ws l).flatMap V.cells=Ws l:=by
  unfold Ws
  induction l with
  | nil=>rfl
  | cons x xs ih =>
   rw [List.map_cons,List.flatMap_cons]
   cases xs with
   | nil=>rfl
   | cons y ys=>rw [ih (by simp) (by simp at h2 ⊢; omega)]; rfl
 simp only [appV,lenV,flat,hf]
 rw [if_pos ⟨by rw [Za7,Nat.mul_one],by decide,by decide⟩,if_pos ⟨by rw [Za7]; unfold most; omega,by rw [Za7]; exact h1⟩,Za7]
theorem Ws_zeros {n:Nat}:(List.replicate n [V.int .u64 0]).flatten=Ws (List.replicate n 0):=by
 induction n with
 | zero=>rfl
 | succ n ih=>rw [List.replicate_succ,List.flatten_cons,ih,List.replicate_succ]; rfl
theorem Zd7 {α:Type} {y:ByteArray} {v:α}:∀ {a b:List (ByteArray × α)},Zaf y a=some v→Zaf y (a ++ b)=some v
 | (z,w) :: a,b,h=>by
  simp only [List.cons_append,Zaf] at h ⊢
  split at h
  ·rename_i e; rw [if_pos e]; exact h
  ·rename_i e; rw [if_neg e]; exact Zd7 h
def zerL (l:List ArD):List (ByteArray × List Nat):=l.map fun d=>(d.name,List.replicate d.size.toNat 0)
theorem told_flat:∀ {l:List Nat},(l.map fun n=>[W n]).flatten=Ws l
 | []=>rfl
 | n :: l=>by rw [List.map_cons,List.flatten_cons,told_flat]; rfl
theorem Zjq {l:List ArD} {d:ArD}:zerL (l ++ [d])=zerL l ++ [(d.name,List.replicate d.size.toNat 0)]:=by unfold zerL; rw [List.map_append]; rfl
theorem Zjr {l:List ArD}:(zerL l).map (·.1)=l.map ArD.name:=by unfold zerL; rw [List.map_map]; rfl
namespace YtljoifdccjcidaaDoor
theorem clone2G {h:H} {K:Out→H→Prop} {id ver:Nat} {es:List (V × V)} (ho:h.objs id=some (.map es ver)) (hK:K (.ret (.map h.next)) (h.new (.map es 0))):R 29 [.map id] h K:=
 runs_ext ext2 (x:=Zfb) rfl (n:=0) ⟨id,es,ver,rfl,Zb3 ho,hK⟩
section
variable {h:H} {K:Out→H→Prop} {p:Prg}
theorem runI (v:VT p) {ls:List (List Nat)} (ok:LsOk ls) (hK:∀ h' r,UpH h h'→WordsAt h' r (resX p ls)→K (.ret (.tuple [r,I (errI p ls)])) h'):R 13 [p.v,LV ls] h K:=by
 refine run13 (Nat.le_of_ble_eq_true rfl) ?_
 have hv0:p.v=V.agg [.vec (p.ins.map InD.v) .any,.vec (p.arrays.map ArD.v) .any,.vec (p.body.map Stm.v) .any]:=rfl
 have hL:LV ls=.vec (ls.map fun l=>.vec (Ws l) .any) .any:=rfl
 have hlen:=ok.len
 have pli:=v.ok.li
 have pla:=v.ok.la
 have hm:=Zap
 simp -dsimp -implicitDefEqProofs only [↓STP,STQ,seval,ir13,hv0,hL]
 rw [← hv0,← hL]
 refine checkI v ok fun h1 u1=>?_
 by_cases c:errI p ls=0
 rotate_left
 ·have:resX p ls=[]:=if_neg c
  rw [this] at hK
  simp -dsimp -implicitDefEqProofs only [↓STP,STQ,seval,eq_false c]
  exact hK h1 _ u1 (.inl rfl)
 have hres:resX p ls=outX p ls:=if_pos c
 rw [hres,c] at hK
 have hc:errT (Zbk p)=0:=by
  unfold errI at c
  by_cases q:errT (Zbk p)=0
  ·exact q
  ·rw [if_pos q] at c; exact c
 have hf:fitB p ls=true:=by
  unfold errI at c
  rw [if_neg (by simp [hc])] at c
  cases q:fitB p ls with
  | true=>rfl
  | false=>rw [q] at c; exact absurd c (by decide)
 obtain ⟨σ,hσ⟩:=errT_ok hc Zfy
 obtain ⟨hu,hs⟩:=Zk3 hσ
 have hp:=PV_of v hu
 obtain ⟨aE,haE⟩:=Zkp hf
 simp -dsimp -implicitDefEqProofs only [↓STP,STQ,seval,eq_true c,hv0,hL,List.length_map,Zig (n:=ls.length) (sz:=1) (bytes:=8) (by omega) (by decide) (by decide),Zgc,Zag]
 have hnd:((insD p.ins ls (atI0 ls)).map fun r=>r.1.name).Nodup:=by rw [Zci]; exact (List.nodup_append.1 hp.nm).1
 have haE:fitG p.ins ls (List.replicate ls.length 0)=some aE:=haE
 refine Zal (fun c s'=>∃ j a h' acc ws,j ≤ p.ins.length∧c=p.ins.length - j∧a.length=ls.length∧fitG (p.ins.drop j) ls a=some aE∧insD p.ins ls (atI0 ls)=acc ++ insD (p.ins.drop j) ls a∧Bi h1.next h1 (Zca acc) ws (arrL acc) a h' ∧
  s'=⟨upd (upd (upd (upd (upd (upd (upd (upd ρ0 1 (LV ls)) 2 (.lptr 0 3 0)) 7 (.map h1.next)) 8 (.ptr (h1.next + 2) 0)) 9 (.ref (h1.next + 3) 0 ls.length 1)) 29 (.vec (p.ins.map InD.v) .any)) 30 (I p.ins.length)) 31 (I j),upd m0 0 (some [.vec (p.ins.map InD.v) .any,.vec (p.arrays.map ArD.v) .any,.vec (p.body.map Stm.v) .any]),1,[],h'⟩)
  (i:=p.ins.length) ⟨0,List.replicate ls.length 0,_,[],[],Nat.zero_le _,rfl,by simp,haE,rfl,?_,by simp -dsimp -implicitDefEqProofs only [↓STP,STQ,seval,LV] <;> rfl⟩ ?_ mono
 ·refine ⟨?_,⟨0,?_⟩,⟨0,?_⟩,?_,fun y l hl=>(by cases hl),rfl,by simp,fun r hr=>(by cases hr),?_,fun i hi=>?_⟩
  ·simp [Zac,Zag]
  ·rw [Zac,if_neg (by simp only [Zag]; omega),Zac,if_neg (by simp only [Zag]; omega),Zac,if_neg (by simp only [Zag]; omega),Zac,if_pos rfl]; rfl
  ·simp [Zac,Zag,mapO]
  ·simp [Zac,Zag]
  ·simp [Zag]
  ·rw [Zac,if_neg (by simp only [Zag]; omega),Zac,if_neg (by simp only [Zag]; omega),Zac,if_neg (by simp only [Zag]; omega),Zac,if_neg (by omega)]
 rintro cc s' ⟨j,a,h',acc,ws,hj,rfl,hal,hr,hin,B,rfl⟩
 rcases Nat.lt_or_ge j p.ins.length with hi | hi
 ·have hget:=Za6 (f:=InD.v) hi
  have hdm:p.ins[j] ∈ p.ins:=List.getElem_mem hi
  have hdi:=v.ins _ hdm
  have w1:=wiM (show j < 9223372036854775807 by omega)
  have hdr:p.ins.drop j=p.ins[j] :: p.ins.drop (j + 1):=List.drop_eq_getElem_cons hi
  rw [hdr] at hr hin
  rw [fitG] at hr
  rw [insD] at hin
  generalize p.ins[j]=d at *
  split at hr
  rotate_left
  ·cases hr
  rename_i hok
  obtain ⟨hf,hkN,hwid⟩:=hok
  have hname:d.name ∉ acc.map fun r=>r.1.name:=by
   rw [hin,List.map_append,List.map_cons] at hnd
   exact fun hh=>(List.nodup_append.1 hnd).2.2 _ hh _ List.mem_cons_self rfl
  have hin2:insD p.ins ls (atI0 ls)=(acc ++ [(d,Zgw ls a d)]) ++ insD (p.ins.drop (j + 1)) ls (Zht a d):=by rw [hin,List.append_assoc]; rfl
  have hf1:=hdi.f1
  have hf2:=hdi.f2
  have efr:((frmD d:Nat):Int)=d.frm - 1:=by unfold frmD; omega
  have hfI:IntKind.i64.wrap (d.frm - 1)=((frmD d:Nat):Int):=by
   rw [efr,wrap_i64] <;> omega
  have hsz:Zbr d ≤ 64:=by have:=hdi.s2; unfold Zbr; omega
  have hs1:=hdi.s1
  have hs2:=hdi.s2
  have gl:=Zlc hf
  obtain ⟨okl,okw⟩:=ok.get (frmD d)
  have gt:=Zai B.t
  have hfa:frmD d < a.length:=by omega
  have ga:=Zef hfa
  have hfI':((frmD d:Nat):Int) < ((ls.length:Nat):Int):=by omega
  have wN:IntKind.i64.wrap (((a.getD (frmD d) 0:Nat):Int) + ((Zbr d:Nat):Int))=((a.getD (frmD d) 0 + Zbr d:Nat):Int):=by rw [wrap_i64] <;> omega
  have sd:=slc_drop (xs:=Ws (ls.getD (frmD d) [])) (c:=.any) (i:=a.getD (frmD d) 0) (sz:=1) (k:=.i64) (by rw [Za7]; omega) Ws_cells (by simp)
  rw [Ws_drop] at sd
  have stw:=fun ρ m n' u=>Zbv (ρ:=ρ) (m:=m) (n:=n') (u:=u) (j:=frmD d) (v:=I ((a.getD (frmD d) 0 + Zbr d:Nat):Int)) gt (by rw [Zby]; omega) rfl rfl
  rw [Zhv] at stw
  have B2:=B.step (a':=Zht a d)
  unfold Zht at B2 hr hin2
  have hal2:(a.set (frmD d) (a.getD (frmD d) 0 + Zbr d)).length=ls.length:=by rw [List.length_set]; exact hal
  simp -dsimp -implicitDefEqProofs only [↓STP,STQ,seval,Int.ofNat_lt,hi,hget,Zam,Zae,LV,gl,hfI,eq_true hfI',Nat.mul_one,gt,ga,sd]
  rw [← Zam]
  refine sizeI hs1 ?_
  simp -dsimp -implicitDefEqProofs only [↓STP,STQ,seval,Zam,hfI,eq_true hfI',Nat.mul_one,gt,ga,wN,stw]
  unfold Zgw at hin2 hwid
  generalize frmD d=f at *
  generalize hld:ls.getD f []=l at *
  generalize hkd:a.getD f 0=k0 at *
  generalize hN:Zbr d=N at *
  generalize hhs:h'.set (h1.next + 3) (.cells (Zau (a.set f (k0 + N))))=h2 at *
  have hN1:1 ≤ N:=by rw [← hN]; unfold Zbr; omega
  have hwl:((l.drop k0).take N).length=N:=by rw [List.length_take,List.length_drop]; omega
  by_cases hz:d.size=0
  ·obtain ⟨vf,hvf⟩:=B2.f
   have hg0:(Ws (l.drop k0))[0]?=some (W (((l.drop k0).take N).getD 0 0)):=by
    rw [Zmn,List.getD_eq_getElem?_getD,List.getElem?_take,if_pos (by omega),List.getElem?_eq_getElem (by rw [List.length_drop]; omega)]; rfl
   obtain ⟨ver',hup⟩:=Ze9 (f:=wV) (s:=d.name) (v:=((l.drop k0).take N).getD 0 0) hvf
   rw [Zcm (fun hh=>hname (scalL_keys.subset hh))] at hup
   have hup:mupV h2 .s (.map h1.next) (.str d.name) (W (((l.drop k0).take N).getD 0 0))=_:=hup
   simp -dsimp -implicitDefEqProofs only [↓STP,STQ,seval,eq_true hz,hg0,hup,w1]
   refine ⟨p.ins.length - (j + 1),by omega,j + 1,_,_,acc ++ [(d,(l.drop k0).take N)],ws,hi,rfl,hal2,hr,hin2,?_,rfl⟩
   have e1:Zca (acc ++ [(d,(l.drop k0).take N)])=Zca acc ++ [(d.name,((l.drop k0).take N).getD 0 0)]:=by rw [Zea]; simp only [Zca]; rw [if_pos hz]
   have e2:arrL (acc ++ [(d,(l.drop k0).take N)])=arrL acc:=by rw [Zgm]; simp only [arrL]; rw [if_pos hz,List.append_nil]
   rw [e1,e2]
   exact B2.scal
  ·obtain ⟨vw,hvw⟩:=B2.w
   have gx:=Zai B2.x
   have hsN:d.size=((N:Nat):Int):=by rw [← hN]; unfold Zbr; omega
   have sl:slcV (.vec (Ws (l.drop k0)) .any) none (some (I d.size)) none 1=some (.vec (Ws ((l.drop k0).take N)) .any):=by
    rw [hsN,slc_take (by rw [Za7,List.length_drop]; omega) (by simp),Ws_take]
   have hwm:d.name ∉ ws.map (·.1):=by rw [B2.keys]; exact fun hh=>hname (arrL_keys.subset hh)
   have hvw3:(h2.new (.cells (Ws ((l.drop k0).take N)))).objs (h1.next + 1)=some (.map (mapO refV ws) vw):=by rw [Zac,if_neg (by have:=B2.nx; omega)]; exact hvw
   obtain ⟨ver',hup⟩:=Ze9 (f:=refV) (s:=d.name) (v:=(h2.next,N)) hvw3
   rw [Zcm hwm,show refV (h2.next,N)=V.ref h2.next 0 N 1 from rfl] at hup
   have ap:=fun (st:S) (q:Nat) (c:Cap)=>app_newWs (st:=st) (s:=q) (l:=(l.drop k0).take N) (c:=c) (by omega) (by omega)
   rw [hwl] at ap
   have B3:=B2.array (y:=d.name) (l:=(l.drop k0).take N) (ver:=ver') (fun hh=>hname (arrL_keys.subset hh))
   rw [hwl] at B3
   have gx3:(h2.new (.cells (Ws ((l.drop k0).take N)))).get (h1.next + 2)=some [.nilmap,.map (h1.next + 1),.vec [] .full]:=Zai (by rw [Zac,if_neg (by have:=B2.nx; omega)]; exact B2.x)
   simp -dsimp -implicitDefEqProofs only [↓STP,STQ,seval,eq_false hz,gx,sl,ap,gx3,hup,w1]
   refine ⟨p.ins.length - (j + 1),by omega,j + 1,_,_,acc ++ [(d,(l.drop k0).take N)],ws ++ [(d.name,h2.next,N)],hi,rfl,hal2,hr,hin2,?_,rfl⟩
   have e1:Zca (acc ++ [(d,(l.drop k0).take N)])=Zca acc:=by rw [Zea]; simp only [Zca]; rw [if_neg hz,List.append_nil]
   have e2:arrL (acc ++ [(d,(l.drop k0).take N)])=arrL acc ++ [(d.name,(l.drop k0).take N)]:=by rw [Zgm]; simp only [arrL]; rw [if_neg hz]
   rw [e1,e2]
   exact B3
 ·have hj':j=p.ins.length:=by omega
  subst hj'
  rw [List.drop_length,insD,List.append_nil] at hin
  rw [← hin] at B
  simp -dsimp -implicitDefEqProofs only [↓STP,STQ,seval,Int.lt_irrefl]
  generalize hes:Zca (insD p.ins ls (atI0 ls))=es at *
  generalize hwd:arrL (insD p.ins ls (atI0 ls))=wd0 at *
  refine Zal (fun c s'=>∃ j h' ws,j ≤ p.arrays.length∧c=p.arrays.length - j∧Bi h1.next h1 es ws (wd0 ++ zerL (p.arrays.take j)) a h' ∧
   s'=⟨upd (upd (upd (upd (upd (upd ρ0 2 (.lptr 0 3 0)) 7 (.map h1.next)) 8 (.ptr (h1.next + 2) 0)) 80 (.vec (p.arrays.map ArD.v) .any)) 81 (I p.arrays.length)) 82 (I j),upd m0 0 (some [.vec (p.ins.map InD.v) .any,.vec (p.arrays.map ArD.v) .any,.vec (p.body.map Stm.v) .any]),1,[],h'⟩)
   (i:=p.arrays.length) ⟨0,h',ws,Nat.zero_le _,rfl,by rw [List.take_zero,show zerL []=[] from rfl,List.append_nil]; exact B,by simp -dsimp -implicitDefEqProofs only [↓STP,STQ,seval,List.length_map] <;> rfl⟩ ?_ mono
  clear B
  rintro cc s' ⟨j,h',ws,hj,rfl,B,rfl⟩
  rcases Nat.lt_or_ge j p.arrays.length with hi | hi
  ·have hget:=Za6 (f:=ArD.v) hi
   have hdm:p.arrays[j] ∈ p.arrays:=List.getElem_mem hi
   have hdi:=v.ars _ hdm
   have w1:=wiM (show j < 9223372036854775807 by omega)
   have htk:p.arrays.take (j + 1)=p.arrays.take j ++ [p.arrays[j]]:=by rw [List.take_add_one,List.getElem?_eq_getElem hi]; rfl
   have hnew:p.arrays[j].name ∉ (wd0 ++ zerL (p.arrays.take j)).map (·.1):=by
    have hnm:=hp.nm
    have e:p.arrays=p.arrays.take j ++ p.arrays[j] :: p.arrays.drop (j + 1):=by rw [← List.drop_eq_getElem_cons hi,List.take_append_drop]
    rw [List.map_append,List.mem_append]
    rintro (hh | hh)
    ·rw [← hwd] at hh
     have h3:=arrL_keys.subset hh
     rw [Zci] at h3
     exact (List.nodup_append.1 hnm).2.2 _ h3 _ (List.mem_map.2 ⟨_,hdm,rfl⟩) rfl
    ·have h2:=(List.nodup_append.1 hnm).2.1
     rw [e,List.map_append,List.map_cons] at h2
     rw [Zjr] at hh
     exact (List.nodup_append.1 h2).2.2 _ hh _ List.mem_cons_self rfl
   generalize p.arrays[j]=d at *
   have hs1:=hdi.s1
   have hs2:=hdi.s2
   have hsN:d.size=((d.size.toNat:Nat):Int):=by omega
   obtain ⟨vw,hvw⟩:=B.w
   have gx:=Zai B.x
   have hwm:d.name ∉ ws.map (·.1):=by rw [B.keys]; exact hnew
   have hvw3:(h'.new (.cells (Ws (List.replicate d.size.toNat 0)))).objs (h1.next + 1)=some (.map (mapO refV ws) vw):=by rw [Zac,if_neg (by have:=B.nx; omega)]; exact hvw
   obtain ⟨ver',hup⟩:=Ze9 (f:=refV) (s:=d.name) (v:=(h'.next,d.size.toNat)) hvw3
   rw [Zcm hwm,show refV (h'.next,d.size.toNat)=V.ref h'.next 0 d.size.toNat 1 from rfl] at hup
   have mk:mksN (I d.size) (I d.size) 1 8=some d.size.toNat:=by rw [hsN,Zig (by omega) (by decide) (by decide)]; rfl
   have B3:=B.array (y:=d.name) (l:=List.replicate d.size.toNat 0) (ver:=ver') hnew
   rw [List.length_replicate] at B3
   have gx3:(h'.new (.cells (Ws (List.replicate d.size.toNat 0)))).get (h1.next + 2)=some [.nilmap,.map (h1.next + 1),.vec [] .full]:=Zai (by rw [Zac,if_neg (by have:=B.nx; omega)]; exact B.x)
   simp -dsimp -implicitDefEqProofs only [↓STP,STQ,seval,Int.ofNat_lt,hi,hget,ArD.v_cells,ArD.v_clen,Zae,gx,mk,Ws_zeros,gx3,hup,w1]
   refine ⟨p.arrays.length - (j + 1),by omega,j + 1,_,ws ++ [(d.name,h'.next,d.size.toNat)],hi,rfl,?_,rfl⟩
   rw [htk,Zjq,← List.append_assoc]
   exact B3
  ·have hj':j=p.arrays.length:=by omega
   subst hj'
   rw [List.take_length] at B
   obtain ⟨vf,hvf⟩:=B.f
   have nx:=B.nx
   simp -dsimp -implicitDefEqProofs only [↓STP,STQ,seval,Int.lt_irrefl]
   refine clone2G hvf ?_
   have gx:=Zai (show (h'.new (.map (mapO wV es) 0)).objs (h1.next + 2)=_ by rw [Zac,if_neg (by omega)]; exact B.x)
   have st:∀ ρ m n' u,Zae ⟨ρ,m,n',u,h'.new (.map (mapO wV es) 0)⟩ (.ptr (h1.next + 2) 0) (.map h'.next) 1=some ⟨ρ,m,n',u,(h'.new (.map (mapO wV es) 0)).set (h1.next + 2) (.cells [.map h'.next,.map (h1.next + 1),.vec [] .full])⟩:=fun ρ m n' u=>Zbv (j:=0) gx (show 0 < 3 by decide) rfl rfl
   generalize hh5:(h'.new (.map (mapO wV es) 0)).set (h1.next + 2) (.cells [.map h'.next,.map (h1.next + 1),.vec [] .full])=h5 at *
   simp -dsimp -implicitDefEqProofs only [↓STP,STQ,seval,st]
   have objs5:∀ j,j < h'.next→j ≠ h1.next + 2→h5.objs j=h'.objs j:=fun j hj hne=>by rw [← hh5,Zaa,if_neg hne,Zac,if_neg (by omega)]
   have next5:h5.next=h'.next + 1:=by rw [← hh5]; rfl
   have A:AtI p ⟨h1.next + 2,h'.next,h1.next + 1,h1.next + 3,.vec [] .full,es,ws⟩ (Zcc p ls) h5:=by
    have hkn:((wd0 ++ zerL p.arrays).map (·.1)).Nodup:=by
     rw [List.map_append,Zjr,← hwd]
     refine List.Nodup.sublist ?_ hp.nm
     have:=arrL_keys (l:=insD p.ins ls (atI0 ls))
     rw [Zci] at this
     exact List.Sublist.append this (List.Sublist.refl _)
    refine ⟨by rw [← hh5,Zaa,if_pos rfl],⟨0,?_⟩,?_,fun y=>?_,?_,fun i d hd=>?_,fun y d hd hz=>?_,⟨fun c hc=>(by cases hc),.inl ⟨rfl,rfl⟩⟩,by rw [B.keys]; exact hkn,?_,fun id hi=>?_⟩
    ·show h5.objs h'.next=_
     rw [← hh5,Zaa,if_neg (by omega),Zac,if_pos rfl]
    ·show ∃ ver,h5.objs (h1.next + 1)=_
     rw [objs5 _ (by omega) (by omega)]; exact B.w
    ·show Zaf y es=Zaf y (Zca (insD p.ins ls (atI0 ls)))
     rw [hes]
    ·show (es.map (·.1)).Nodup
     rw [← hes]
     exact List.Nodup.sublist scalL_keys hnd
    ·have hmem:(d.name,List.replicate d.size.toNat 0) ∈ wd0 ++ zerL p.arrays:=List.mem_append_right _ (List.mem_map.2 ⟨d,List.mem_of_getElem? hd,rfl⟩)
     obtain ⟨id,q1,q2⟩:=B.cs _ _ (Zbh hkn hmem)
     have:=B.lt _ (Za8 q1)
     simp only at this
     refine ⟨id,_,?_,q1,by rw [objs5 _ (by omega) (by omega)]; exact q2⟩
     show (p.arrays.map fun d=>List.replicate d.size.toNat 0)[i]?=_
     rw [List.getElem?_map,hd]; rfl
    ·obtain ⟨us,_,_,h2⟩:=Zjc (List.nodup_append.1 hp.nm).1 (ls:=ls) hd
     have h2:=h2 hz
     have e:(Zcc p ls).inw y=us:=by show (Zaf y _).getD []=us; rw [h2]; rfl
     rw [hwd] at h2
     obtain ⟨id,q1,q2⟩:=B.cs y us (Zd7 h2)
     have:=B.lt _ (Za8 q1)
     simp only at this
     rw [e]
     exact ⟨id,q1,by rw [objs5 _ (by omega) (by omega)]; exact q2⟩
    ·have hl:∀ i ∈ ws.map (fun r=>r.2.1),h1.next + 4 ≤ i∧i < h'.next:=fun i hi=>by
      obtain ⟨r,hr,rfl⟩:=List.mem_map.1 hi
      exact B.lt r hr
     have no:∀ i,(i < h1.next + 4∨h'.next ≤ i)→i ∉ ws.map (fun r=>r.2.1):=fun i hi hm=>by have:=hl i hm; omega
     simp only [Ik.own,List.cons_append,List.nil_append,List.nodup_cons,List.mem_cons,not_or]
     exact ⟨⟨by omega,by omega,by omega,no _ (by omega)⟩,⟨by omega,by omega,no _ (by omega)⟩,⟨by omega,no _ (by omega)⟩,no _ (by omega),B.ids⟩
    ·simp only [Ik.own,List.cons_append,List.nil_append,List.mem_cons] at hi
     rw [next5]
     rcases hi with e | e | e | e | e
     ·omega
     ·omega
     ·omega
     ·omega
     ·obtain ⟨r,hr,rfl⟩:=List.mem_map.1 e
      have:=B.lt r hr; omega
   have own5:∀ id,id < h1.next→id ∉ Ik.own ⟨h1.next + 2,h'.next,h1.next + 1,h1.next + 3,.vec [] .full,es,ws⟩:=fun id hl hi=>by
    simp only [Ik.own,List.cons_append,List.nil_append,List.mem_cons] at hi
    rcases hi with e | e | e | e | e
    ·omega
    ·omega
    ·omega
    ·omega
    ·obtain ⟨r,hr,rfl⟩:=List.mem_map.1 e
     have:=B.lt r hr; omega
   refine bodyI hp v.ok.lb v.body v.ok.body (Ze1 p) σ ⟨h1.next + 2,h'.next,h1.next + 1,h1.next + 3,.vec [] .full,es,ws⟩ (Zcc p ls) h5 _ A (ag_start hp hf) (Zjn v.ins v.ars) hs fun L6 h6 A6 F6=>?_
   have gx6:=Zai A6.x
   rw [F6.x] at gx6
   have gx6:h6.get (h1.next + 2)=some [.map L6.v,.map L6.w,L6.tv]:=gx6
   have u6:UpH h1 h6:=⟨by have:=F6.nx; omega,fun j hj=>by rw [F6.same j (by omega) (own5 j hj),objs5 j (by omega) (by omega)]; exact B.old j hj⟩
   have ho:outX p ls=(Za9 p p.body (Zcc p ls)).told:=rfl
   rw [ho] at hK
   have g6:=A6.told.2
   generalize (Za9 p p.body (Zcc p ls)).told=told at hK g6
   rcases g6 with ⟨e1,e2⟩ | ⟨e1,e2,e3⟩
   ·have e1:told=[]:=List.map_eq_nil_iff.1 e1
    simp -dsimp -implicitDefEqProofs only [↓STP,STQ,seval,gx6,e2]
    exact hK h6 _ (u1.trans u6) (.inl (by rw [e1]; rfl))
   ·rw [List.length_map] at e2
    have e3:h6.get L6.t=some (Ws told):=by rw [e3,told_flat]
    simp -dsimp -implicitDefEqProofs only [↓STP,STQ,seval,gx6,e2]
    exact hK h6 _ (u1.trans u6) (.inr ⟨L6.t,A6.lt _ Ik.mem.2.2.2,rfl,e3⟩)
end
end YtljoifdccjcidaaDoor
end Go.Ab
namespace Go.Ab
namespace YtljoifdccjcidaaDoor
section
variable {h:H} {K:Out→H→Prop}
def ShE (l:List Exp):Prop:=∀ (level left:Int) (h:H) (K:Out→H→Prop),(∀ n:Int,K (.ret (I n)) h)→R 55 [.vec (l.map Exp.v) .any,I level,I left] h K
def ShS (l:List Stm):Prop:=∀ (level left:Int) (h:H) (K:Out→H→Prop),(∀ n:Int,K (.ret (I n)) h)→R 39 [.vec (l.map Stm.v) .any,I level,I left] h K
theorem shE_of (l:List Exp) (hl:l.length ≤ maxLen) (ih:∀ x ∈ l,ShE x.kids):ShE l:=by
 intro level left h K hK
 have hm:=Zap
 refine run55 (Nat.le_of_ble_eq_true rfl) ?_
 simp -dsimp -implicitDefEqProofs only [↓STP,STQ,seval,ir55]
 refine Zal (fun k st=>∃ (i:Nat) (t:Int),k=l.length - i∧i ≤ l.length∧st=⟨upd (upd (upd (upd ρ0 0 (.vec (l.map Exp.v) .any)) 1 (I level)) 2 (I t)) 7 (I i),m0,0,[],h⟩) (i:=l.length) ?_ ?_ mono
 ·exact ⟨0,_,by omega,Nat.zero_le _,rfl⟩
 rintro k st ⟨i,t,rfl,hi,rfl⟩
 by_cases hlt:i < l.length
 rotate_left
 ·have:i=l.length:=by omega
  subst this
  simp -dsimp -implicitDefEqProofs only [↓STP,STQ,seval,List.length_map,Int.lt_irrefl]
  exact hK _
 have hget:=Za6 (f:=Exp.v) hlt
 have ihx:=ih _ (List.getElem_mem hlt)
 have w1:=wiM (show i < 9223372036854775807 by omega)
 generalize l[i]=x at *
 by_cases c:0 ≤ t
 rotate_left
 ·simp -dsimp -implicitDefEqProofs only [↓STP,STQ,seval,List.length_map,Int.ofNat_lt,hlt,eq_false c]
  exact hK _
 by_cases d:40 < level
 ·simp -dsimp -implicitDefEqProofs only [↓STP,STQ,seval,List.length_map,Int.ofNat_lt,hlt,eq_true c,eq_true d]
  exact hK _
 obtain ⟨k,o,n,s,ks⟩:=x
 simp -dsimp -implicitDefEqProofs only [↓STP,STQ,seval,List.length_map,Int.ofNat_lt,hlt,eq_true c,eq_false d,hget,Exp.v_mk]
 refine ihx _ _ _ _ fun n=>?_
 simp -dsimp -implicitDefEqProofs only [↓STP,STQ,seval,w1]
 exact ⟨l.length - (i + 1),by omega,i + 1,_,rfl,by omega,rfl⟩
theorem shE_kids (e:Exp):EOk e→ShE e.kids:=by
 induction e using Exp.ind with
 | h k o n s ks ih =>
  intro ok
  obtain ⟨_,_,_,_,hl,hks⟩:=Zi2 ok
  exact shE_of ks hl fun x hx=>ih x hx (hks x hx)
theorem shE {l:List Exp} (hl:l.length ≤ maxLen) (ok:∀ x ∈ l,EOk x):ShE l:=shE_of l hl fun x hx=>shE_kids x (ok x hx)
theorem shS_of (l:List Stm) (hl:l.length ≤ maxLen) (ihe:∀ x ∈ l,ShE x.e) (iha:∀ x ∈ l,ShS x.thn) (ihb:∀ x ∈ l,ShS x.els):ShS l:=by
 intro level left h K hK
 have hm:=Zap
 refine run39 (Nat.le_of_ble_eq_true rfl) ?_
 simp -dsimp -implicitDefEqProofs only [↓STP,STQ,seval,ir39]
 refine Zal (fun k st=>∃ (i:Nat) (t:Int),k=l.length - i∧i ≤ l.length∧st=⟨upd (upd (upd (upd ρ0 0 (.vec (l.map Stm.v) .any)) 1 (I level)) 2 (I t)) 7 (I i),m0,0,[],h⟩) (i:=l.length) ?_ ?_ mono
 ·exact ⟨0,_,by omega,Nat.zero_le _,rfl⟩
 rintro k st ⟨i,t,rfl,hi,rfl⟩
 by_cases hlt:i < l.length
 rotate_left
 ·have:i=l.length:=by omega
  subst this
  simp -dsimp -implicitDefEqProofs only [↓STP,STQ,seval,List.length_map,Int.lt_irrefl]
  exact hK _
 have hget:=Za6 (f:=Stm.v) hlt
 have ihx:=ihe _ (List.getElem_mem hlt)
 have ihy:=iha _ (List.getElem_mem hlt)
 have ihz:=ihb _ (List.getElem_mem hlt)
 have w1:=wiM (show i < 9223372036854775807 by omega)
 generalize l[i]=x at *
 by_cases c:0 ≤ t
 rotate_left
 ·simp -dsimp -implicitDefEqProofs only [↓STP,STQ,seval,List.length_map,Int.ofNat_lt,hlt,eq_false c]
  exact hK _
 by_cases d:40 < level
 ·simp -dsimp -implicitDefEqProofs only [↓STP,STQ,seval,List.length_map,Int.ofNat_lt,hlt,eq_true c,eq_true d]
  exact hK _
 obtain ⟨k,s,e,a,b⟩:=x
 simp -dsimp -implicitDefEqProofs only [↓STP,STQ,seval,List.length_map,Int.ofNat_lt,hlt,eq_true c,eq_false d,hget,Stm.v_mk]
 refine ihx _ _ _ _ fun n=>?_
 simp -dsimp -implicitDefEqProofs only [↓STP,STQ,seval,hget,Stm.v_mk]
 refine ihy _ _ _ _ fun n=>?_
 simp -dsimp -implicitDefEqProofs only [↓STP,STQ,seval,hget,Stm.v_mk]
 refine ihz _ _ _ _ fun n=>?_
 simp -dsimp -implicitDefEqProofs only [↓STP,STQ,seval,w1]
 exact ⟨l.length - (i + 1),by omega,i + 1,_,rfl,by omega,rfl⟩
theorem Zj8 (x:Stm):SOk x→ShE x.e∧ShS x.thn∧ShS x.els:=by
 induction x using Stm.ind with
 | h k s e a b iha ihb =>
  intro ok
  obtain ⟨_,hs,hle,hla,hlb,oke,oka,okb⟩:=Zfc ok
  exact ⟨shE hle oke,shS_of a hla (fun x hx=>(iha x hx (oka x hx)).1) (fun x hx=>(iha x hx (oka x hx)).2.1) (fun x hx=>(iha x hx (oka x hx)).2.2),
   shS_of b hlb (fun x hx=>(ihb x hx (okb x hx)).1) (fun x hx=>(ihb x hx (okb x hx)).2.1) (fun x hx=>(ihb x hx (okb x hx)).2.2)⟩
theorem shS {l:List Stm} (hl:l.length ≤ maxLen) (ok:∀ x ∈ l,SOk x):ShS l:=
 shS_of l hl (fun x hx=>(Zj8 x (ok x hx)).1) (fun x hx=>(Zj8 x (ok x hx)).2.1) (fun x hx=>(Zj8 x (ok x hx)).2.2)
theorem few27L {p:Prg} (ok:POk p) {n:Int} (hK:∀ b:Bool,(b=true→p.ins.length ≤ 40∧p.arrays.length ≤ 40)→K (.ret (.bool b)) h):R 26 [p.v,I n] h K:=by
 refine run26 (Nat.le_of_ble_eq_true rfl) ?_
 by_cases a:(p.ins.length:Int) ≤ 40
 rotate_left
 ·simp -dsimp -implicitDefEqProofs only [↓STP,STQ,seval,Prg.v,Prg.cells,ir26,List.length_map,eq_false a]
  exact hK _ (fun hh=>by cases hh)
 by_cases b:(p.arrays.length:Int) ≤ 40
 rotate_left
 ·simp -dsimp -implicitDefEqProofs only [↓STP,STQ,seval,Prg.v,Prg.cells,ir26,List.length_map,eq_true a,eq_false b]
  exact hK _ (fun hh=>by cases hh)
 simp -dsimp -implicitDefEqProofs only [↓STP,STQ,seval,Prg.v,Prg.cells,ir26,List.length_map,eq_true a,eq_true b]
 refine shS ok.lb ok.body _ _ _ _ fun n=>?_
 simp -dsimp -implicitDefEqProofs only [↓STP,STQ,seval]
 exact hK _ fun _=>⟨by omega,by omega⟩
end
end YtljoifdccjcidaaDoor
end Go.Ab
namespace Go.Ab
def WordsOk (ls:List (List Nat)):Prop:=∀ l ∈ ls,∀ v ∈ l,v < 18446744073709551616
theorem map_lists {P:Program} {t e:TypeId} {css:List (List V)} (ht:P.underlying t=some (.slice e)) (he:P.underlying e=some (.int .u64)) (hc:∀ cs ∈ css,Ty P t cs):∃ ls:List (List Nat),css.map (mkEl false)=ls.map (fun l=>V.vec (Ws l) .any)∧ls.length=css.length∧WordsOk ls:=by
 induction css with
 | nil=>exact ⟨[],rfl,rfl,fun l hl=>by cases hl⟩
 | cons cs css ih =>
  obtain ⟨ag,es,ha,h0,hc1,hl⟩:=Zmr ht (hc cs (by simp))
  rw [agg_int he] at ha; cases ha
  obtain ⟨n,h1,h2,h3⟩:=map_ints he hc1
  obtain ⟨ws,g1,g2,g3⟩:=Ns_words h3
  obtain ⟨ls,i1,i2,i3⟩:=ih (fun cs h=>hc cs (by simp [h]))
  refine ⟨ws :: ls,by rw [List.map_cons,List.map_cons,i1,h0,h1,g1]; rfl,by simp [i2],fun l hl=>?_⟩
  rcases List.mem_cons.1 hl with rfl | hl
  ·exact g3
  ·exact i3 l hl
theorem arg_lists {P:Program} {t e u:TypeId} {v:V} (ht:P.underlying t=some (.slice e)) (he:P.underlying e=some (.slice u)) (hu:P.underlying u=some (.int .u64)) (h:TyArg P t v):∃ ls:List (List Nat),v=LV ls∧ls.length ≤ maxLen∧WordsOk ls:=by
 obtain ⟨ag,cs,ha,rfl,h⟩:=h
 rw [agg_slice ht] at ha; cases ha
 obtain ⟨ag,css,ha,rfl,hc,hl⟩:=Zmr ht h
 rw [agg_slice he] at ha; cases ha
 obtain ⟨ls,h1,h2,h3⟩:=map_lists he hu hc
 exact ⟨ls,by simp [mkEl,h1,LV],by omega,h3⟩
namespace YtljoifdccjcidaaDoor
section
variable {h:H} {K:Out→H→Prop}
theorem few30L {p:Prg} (ok:POk p) (hb:p.v.bulk ≤ 20000000) {ls:List (List Nat)} (hl:ls.length ≤ maxLen) (hw:WordsOk ls) {n:Int} (hK:∀ b:Bool,(b=true→VP p∧ls.length ≤ 20∧(∀ l ∈ ls,l.length ≤ 200)∧p.ins.length ≤ 40∧p.arrays.length ≤ 40)→K (.ret (.bool b)) h):R 12 [p.v,LV ls,I n] h K:=by
 have hm:=Zap
 refine run12 (Nat.le_of_ble_eq_true rfl) ?_
 have hv0:p.v=V.agg [.vec (p.ins.map InD.v) .any,.vec (p.arrays.map ArD.v) .any,.vec (p.body.map Stm.v) .any]:=rfl
 have hL:LV ls=.vec (ls.map fun l=>.vec (Ws l) .any) .any:=rfl
 by_cases c:(20:Int) < (ls.length:Int)
 ·simp -dsimp -implicitDefEqProofs only [↓STP,STQ,seval,ir12,hv0,hL,List.length_map,eq_true c]
  exact hK false fun hh=>by cases hh
 simp -dsimp -implicitDefEqProofs only [↓STP,STQ,seval,ir12,hv0,hL,List.length_map,eq_false c]
 rw [← hv0]
 refine few27L ok fun b hin=>?_
 cases b with
 | false =>
  simp -dsimp -implicitDefEqProofs only [↓STP,STQ,seval]
  exact hK false fun hh=>by cases hh
 | true =>
 obtain ⟨li,la⟩:=hin rfl
 simp -dsimp -implicitDefEqProofs only [↓STP,STQ,seval,hv0,hL]
 refine Zar (N:=ls.length) (fun i=>⟨upd (upd (upd ρ0 1 (LV ls)) 3 (.lptr 0 3 0)) 7 (I i),upd m0 0 (some [.vec (p.ins.map InD.v) .any,.vec (p.arrays.map ArD.v) .any,.vec (p.body.map Stm.v) .any]),1,[],h⟩) (fun i=>∀ l ∈ ls.take i,l.length ≤ 200) (by simp -dsimp -implicitDefEqProofs only [↓STP,STQ,seval,LV] <;> rfl) (by simp) (fun i hlt hp=>?_) (fun hp=>?_) mono
 ·have gl:=Zlc hlt
  have hltI:((i:Nat):Int) < ((ls.length:Nat):Int):=by omega
  have w1:=wiM (show i < 9223372036854775807 by omega)
  have htk:ls.take (i + 1)=ls.take i ++ [ls.getD i []]:=by rw [List.take_add_one,List.getD_eq_getElem?_getD,List.getElem?_eq_getElem hlt]; rfl
  by_cases d:(200:Int) < ((ls.getD i []).length:Int)
  ·simp -dsimp -implicitDefEqProofs only [↓STP,STQ,seval,LV,List.length_map,eq_true hltI,gl,Za7,eq_true d]
   exact hK false fun hh=>by cases hh
  ·simp -dsimp -implicitDefEqProofs only [↓STP,STQ,seval,LV,List.length_map,eq_true hltI,gl,Za7,eq_false d,w1]
   intro l hl
   rw [htk] at hl
   rcases List.mem_append.1 hl with hl | hl
   ·exact hp l hl
   ·rw [List.mem_singleton] at hl; subst hl; omega
 ·rw [List.take_length] at hp
  simp -dsimp -implicitDefEqProofs only [↓STP,STQ,seval,LV,List.length_map,Int.lt_irrefl]
  rw [← hv0]
  refine valid27 ok (fun _ _ hv=>by have:=flen_bulk ok hv; omega) fun b hb=>?_
  simp -dsimp -implicitDefEqProofs only [↓STP,STQ,seval]
  exact hK _ fun hh=>⟨hb.1 hh,by omega,hp,li,la⟩
end
end YtljoifdccjcidaaDoor
end Go.Ab
namespace Go.Ab
def Zcs (y:ByteArray):Exp:=.mk 2 0 0 y []
def eOp (k:Int) (a b:Exp):Exp:=.mk 4 k 0 noName [a,b]
def eNot (a:Exp):Exp:=.mk 5 0 0 noName [a]
def eSel (c a b:Exp):Exp:=.mk 6 0 0 noName [c,a,b]
def sOut (e:Exp):Stm:=.mk 5 noName [e] [] []
theorem run_out {p:Prg} {e:Exp} {s:RS}:runX p (sOut e) s={ s with told:=s.told ++ [valX p s e] }:=by rw [sOut,runX_mk]; rfl
theorem val_name {p:Prg} {s:RS} {y:ByteArray}:valX p s (Zcs y)=(s.vars y).getD 0:=by unfold Zcs; rw [Zh8]; rfl
theorem val_sel {p:Prg} {s:RS} {c a b:Exp}:valX p s (eSel c a b)=if valX p s c=1 then valX p s a else valX p s b:=by unfold eSel; rw [Zh8]; rfl
theorem val_op {p:Prg} {s:RS} {k:Int} {a b:Exp}:valX p s (eOp k a b)=opX k (valX p s a) (valX p s b):=by unfold eOp; rw [Zh8]; rfl
theorem errI_of_error {p:Prg} {ls:List (List Nat)} {e:Int} (h:Zbk p=.error e) (hn:e ≠ 0):errI p ls=e:=by
 unfold errI
 rw [h,if_pos (show errT (.error e) ≠ 0 from hn)]; rfl
theorem Zim {p:Prg} {ls:List (List Nat)} {σ:TS} (h:Zbk p=.ok σ):errI p ls=if fitB p ls then 0 else 1:=by
 unfold errI
 rw [h,if_neg (by simp [errT])]
end Go.Ab
namespace Go.Ab.YtljoifdccjcidaaDoor
section
variable {h:H} {K:Out→H→Prop}
theorem same03W {a b:List Nat} {av bv:V} (ha:WordsAt h av a) (hb:WordsAt h bv b) (hl:a.length ≤ 20000) (hK:K (.ret (.bool (decide (a=b)))) h):R 15 [av,bv] h K:=by
 obtain ⟨p1,p2,p3,p4⟩:=ha.out
 obtain ⟨o1,o2,o3,o4⟩:=hb.out
 refine run15 (Nat.le_of_ble_eq_true rfl) ?_
 by_cases hlen:(a.length:Int)=b.length
 ·simp -dsimp -implicitDefEqProofs only [↓STP,STQ,seval,ir15,p4,o4,hlen]
  have hlen':a.length=b.length:=by omega
  refine Zar (N:=a.length) (fun i=>⟨upd (upd (upd ρ0 0 av) 1 bv) 5 (I i),m0,0,[],h⟩) (fun i=>a.take i=b.take i) (by simp -dsimp -implicitDefEqProofs only [↓STP,STQ,seval,p3,o3] <;> rfl) rfl (fun i hlt htk=>?_) (fun htk=>?_) mono
  ·obtain ⟨ptr1,r1,r2⟩:=ha.idx hlt
   obtain ⟨ptr,q1,q2⟩:=hb.idx (i:=i) (by omega)
   by_cases he:(a[i]:Int)=((b[i]'(by omega):Nat):Int)
   ·simp -dsimp -implicitDefEqProofs only [↓STP,STQ,seval,p4,o4,Int.ofNat_lt,hlt,r1,r2,q1,q2,he,wi (show i < 9000000000000000000 by omega),p3,o3]
    rw [List.take_add_one,List.take_add_one,htk,List.getElem?_eq_getElem hlt,List.getElem?_eq_getElem (by omega)]
    have:a[i]=b[i]'(by omega):=by omega
    rw [this]
   ·simp -dsimp -implicitDefEqProofs only [↓STP,STQ,seval,p4,o4,Int.ofNat_lt,hlt,r1,r2,q1,q2,he]
    have:a ≠ b:=fun h=>he (by subst h; rfl)
    rw [decide_eq_false this] at hK
    exact hK
  ·simp -dsimp -implicitDefEqProofs only [↓STP,STQ,seval,p4,o4,Int.lt_irrefl]
   have:a=b:=by
    have e1:a.take a.length=a:=List.take_of_length_le (by omega)
    have e2:b.take a.length=b:=List.take_of_length_le (by omega)
    rw [← e1,← e2,htk]
   rw [decide_eq_true this] at hK
   exact hK
 ·simp -dsimp -implicitDefEqProofs only [↓STP,STQ,seval,ir15,p4,o4,hlen]
  have:a ≠ b:=fun h=>hlen (by subst h; rfl)
  rw [decide_eq_false this] at hK
  exact hK
end
end Go.Ab.YtljoifdccjcidaaDoor
namespace Go.Ab
def nA:ByteArray:=⟨#[97]⟩
def nB:ByteArray:=⟨#[98]⟩
def nC:ByteArray:=⟨#[99]⟩
theorem isA:Zdw nA:=⟨by decide,by decide,⟨97,[],rfl,by decide⟩,by decide,by simp [words26,nA]⟩
theorem isB:Zdw nB:=⟨by decide,by decide,⟨98,[],rfl,by decide⟩,by decide,by simp [words26,nB]⟩
theorem isC:Zdw nC:=⟨by decide,by decide,⟨99,[],rfl,by decide⟩,by decide,by simp [words26,nC]⟩
def dA (w:Int):InD:=⟨nA,1,w,0⟩
def dB (w:Int):InD:=⟨nB,2,w,0⟩
def twoP (w:Int) (l:List Stm):Prg:=⟨[dA w,dB w],[],l⟩
theorem VE_nm {s:ByteArray} {lv:Nat} (h:Zdw s) (hl:lv ≤ 24):VE (Zcs s) lv:=
 VE_mk.2 ⟨hl,rfl,fun _=>h,fun hn=>absurd (.inl rfl) hn,fun h=>absurd h (by decide),fun _=>rfl,by decide,fun _=>rfl,by simp⟩
theorem VE_op' {k:Int} {a b:Exp} {lv:Nat} (h1:1 ≤ k) (h7:k ≤ 7) (ha:VE a (lv + 1)) (hb:VE b (lv + 1)) (hl:lv ≤ 24):VE (eOp k a b) lv:=
 VE_mk.2 ⟨hl,rfl,fun h=>absurd h (by decide),fun _=>rfl,fun _=>⟨h1,h7⟩,fun h=>absurd rfl h,by decide,fun _=>rfl,fun x hx=>by
  rcases List.mem_cons.1 hx with rfl | hx
  ·exact ha
  ·rcases List.mem_cons.1 hx with rfl | hx
   ·exact hb
   ·cases hx⟩
theorem VE_sel' {c a b:Exp} {lv:Nat} (hc:VE c (lv + 1)) (ha:VE a (lv + 1)) (hb:VE b (lv + 1)) (hl:lv ≤ 24):VE (eSel c a b) lv:=
 VE_mk.2 ⟨hl,rfl,fun h=>absurd h (by decide),fun _=>rfl,fun h=>absurd h (by decide),fun _=>rfl,by decide,fun _=>rfl,fun x hx=>by
  rcases List.mem_cons.1 hx with rfl | hx
  ·exact hc
  ·rcases List.mem_cons.1 hx with rfl | hx
   ·exact ha
   ·rcases List.mem_cons.1 hx with rfl | hx
    ·exact hb
    ·cases hx⟩
theorem VSs_nil {lv:Nat}:VSs [] lv:=VSs_all.2 (by simp)
theorem VS_out' {e:Exp} {lv:Nat} (he:VE e (lv + 1)) (hl:lv ≤ 24):VS (sOut e) lv:=
 VS_mk.2 ⟨hl,by decide,by decide,rfl,fun h=>absurd rfl h.2,fun _=>rfl,fun _=>rfl,fun _ _=>rfl,by simpa using he,VSs_nil,VSs_nil⟩
theorem EOk_of {k o:Int} {n:Nat} {s:ByteArray} {ks:List Exp} (hk:I64 k) (ho:I64 o) (hn:n < 18446744073709551616) (hs:s.size ≤ maxLen) (hl:ks.length ≤ 3) (h:∀ x ∈ ks,EOk x):EOk (.mk k o n s ks):=.mk hk ho hn hs (by have:=Zap; omega) h
theorem i64 {k:Int} (h:0 ≤ k) (h':k ≤ 100):I64 k:=by unfold I64; omega
theorem Zhb:noName.size ≤ maxLen:=by rw [Zap]; decide
theorem EOk_nm {s:ByteArray} (h:s.size ≤ maxLen):EOk (Zcs s):=EOk_of (i64 (by decide) (by decide)) (i64 (by decide) (by decide)) (by decide) h (by decide) (by simp)
theorem EOk_op {k:Int} {a b:Exp} (h0:0 ≤ k) (h7:k ≤ 7) (ha:EOk a) (hb:EOk b):EOk (eOp k a b):=EOk_of (i64 (by decide) (by decide)) (i64 h0 (by omega)) (by decide) Zhb (by simp) (by simp [ha,hb])
theorem EOk_sel {c a b:Exp} (hc:EOk c) (ha:EOk a) (hb:EOk b):EOk (eSel c a b):=EOk_of (i64 (by decide) (by decide)) (i64 (by decide) (by decide)) (by decide) Zhb (by simp) (by simp [hc,ha,hb])
theorem SOk_out {e:Exp} (he:EOk e):SOk (sOut e):=.mk (i64 (by decide) (by decide)) Zhb (by rw [Zap]; simp) (by rw [Zap]; decide) (by rw [Zap]; decide) (by simpa using he) (by simp) (by simp)
theorem nA_size:nA.size ≤ maxLen:=by rw [Zap]; decide
theorem nB_size:nB.size ≤ maxLen:=by rw [Zap]; decide
theorem nC_size:nC.size ≤ maxLen:=by rw [Zap]; decide
theorem two_vt {w:Int} {l:List Stm} (w1:1 ≤ w) (w2:w ≤ 16) (hl:l.length ≤ 100) (hv:VSs l 1) (hs:∀ x ∈ l,SOk x):VT (twoP w l):=by
 have hm:=Zap
 refine ⟨⟨fun x hx=>?_,fun x hx=>(by cases hx),hs,by show 2 ≤ maxLen; omega,by show 0 ≤ maxLen; omega,by show l.length ≤ maxLen; omega⟩,hv,fun d hd=>?_,fun d hd=>(by cases hd)⟩
 ·rcases List.mem_cons.1 hx with rfl | hx
  ·exact ⟨i64 (show (0:Int) ≤ 1 by decide) (show (1:Int) ≤ 100 by decide),i64 (show 0 ≤ w by omega) (show w ≤ 100 by omega),i64 (show (0:Int) ≤ 0 by decide) (show (0:Int) ≤ 100 by decide),nA_size⟩
  ·rw [List.mem_singleton] at hx; subst hx
   exact ⟨i64 (show (0:Int) ≤ 2 by decide) (show (2:Int) ≤ 100 by decide),i64 (show 0 ≤ w by omega) (show w ≤ 100 by omega),i64 (show (0:Int) ≤ 0 by decide) (show (0:Int) ≤ 100 by decide),nB_size⟩
 ·rcases List.mem_cons.1 hd with rfl | hd
  ·exact ⟨isA,show (1:Int) ≤ 1 by decide,show (1:Int) ≤ 13 by decide,w1,w2,show (0:Int) ≤ 0 by decide,show (0:Int) ≤ 64 by decide⟩
  ·rw [List.mem_singleton] at hd; subst hd
   exact ⟨isB,show (1:Int) ≤ 2 by decide,show (2:Int) ≤ 13 by decide,w1,w2,show (0:Int) ≤ 0 by decide,show (0:Int) ≤ 64 by decide⟩
theorem two_fit {w:Int} {l:List Stm} {x y:Nat} (hx:x < 2 ^ w.toNat) (hy:y < 2 ^ w.toNat):fitB (twoP w l) [[x],[y]]=true∧insD (twoP w l).ins [[x],[y]] (atI0 [[x],[y]])=[(dA w,[x]),(dB w,[y])]:=by
 have ew1:Zgw [[x],[y]] [0,0] (dA w)=[x]:=rfl
 have ew2:Zgw [[x],[y]] [1,0] (dB w)=[y]:=rfl
 have o1:okD [[x],[y]] [0,0] (dA w):=⟨show 0 < 2 by decide,by show 0 + 1 ≤ 1; decide,fun v hv=>by rw [ew1,List.mem_singleton] at hv; subst hv; exact hx⟩
 have o2:okD [[x],[y]] [1,0] (dB w):=⟨show 1 < 2 by decide,by show 0 + 1 ≤ 1; decide,fun v hv=>by rw [ew2,List.mem_singleton] at hv; subst hv; exact hy⟩
 have n1:Zht [0,0] (dA w)=[1,0]:=rfl
 have n2:Zht [1,0] (dB w)=[1,1]:=rfl
 constructor
 ·show Zma [[x],[y]] (fitG [dA w,dB w] [[x],[y]] [0,0])=true
  rw [fitG,if_pos o1,n1,fitG,if_pos o2,n2,fitG]; rfl
 ·show insD [dA w,dB w] [[x],[y]] [0,0]=_
  rw [insD,insD,insD,n1,ew1,ew2]
theorem two_vars {w:Int} {l:List Stm} {x y:Nat} (hx:x < 2 ^ w.toNat) (hy:y < 2 ^ w.toNat):(Zcc (twoP w l) [[x],[y]]).vars nA=some x∧(Zcc (twoP w l) [[x],[y]]).vars nB=some y∧(Zcc (twoP w l) [[x],[y]]).told=[]:=by
 refine ⟨?_,?_,rfl⟩
 ·show Zaf nA (Zca (insD (twoP w l).ins [[x],[y]] (atI0 [[x],[y]])))=_
  rw [(two_fit hx hy).2]; rfl
 ·show Zaf nB (Zca (insD (twoP w l).ins [[x],[y]] (atI0 [[x],[y]])))=_
  rw [(two_fit hx hy).2]; rfl
theorem lok2 {x y:Nat} (hx:x < 65536) (hy:y < 65536):LsOk [[x],[y]]:=⟨by simp,fun l hl=>by
 rcases List.mem_cons.1 hl with rfl | hl
 ·exact ⟨by simp,fun v hv=>by rw [List.mem_singleton] at hv; omega⟩
 ·rw [List.mem_singleton] at hl; subst hl
  exact ⟨by simp,fun v hv=>by rw [List.mem_singleton] at hv; omega⟩⟩
theorem WordsAt.shape {h:H} {v:V} {ws:List Nat} (a:WordsAt h v ws):v=.vec (Ws ws) .any∨∃ id,v=.ref id 0 ws.length 1:=by
 rcases a with a | ⟨id,_,b,_⟩
 ·exact .inl a
 ·exact .inr ⟨id,b⟩
def exE:Exp:=eSel (eOp 4 (Zcs nA) (Zcs nB)) (eOp 2 (Zcs nB) (Zcs nA)) (eOp 2 (Zcs nA) (Zcs nB))
theorem Zkv:errT (Zbk (twoP 4 [sOut exE]))=0:=by kernel_rfl
theorem ex_check2:errT (Zbk (twoP 4 [sOut (Zcs nC)]))=4:=by kernel_rfl
theorem ex_check3:errT (Zbk (twoP 4 []))=0:=by kernel_rfl
end Go.Ab
