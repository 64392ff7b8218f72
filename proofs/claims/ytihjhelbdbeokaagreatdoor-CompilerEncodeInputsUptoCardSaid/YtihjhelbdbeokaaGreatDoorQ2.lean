/- Part of a proof: The layer Ab (2): effects. (Joined by program.) -/
import Derived.Test.YtihjhelbdbeokaaGreatDoorQ1
import Derived.Laws.Append
import Derived.IntWalk
import Derived.Orders
set_option linter.unusedVariables false
set_option linter.unusedSimpArgs false
namespace Go.Ab
structure Change (w w':World) (b:Nat):Prop where
 size:w'.heap.size=w.heap.size
 other:∀ (b':Nat),b' ≠ b→w'.heap[b']?=w.heap[b']?
 misc:w'.tape=w.tape∧w'.os=w.os∧w'.output=w.output
theorem Change.refl (w:World) (b:Nat):Change w w b:=⟨rfl,fun _ _=>rfl,rfl,rfl,rfl⟩
theorem Change.trans {w w' w'':World} {b:Nat} (x:Change w w' b) (y:Change w' w'' b):Change w w'' b:=
 ⟨y.size.trans x.size,fun b' h=>(y.other b' h).trans (x.other b' h),y.misc.1.trans x.misc.1,y.misc.2.1.trans x.misc.2.1,y.misc.2.2.trans x.misc.2.2⟩
theorem Zln {w w':World} {b:Nat} (h:Change w w' b) {a:Addr} (ha:a.block ≠ b):w'.cell? a=w.cell? a:=by
 simp only [World.cell?,h.other _ ha]
section run
variable {P:Program}
theorem Zki (w:World) (b off:Nat) (v:Value):Change w (w.setCell ⟨b,off,none⟩ v) b:=
 ⟨by simp,fun b' h=>by simp [World.setCell,Array.getElem?_modify,Ne.symm h],rfl,rfl,rfl⟩
theorem Zng {w:World} {b off:Nat} {v:Value} {c:Array Value} {e:TypeId} (h:w.heap[b]?=some (.cells c e (0,0))) :
  (w.setCell ⟨b,off,none⟩ v).heap[b]?=some (.cells (c.setIfInBounds off v) e (0,0)):=by
 simp [World.setCell,Array.getElem?_modify,h]
theorem Zct:∀ (vs:List Value) (w:World) (b off i:Nat) (c:Array Value) (e:TypeId),w.heap[b]?=some (.cells c e (0,0))→off + i + vs.length ≤ c.size →
  (∀ v ∈ vs,v.oneCell'=true)→∃ w',(storeCells ⟨b,off,none⟩ vs i).run P w=.ok () w'∧Change w w' b∧∃ c',w'.heap[b]?=some (.cells c' e (0,0))∧c'.size=c.size ∧
   ∀ (j:Nat),c'[j]?=if off + i ≤ j∧j < off + i + vs.length then vs[j - (off + i)]? else c[j]?
 | [],w,b,off,i,c,e,h,_,_=>⟨w,by simp [storeCells],.refl _ _,c,h,rfl,fun j=>by rw [if_neg (by simp only [List.length_nil]; omega)]⟩
 | v :: vs,w,b,off,i,c,e,h,hle,hv=>by
  simp only [List.length_cons] at hle
  have h1:=Zng (off:=off + i) (v:=v) h
  obtain ⟨w',r1,r2,c',r3,r4,r5⟩:=Zct vs (w.setCell ⟨b,off + i,none⟩ v) b off (i + 1) _ e h1 (by simp; omega) (fun x hx=>hv x (List.mem_cons_of_mem _ hx))
  refine ⟨w',?_,(Zki w b (off + i) v).trans r2,c',r3,by simpa using r4,fun j=>?_⟩
  ·have hc:w.cell? ⟨b,off + i,none⟩=some c[off + i]:=by rw [Zax h,Array.getElem?_eq_getElem (by omega)]
   have hf:w.frozen? ⟨b,off + i,none⟩=false:=by simp [World.frozen?,h]
   simp only [storeCells,Zb7,Sem.run_bind,run_store P w _ _ _ (hv v (by simp)),hc,hf,Bool.false_eq_true,if_false,Result.andThen_ok]
   exact r1
  ·rw [r5]
   simp only [List.length_cons,Array.getElem?_setIfInBounds]
   by_cases hj:off + i=j
   ·subst hj
    rw [if_neg (by omega),if_pos rfl,if_pos (by omega),if_pos (by omega)]
    simp
   ·rw [if_neg hj]
    by_cases hin:off + i ≤ j∧j < off + i + (vs.length + 1)
    ·rw [if_pos hin,if_pos (by omega)]
     have:j - (off + i)=(j - (off + (i + 1))) + 1:=by omega
     rw [this,List.getElem?_cons_succ]
    ·rw [if_neg hin,if_neg (by omega)]
end run
section
variable {G:List (Nat × List V)} {N:Nat × Nat} {e:Entry} {k:Ctx} {β:Nat→Nat} {A:Nat→Prop} {st:S} {a:Act} {w:World} {P:Program} {u:List Nat} {hs:Hints}
theorem Keeps.change {w':World} {b:Nat} (hc:Change w w' b) (h0:k.lim b=0) (hrow:∀ (c:Array Value) (e:TypeId),w.heap[b]?=some (.cells c e (0,0))→∃ c',w'.heap[b]?=some (.cells c' e (0,0))∧c'.size=c.size) :
  Keeps k k w w' where
 nx:=Nat.le_refl _
 om _ _:=rfl
 lim _ _:=Nat.le_refl _
 size:=by rw [hc.size]; exact Nat.le_refl _
 cell ad v h hl:=by
  by_cases hb:ad.block=b
  ·rw [hb,h0] at hl; omega
  ·rw [Zln hc hb]; exact h
 rows b' c e h:=by
  by_cases hb:b'=b
  ·subst hb; exact hrow c e h
  ·exact ⟨c,by rw [hc.other b' hb]; exact h,rfl⟩
theorem FW.changeFree (h:FW G N e k β A st a w) {w':World} {b:Nat} (hc:Change w w' b) (h0:k.lim b=0) (hrow:∀ (c:Array Value) (e:TypeId),w.heap[b]?=some (.cells c e (0,0))→∃ c',w'.heap[b]?=some (.cells c' e (0,0))∧c'.size=c.size)
  (hobj:∀ id o,st.h.objs id=some o→k.ω id ≠ b) (hβ:∀ s,A s→β s ≠ b) (hb:b < e.w.heap.size→∃ id0 o0,e.h.objs id0=some o0∧e.k.ω id0=b) :
  FW G N e k β A st a w':=by
 have hk:Keeps k k w w':=Keeps.change hc h0 hrow
 have hst:Stays k k w w' β β A A st.u st.u:=Stays.of hk (fun _ _=>rfl)
 refine ⟨fun t=>(h.slot t).mono hst,h.size,h.defers.mono hst.keeps,fun s cs hm=>?_,fun s hs=>?_,h.ainj,h.res,⟨h.wr.nx,fun id o' ho=>?_,h.wr.inj,fun g cells hg=>(h.wr.glob g cells hg).mono hk⟩,?_⟩
 ·obtain ⟨h1,h2,c,e',h3,h4,h5⟩:=h.mem s cs hm
  exact ⟨h1,h2,c,e',by rw [hc.other _ (hβ s h1)]; exact h3,h4,fun j v hj=>let ⟨x,p,q,r⟩:=h5 j v hj; ⟨x,p,q.mono hst,r⟩⟩
 ·obtain ⟨h1,h2,h3,h4⟩:=h.alloc s hs
  exact ⟨h1,h2,by rw [hc.size]; exact h3,h4⟩
 ·obtain ⟨h1,h2,h3,h4⟩:=h.wr.obj id o' ho
  refine ⟨h1,by rw [hc.size]; exact h2,h3,?_⟩
  rw [hc.other _ (hobj id o' ho)]
  exact h4.mono hk (fun m es ver hm ho'=>hc.other _ (hobj m _ ho'))
 ·refine h.old.trans hk (fun _ _=>rfl) (fun b' hb' hn=>hc.other b' (fun heq=>?_)) (fun id o' ho _=>⟨id,o',ho,rfl⟩) hc.misc
  subst heq
  obtain ⟨id0,o0,h1,h2⟩:=hb hb'
  exact hn id0 o0 h1 h2
theorem FW.dropObj (h:FW G N e k β A st a w) (id:Nat):FW G N e k β A (st.withH ⟨upd st.h.objs id none,st.h.next⟩) a w:=by
 have hlive:∀ {id' o},upd st.h.objs id none id'=some o→id' ≠ id∧st.h.objs id'=some o:=by
  intro id' o ho
  unfold upd at ho
  split at ho
  ·simp at ho
  ·exact ⟨by assumption,ho⟩
 refine ⟨h.slot,h.size,h.defers,h.mem,fun s hs=>?_,h.ainj,h.res,⟨h.wr.nx,fun id' o' ho=>?_,fun i j o o' hi hj=>?_,h.wr.glob⟩,⟨h.old.keeps,h.old.lim,h.old.same,fun id' o' ho hb=>?_,h.old.misc⟩⟩
 ·obtain ⟨h1,h2,h3,h4⟩:=h.alloc s hs
  exact ⟨h1,h2,h3,fun id' o ho=>h4 id' o (hlive ho).2⟩
 ·obtain ⟨h1,h2,h3,h4⟩:=h.wr.obj id' o' (hlive ho).2
  refine ⟨h1,h2,h3,?_⟩
  cases o' with
  | cells cs=>exact h4
  | map es ver=>exact h4
  | iter m ver seen =>
   obtain ⟨since,sb,stepped,p,q,r⟩:=h4
   exact ⟨since,sb,stepped,p,q,fun es ver' en clock ho hw=>r es ver' en clock (hlive ho).2 hw⟩
 ·exact h.wr.inj i j o o' (hlive hi).2 (hlive hj).2
 ·exact h.old.src id' o' (hlive ho).2 hb
def Ctx.reg (k:Ctx) (b:Nat):Ctx:={ k with ω:=upd k.ω k.nx b,nx:=k.nx + 1 }
theorem Keeps.reg (k:Ctx) (b:Nat) (w:World):Keeps k (k.reg b) w w where
 nx:=Nat.le_succ _
 om id h:=by simp [Ctx.reg,Zd1 _ _ (Nat.ne_of_lt h)]
 lim _ _:=Nat.le_refl _
 size:=Nat.le_refl _
 cell _ _ h _:=h
 rows b c e h:=⟨c,h,rfl⟩
theorem FW.regObj (h:FW G N e k β A st a w) {b:Nat} {o:O} (hlt:b < w.heap.size) (h0:k.lim b=0) (hobj:∀ id o,st.h.objs id=some o→k.ω id ≠ b) (hβ:∀ s,A s→β s ≠ b)
  (hb:b < e.w.heap.size→∃ id0 o0,e.h.objs id0=some o0∧e.k.ω id0=b) (hr:ORel (k.reg b) w (st.h.new o) o w.heap[b]?) :
  FW G N e (k.reg b) β A (st.withH (st.h.new o)) a w:=by
 have hk:=Keeps.reg k b w
 have hnx:k.nx=st.h.next:=h.wr.nx
 have hst:Stays k (k.reg b) w w β β A A st.u st.u:=Stays.of hk (fun _ _=>rfl)
 have hcase:∀ {id o'},(st.h.new o).objs id=some o'→(id=k.nx∧o'=o∧(k.reg b).ω id=b)∨(id ≠ k.nx∧st.h.objs id=some o'∧(k.reg b).ω id=k.ω id∧id < k.nx):=by
  intro id o' ho
  simp only [H.new,upd] at ho
  split at ho
  ·rename_i heq
   simp only [Option.some.injEq] at ho
   exact .inl ⟨by omega,ho.symm,by simp [Ctx.reg,upd,heq,hnx]⟩
  ·rename_i hne
   have:=(h.wr.obj id o' ho).1
   exact .inr ⟨by omega,ho,by simp [Ctx.reg,upd]; omega,by omega⟩
 refine ⟨fun t=>(h.slot t).mono hst,h.size,h.defers.mono hst.keeps,fun s cs hm=>?_,fun s hs=>?_,h.ainj,h.res,⟨by simp [Ctx.reg,H.new,S.withH,hnx],fun id o' ho=>?_,fun i j p q hi hj heq=>?_,fun g cells hg=>(h.wr.glob g cells hg).mono hk⟩,?_⟩
 ·obtain ⟨h1,h2,c,e',h3,h4,h5⟩:=h.mem s cs hm
  exact ⟨h1,h2,c,e',h3,h4,fun j v hj=>let ⟨x,p,q,r⟩:=h5 j v hj; ⟨x,p,q.mono hst,r⟩⟩
 ·obtain ⟨h1,h2,h3,h4⟩:=h.alloc s hs
  refine ⟨h1,h2,h3,fun id o' ho=>?_⟩
  rcases hcase ho with ⟨_,_,h7⟩ | ⟨_,h6,h7,_⟩
  ·rw [h7]; exact (hβ s hs).symm
  ·rw [h7]; exact h4 id o' h6
 ·rcases hcase ho with ⟨h5,h6,h7⟩ | ⟨h5,h6,h7,h8⟩
  ·rw [h7,h6]
   exact ⟨by show id < st.h.next + 1; omega,hlt,h0,hr⟩
  ·obtain ⟨h1,h2,h3,h4⟩:=h.wr.obj id o' h6
   rw [h7]
   refine ⟨by show id < st.h.next + 1; omega,h2,h3,?_⟩
   have h4':=h4.mono hk (fun m es ver hm ho'=>rfl)
   cases o' with
   | cells cs=>exact h4'
   | map es ver=>exact h4'
   | iter m ver seen =>
    obtain ⟨since,sb,stepped,p,q,r⟩:=h4
    refine ⟨since,sb,stepped,by rw [show (k.reg b).ω m=k.ω m from hk.om m q]; exact p,Nat.lt_succ_of_lt q,fun es ver' en clock ho2 hw=>?_⟩
    rw [show (k.reg b).ω m=k.ω m from hk.om m q] at hw
    rcases hcase ho2 with ⟨h9,_,_⟩ | ⟨_,h9,_,_⟩
    ·omega
    ·exact r es ver' en clock h9 hw
 ·rcases hcase hi with ⟨h1,_,h2⟩ | ⟨h1,h3,h2,_⟩ <;> rcases hcase hj with ⟨h1',_,h2'⟩ | ⟨h1',h3',h2',_⟩
  ·omega
  ·rw [h2,h2'] at heq; exact absurd heq.symm (hobj j q h3')
  ·rw [h2,h2'] at heq; exact absurd heq (hobj i p h3)
  ·rw [h2,h2'] at heq; exact h.wr.inj i j p q h3 h3' heq
 ·refine ⟨h.old.keeps.trans hk,h.old.lim,h.old.same,fun id o' ho hlb=>?_,h.old.misc⟩
  rcases hcase ho with ⟨_,_,h7⟩ | ⟨_,h6,h7,_⟩
  ·rw [h7] at hlb ⊢; exact hb hlb
  ·rw [h7] at hlb ⊢; exact h.old.src id o' h6 hlb
theorem FW.newObj (h:FW G N e k β A st a w) {o:O} {ob:Obj} (hr:ORel ((k.setLim w.heap.size 0).reg w.heap.size) (w.alloc ob) (st.h.new o) o (some ob)) :
  FW G N e ((k.setLim w.heap.size 0).reg w.heap.size) β A (st.withH (st.h.new o)) a (w.alloc ob):=by
 have h1:=h.alloc' ob 0
 refine h1.regObj (by simp) (by simp [Ctx.setLim,Zan]) (fun id o' ho=>?_) (fun s hs=>?_) (fun hlt=>?_) (by rw [Za6]; exact hr)
 ·exact Nat.ne_of_lt (h.wr.obj id o' ho).2.1
 ·exact Nat.ne_of_lt (h.alloc s hs).2.2.1
 ·exact absurd hlt (Nat.not_lt.2 h.old.keeps.size)
theorem FW.setObj (h:FW G N e k β A st a w) {id:Nat} {o o':O} {w':World} (hlive:st.h.objs id=some o) (hc:Change w w' (k.ω id))
  (hrow:∀ (c:Array Value) (e:TypeId),w.heap[k.ω id]?=some (.cells c e (0,0))→∃ c',w'.heap[k.ω id]?=some (.cells c' e (0,0))∧c'.size=c.size)
  (hr:Keeps k k w w'→ORel k w' (st.h.set id o') o' w'.heap[k.ω id]?)
  (hit:∀ id2 ver seen,id2 ≠ id→st.h.objs id2=some (.iter id ver seen)→ORel k w st.h (.iter id ver seen) w.heap[k.ω id2]?→ORel k w' (st.h.set id o') (.iter id ver seen) w.heap[k.ω id2]?) :
  FW G N e k β A (st.withH (st.h.set id o')) a w':=by
 obtain ⟨g1,g2,g3,g4⟩:=h.wr.obj id o hlive
 have hk:Keeps k k w w':=Keeps.change hc g3 hrow
 have hst:Stays k k w w' β β A A st.u st.u:=Stays.of hk (fun _ _=>rfl)
 have hcase:∀ {id' q},(st.h.set id o').objs id'=some q→(id'=id∧q=o')∨(id' ≠ id∧st.h.objs id'=some q):=by
  intro id' q ho
  simp only [H.set,upd] at ho
  split at ho
  ·simp only [Option.some.injEq] at ho; exact .inl ⟨by assumption,ho.symm⟩
  ·exact .inr ⟨by assumption,ho⟩
 have hany:∀ {id' q},(st.h.set id o').objs id'=some q→∃ q',st.h.objs id'=some q':=by
  intro id' q ho
  rcases hcase ho with ⟨h1,_⟩ | ⟨_,h1⟩
  ·subst h1; exact ⟨o,hlive⟩
  ·exact ⟨q,h1⟩
 have hne:∀ {id' q},id' ≠ id→st.h.objs id'=some q→k.ω id' ≠ k.ω id:=fun h1 h2 h3=>h1 (h.wr.inj _ _ _ _ h2 hlive h3)
 refine ⟨fun t=>(h.slot t).mono hst,h.size,h.defers.mono hst.keeps,fun s cs hm=>?_,fun s hs=>?_,h.ainj,h.res,⟨h.wr.nx,fun id' q ho=>?_,fun i j p q hi hj heq=>?_,fun g cells hg=>(h.wr.glob g cells hg).mono hk⟩,?_⟩
 ·obtain ⟨h1,h2,c,e',h3,h4,h5⟩:=h.mem s cs hm
  exact ⟨h1,h2,c,e',by rw [hc.other _ (fun heq=>(h.alloc s h1).2.2.2 id o hlive heq.symm)]; exact h3,h4,fun j v hj=>let ⟨x,p,q,r⟩:=h5 j v hj; ⟨x,p,q.mono hst,r⟩⟩
 ·obtain ⟨h1,h2,h3,h4⟩:=h.alloc s hs
  exact ⟨h1,h2,by rw [hc.size]; exact h3,fun id' q ho=>let ⟨q',hq⟩:=hany ho; h4 id' q' hq⟩
 ·rcases hcase ho with ⟨h1,h2⟩ | ⟨h1,h2⟩
  ·rw [h1,h2]
   exact ⟨g1,by rw [hc.size]; exact g2,g3,hr hk⟩
  ·obtain ⟨p1,p2,p3,p4⟩:=h.wr.obj id' q h2
   refine ⟨p1,by rw [hc.size]; exact p2,p3,?_⟩
   rw [hc.other _ (hne h1 h2)]
   cases q with
   | cells cs =>
    obtain ⟨c,e',a1,a2,a3⟩:=p4
    exact ⟨c,e',a1,a2,a3.mono hk⟩
   | map es ver =>
    obtain ⟨en,clock,a1,a2,a3,a4,a5⟩:=p4
    exact ⟨en,clock,a1,a2,fun j x v hj=>let ⟨e,p,q,r⟩:=a3 j x v hj; ⟨e,p,q.mono hk,r.mono hk⟩,a4,a5⟩
   | iter m ver seen =>
    by_cases hm:m=id
    ·subst hm; exact hit id' ver seen h1 h2 p4
    ·obtain ⟨since,sb,stepped,a1,a2,a3⟩:=p4
     refine ⟨since,sb,stepped,a1,a2,fun es ver' en clock ho2 hw=>?_⟩
     rcases hcase ho2 with ⟨h9,_⟩ | ⟨_,h9⟩
     ·exact absurd h9 hm
     ·rw [hc.other _ (hne hm h9)] at hw
      exact a3 es ver' en clock h9 hw
 ·obtain ⟨p',hp'⟩:=hany hi
  obtain ⟨q',hq'⟩:=hany hj
  exact h.wr.inj i j p' q' hp' hq' heq
 ·refine h.old.trans hk (fun _ _=>rfl) (fun b' hb' hn=>hc.other b' (fun heq=>?_)) (fun id' q ho _=>let ⟨q',hq⟩:=hany ho; ⟨id',q',hq,rfl⟩) hc.misc
  subst heq
  obtain ⟨id0,o0,h1,h2⟩:=h.old.src id o hlive hb'
  exact hn id0 o0 h1 h2
theorem FW.setBox (h:FW G N e k β A st a w) {s:Nat} {cs:List V} {w':World} (hA:A s) (h0:k.lim (β s)=0) (hc:Change w w' (β s))
  (hrow:∀ (c:Array Value) (e:TypeId),w.heap[β s]?=some (.cells c e (0,0))→∃ c',w'.heap[β s]?=some (.cells c' e (0,0))∧c'.size=c.size)
  (hnew:Keeps k k w w'→∃ c e',w'.heap[β s]?=some (.cells c e' (0,0))∧c.size=cs.length∧∀ (j:Nat) (v:V),cs[j]?=some v→∃ x,c[j]?=some x∧SR1 k w' β A st.u v x∧x.oneCell'=true) :
  FW G N e k β A { st with m:=upd st.m s (some cs) } a w':=by
 obtain ⟨g1,g2,g3,g4⟩:=h.alloc s hA
 have hk:Keeps k k w w':=Keeps.change hc h0 hrow
 have hst:Stays k k w w' β β A A st.u st.u:=Stays.of hk (fun _ _=>rfl)
 refine ⟨fun t=>(h.slot t).mono hst,h.size,h.defers.mono hst.keeps,fun s' cs' hm=>?_,fun s' hs=>?_,h.ainj,h.res,⟨h.wr.nx,fun id q ho=>?_,h.wr.inj,fun g cells hg=>(h.wr.glob g cells hg).mono hk⟩,?_⟩
 ·simp only [upd] at hm
  split at hm
  ·rename_i heq
   simp only [Option.some.injEq] at hm
   rw [heq,← hm]; exact ⟨hA,h0,hnew hk⟩
  ·rename_i hne
   obtain ⟨p1,p2,c,e',p3,p4,p5⟩:=h.mem s' cs' hm
   have hne:β s' ≠ β s:=fun heq=>hne (h.ainj s' s p1 hA heq)
   exact ⟨p1,p2,c,e',by rw [hc.other _ hne]; exact p3,p4,fun j v hj=>let ⟨x,p,q,r⟩:=p5 j v hj; ⟨x,p,q.mono hst,r⟩⟩
 ·obtain ⟨h1,h2,h3,h4⟩:=h.alloc s' hs
  exact ⟨h1,h2,by rw [hc.size]; exact h3,h4⟩
 ·obtain ⟨h1,h2,h3,h4⟩:=h.wr.obj id q ho
  refine ⟨h1,by rw [hc.size]; exact h2,h3,?_⟩
  rw [hc.other _ (g4 id q ho)]
  exact h4.mono hk (fun m es ver hm ho'=>hc.other _ (g4 m _ ho'))
 ·exact h.old.trans hk (fun _ _=>rfl) (fun b' hb' hn=>hc.other b' (fun heq=>by omega)) (fun id q ho _=>⟨id,q,ho,rfl⟩) hc.misc
theorem FW.growOwn (h:FW G N e k β A st a w) {s:Nat} {L:Nat} {w':World} (hA:A s) (hL:k.lim (β s) ≤ L) (hpos:0 < k.lim (β s)) (hc:Change w w' (β s))
  (hrow:∀ (c:Array Value) (e:TypeId),w.heap[β s]?=some (.cells c e (0,0))→∃ c',w'.heap[β s]?=some (.cells c' e (0,0))∧c'.size=c.size)
  (hcell:∀ i v,i < k.lim (β s)→w.cell? ⟨β s,i,none⟩=some v→w'.cell? ⟨β s,i,none⟩=some v) :
  Keeps k (k.setLim (β s) L) w w'∧FW G N e (k.setLim (β s) L) β (fun x=>A x∧x ≠ s) { st with u:=s :: st.u } a w':=by
 obtain ⟨g1,g2,g3,g4⟩:=h.alloc s hA
 have hk:Keeps k (k.setLim (β s) L) w w':=by
  refine ⟨Nat.le_refl _,fun _ _=>rfl,fun b _=>?_,by rw [hc.size]; exact Nat.le_refl _,fun ad v hv hl=>?_,fun b c e' hb=>?_⟩
  ·by_cases hb:b=β s
   ·subst hb; simp [Ctx.setLim,Zan]; exact hL
   ·simp [Ctx.setLim,Zd1 _ _ hb]
  ·by_cases hb:ad.block=β s
   ·have hs:=Zif hv
    have he:ad=⟨β s,ad.off,none⟩:=by cases ad; simp only at hb hs; subst hb; subst hs; rfl
    rw [he] at hv ⊢
    exact hcell _ _ (by rw [hb] at hl; exact hl) hv
   ·rw [Zln hc hb]; exact hv
  ·by_cases hbb:b=β s
   ·subst hbb; exact hrow c e' hb
   ·exact ⟨c,by rw [hc.other b hbb]; exact hb,rfl⟩
 have hne:∀ s',A s'→s' ≠ s→β s' ≠ β s:=fun s' h1 h2 h3=>h2 (h.ainj s' s h1 hA h3)
 have hlim:∀ s',A s'→s' ≠ s→(k.setLim (β s) L).lim (β s')=k.lim (β s'):=fun s' h1 h2=>by simp [Ctx.setLim,Zd1 _ _ (hne s' h1 h2)]
 have hst:Stays k (k.setLim (β s) L) w w' β β A (fun x=>A x∧x ≠ s) st.u (s :: st.u):=by
  refine ⟨hk,fun s' h1=>?_,fun _ _=>rfl,fun s' h1=>List.mem_cons_of_mem _ h1,fun s' h1 h2=>hlim s' h1 (fun h3=>h2 (by simp [h3])),fun s' h1 h2=>?_⟩
  ·by_cases h2:s'=s
   ·exact .inr (by simp [h2])
   ·exact .inl ⟨h1,h2⟩
  ·have h3:s' ≠ s:=fun h4=>by subst h4; omega
   exact ⟨⟨h1,h3⟩,by rw [hlim s' h1 h3]; exact h2⟩
 refine ⟨hk,fun t=>(h.slot t).mono hst,h.size,h.defers.mono hst.keeps,fun s' cs hm=>?_,fun s' hs=>?_,fun s1 s2 h1 h2=>h.ainj s1 s2 h1.1 h2.1,fun s' hs=>⟨(h.res s' hs).1,fun hq=>(h.res s' hs).2 hq.1⟩,⟨h.wr.nx,fun id q ho=>?_,h.wr.inj,fun g cells hg=>(h.wr.glob g cells hg).mono hk⟩,?_⟩
 ·obtain ⟨p1,p2,c,e',p3,p4,p5⟩:=h.mem s' cs hm
  have h3:s' ≠ s:=fun h4=>by subst h4; omega
  exact ⟨⟨p1,h3⟩,by rw [hlim s' p1 h3]; exact p2,c,e',by rw [hc.other _ (hne s' p1 h3)]; exact p3,p4,fun j v hj=>let ⟨x,p,q,r⟩:=p5 j v hj; ⟨x,p,q.mono hst,r⟩⟩
 ·obtain ⟨h1,h2,h3,h4⟩:=h.alloc s' hs.1
  exact ⟨h1,h2,by rw [hc.size]; exact h3,h4⟩
 ·obtain ⟨h1,h2,h3,h4⟩:=h.wr.obj id q ho
  refine ⟨h1,by rw [hc.size]; exact h2,?_,?_⟩
  ·show (k.setLim (β s) L).lim (k.ω id)=0
   simp [Ctx.setLim,Zd1 _ _ (g4 id q ho)]; exact h3
  ·show ORel _ _ _ _ w'.heap[k.ω id]?
   rw [hc.other _ (g4 id q ho)]
   exact h4.mono hk (fun m es ver hm ho'=>hc.other _ (g4 m _ ho'))
 ·exact h.old.trans hk (fun b hb=>by simp [Ctx.setLim,Zd1 _ _ (show b ≠ β s by omega)]) (fun b' hb' hn=>hc.other b' (fun heq=>by omega)) (fun id q ho _=>⟨id,q,ho,rfl⟩) hc.misc
theorem FW.useMore (h:FW G N e k β A st a w) (s:Nat):FW G N e k β A { st with u:=s :: st.u } a w:=by
 have hst:Stays k k w w β β A A st.u (s :: st.u):=⟨.refl _ _,fun s' h1=>.inl h1,fun _ _=>rfl,fun s' h1=>List.mem_cons_of_mem _ h1,fun s' h1 h2=>rfl,fun s' h1 h2=>⟨h1,h2⟩⟩
 refine ⟨fun t=>(h.slot t).mono hst,h.size,h.defers.mono hst.keeps,fun s' cs hm=>?_,h.alloc,h.ainj,h.res,h.wr,h.old⟩
 obtain ⟨p1,p2,c,e',p3,p4,p5⟩:=h.mem s' cs hm
 exact ⟨p1,p2,c,e',p3,p4,fun j v hj=>let ⟨x,p,q,r⟩:=p5 j v hj; ⟨x,p,q.mono hst,r⟩⟩
theorem FW.stampNew (h:FW G N e k β A st a w) {b:Nat} (h1:e.w.heap.size ≤ b) (h2:b < w.heap.size) (h3:∀ id o,st.h.objs id=some o→k.ω id ≠ b) (h4:∀ s,A s→β s ≠ b) :
  Stays k k w w β (upd β st.n b) A (fun s=>A s∨s=st.n) st.u st.u∧FW G N e k (upd β st.n b) (fun s=>A s∨s=st.n) st.tick a w:=by
 have hn:∀ s,A s→s ≠ st.n:=fun s hs=>Nat.ne_of_lt (h.alloc s hs).1
 have hβ:∀ s,A s→upd β st.n b s=β s:=fun s hs=>Zd1 _ _ (hn s hs)
 have hst:Stays k k w w β (upd β st.n b) A (fun s=>A s∨s=st.n) st.u st.u:=
  ⟨Keeps.refl _ _,fun s hs=>.inl (.inl hs),hβ,fun _ hs=>hs,fun _ _ _=>rfl,fun s hs h0=>⟨.inl hs,h0⟩⟩
 refine ⟨hst,fun t=>(h.slot t).mono hst,h.size,h.defers.mono hst.keeps,fun s cs hm=>?_,fun s hs=>?_,fun s s' hs hs' heq=>?_,fun s hs=>⟨Nat.lt_succ_of_lt (h.res s hs).1,fun hq=>hq.elim (h.res s hs).2 (fun heq=>Nat.lt_irrefl st.n (heq ▸ (h.res s hs).1))⟩,h.wr,h.old⟩
 ·obtain ⟨p1,p2,c,e',p3,p4,p5⟩:=h.mem s cs hm
  exact ⟨.inl p1,by rw [hβ s p1]; exact p2,c,e',by rw [hβ s p1]; exact p3,p4,fun j v hj=>let ⟨x,p,q,r⟩:=p5 j v hj; ⟨x,p,q.mono hst,r⟩⟩
 ·rcases hs with hs | hs
  ·obtain ⟨p1,p2,p3,p4⟩:=h.alloc s hs
   rw [hβ s hs]
   exact ⟨Nat.lt_succ_of_lt p1,p2,p3,p4⟩
  ·subst hs
   rw [Zan]
   exact ⟨Nat.lt_succ_self _,h1,h2,h3⟩
 ·rcases hs with hs | hs <;> rcases hs' with hs' | hs'
  ·rw [hβ s hs,hβ s' hs'] at heq; exact h.ainj s s' hs hs' heq
  ·subst hs'; rw [hβ s hs,Zan] at heq; exact absurd heq (h4 s hs)
  ·subst hs; rw [hβ s' hs',Zan] at heq; exact absurd heq.symm (h4 s' hs')
  ·rw [hs,hs']
theorem FW.call (h:FW G N e k β A st a w) {k':Ctx} {h':H} {w':World} (hw:WR k' h' w' G) (ho:Old ⟨k,st.h,w,fun _=>False,[],fun _=>undef,fun _=>none⟩ k' h' w'):FW G N e k' β A (st.withH h') a w':=by
 have hlim:∀ b,b < w.heap.size→k'.lim b=k.lim b:=ho.lim
 have hsame:∀ b,b < w.heap.size→(∀ id o,st.h.objs id=some o→k.ω id ≠ b)→w'.heap[b]?=w.heap[b]?:=ho.same
 have hk:Keeps k k' w w':=ho.keeps
 have hst:Stays k k' w w' β β A A st.u st.u:=Stays.of hk (fun s hs=>hlim _ (h.alloc s hs).2.2.1)
 refine ⟨fun t=>(h.slot t).mono hst,h.size,h.defers.mono hst.keeps,fun s cs hm=>?_,fun s hs=>?_,h.ainj,h.res,hw,?_⟩
 ·obtain ⟨p1,p2,c,e',p3,p4,p5⟩:=h.mem s cs hm
  obtain ⟨q1,q2,q3,q4⟩:=h.alloc s p1
  exact ⟨p1,by rw [hlim _ q3]; exact p2,c,e',by rw [hsame _ q3 q4]; exact p3,p4,fun j v hj=>let ⟨x,p,q,r⟩:=p5 j v hj; ⟨x,p,q.mono hst,r⟩⟩
 ·obtain ⟨q1,q2,q3,q4⟩:=h.alloc s hs
  refine ⟨q1,q2,Nat.lt_of_lt_of_le q3 hk.size,fun id o hid heq=>?_⟩
  obtain ⟨id0,o0,r1,r2⟩:=ho.src id o hid (by show k'.ω id < w.heap.size; rw [heq]; exact q3)
  exact q4 id0 o0 r1 (r2.trans heq)
 ·refine h.old.trans hk (fun b hb=>hlim b (Nat.lt_of_lt_of_le hb h.old.keeps.size)) (fun b hb hn=>hsame b (Nat.lt_of_lt_of_le hb h.old.keeps.size) (fun id o hid heq=>?_)) (fun id o hid hlt=>?_) ho.misc
  ·subst heq
   obtain ⟨id0,o0,r1,r2⟩:=h.old.src id o hid hb
   exact hn id0 o0 r1 r2
  ·exact ho.src id o hid (Nat.lt_of_lt_of_le hlt h.old.keeps.size)
end
end Go.Ab
namespace Go.Ab
def PanOK (G:List (Nat × List V)) (N:Nat × Nat) (e:Entry) (a:Act) (v:V) (h':H) (ch:List PanicEntry) (w':World):Prop:=
 ∃ x k',ch=[{ v:=x,recovered:=false }]∧Held N e k' w' a∧WR k' h' w' G∧Old e k' h' w'∧VR k' w' v x
def QK (G:List (Nat × List V)) (N:Nat × Nat) (e:Entry) (K:Ex→S→Prop):Exit→Act→World→Prop
 | .normal,a,w=>∃ st,K .normal st∧Inv G N e st a w
 | .exit id,a,w=>∃ st,K (.brk id) st∧Inv G N e st a w
 | .ret,a,w=>∃ st,K .ret st∧Inv G N e st a w
 | .panic ch,a,w=>∃ v h',K (.pan v) (.blank h')∧PanOK G N e a v h' ch w
 | _,_,_=>False
def Zcn (P:Program) (G:List (Nat × List V)) (N:Nat × Nat) (e:Entry) (o:Oper) (a:Act) (w:World) (K:Ex→S→Prop):Prop:=
 o.wp P a w (fun a' w'=>∃ st',K .normal st'∧Inv G N e st'.tick a' w') (QK G N e K)
section
variable {G:List (Nat × List V)} {N:Nat × Nat} {e:Entry} {k:Ctx} {β:Nat→Nat} {A:Nat→Prop} {st:S} {a:Act} {w:World} {P:Program} {u:List Nat} {hs:Hints} {o:Oper} {K:Ex→S→Prop}
theorem Zaq {x:Value} {w':World} {st':S} (hrun:(execOp a.eval o).run P w=.ok (.value x) w') (hk:K .normal st') (hi:Inv G N e st'.tick (a.put o.dst x) w'):Zcn P G N e o a w K:=by
 unfold Zcn Oper.wp
 rw [hrun]
 exact ⟨st',hk,hi⟩
theorem Zmu {w':World} {st':S} (hrun:(execOp a.eval o).run P w=.ok .skip w') (hk:K .normal st') (hi:Inv G N e st'.tick (a.put o.dst undef) w'):Zcn P G N e o a w K:=by
 unfold Zcn Oper.wp
 rw [hrun]
 exact ⟨st',hk,hi⟩
theorem FW.inv (h:FW G N e k β A st a w):Inv G N e st a w:=⟨k,β,A,h⟩
theorem Za0 (st:S) (d:Option Nat) (v:V):(st.put d v).tick=st.tick.put d v:=by cases d <;> rfl
theorem FW.putU (h:FW G N e k β A st a w) (hd:∀ t,o.dst=some t→InN N t):FW G N e k β A (st.put o.dst .undef) (a.put o.dst undef) w:=
 h.put hd (by trivial)
theorem SR.cells1 {v:V} {X:Value} (h:SR k w β A u v X) (h1:∀ s z o,v ≠ .lptr s z o) (h2:∀ i,v ≠ .itr i) (h3:∀ vs,v ≠ .tuple vs) (h4:v ≠ .undef) :
  X.cells.size=v.cells.length∧∀ (j:Nat) (y:V),v.cells[j]?=some y→∃ x,X.cells[j]?=some x∧SR1 k w β A u y x∧x.oneCell'=true:=by
 by_cases hp:v.plain=true
 ·rw [SR.of_plain hp] at h
  obtain ⟨c1,c2⟩:=h.cells
  exact ⟨by simpa using c1,fun j y hj=>let ⟨x,p,q,r⟩:=c2 j y hj; ⟨x,by simpa using p,q.sr1,r⟩⟩
 ·cases v with
  | vec xs c =>
   cases c with
   | own s =>
    have hvr:=h.vec
    have h1:=hvr.one (by simp)
    rw [Value.cells_of_one h1]
    refine ⟨rfl,fun j y hj=>?_⟩
    cases j with
    | zero=>simp [V.cells] at hj; subst hj; exact ⟨X,rfl,h,h1⟩
    | succ j=>simp [V.cells] at hj
   | any=>simp [V.plain] at hp
   | full=>simp [V.plain] at hp
  | lptr s z o=>exact absurd rfl (h1 s z o)
  | itr i=>exact absurd rfl (h2 i)
  | tuple vs=>exact absurd rfl (h3 vs)
  | undef=>exact absurd rfl h4
  | _=>simp [V.plain] at hp
theorem Zvm {xs:Array Value} {n:Nat} (hl:xs.size=n) (h:∀ (j:Nat),j < n→∃ x,xs[j]?=some x∧x.oneCell'=true):∀ v ∈ xs.toList,v.oneCell'=true:=by
 intro v hv
 obtain ⟨j,hj,rfl⟩:=List.mem_iff_getElem.1 hv
 obtain ⟨x,hx,h1⟩:=h j (by simpa [hl] using hj)
 have:xs.toList[j]=x:=by
  have:xs.toList[j]?=some x:=by simpa using hx
  rw [List.getElem?_eq_getElem hj] at this
  simpa using this
 rw [this]; exact h1
theorem Zgo {t:TypeId} {n b off:Nat} {X:Value} {c:Array Value} {e':TypeId} (hn:Zbz P t=some n) (hX:X.cells.size=n) (hb:w.heap[b]?=some (.cells c e' (0,0))) (hle:off + n ≤ c.size)
  (hone:∀ v ∈ X.cells.toList,v.oneCell'=true) :
  ∃ w',(Instr.storeAt t (.pointer (some ⟨b,off,none⟩)) X).run P w=.ok () w'∧Change w w' b∧∃ c',w'.heap[b]?=some (.cells c' e' (0,0))∧c'.size=c.size ∧
   ∀ (j:Nat),c'[j]?=if off ≤ j∧j < off + n then X.cells[j - off]? else c[j]?:=by
 obtain ⟨w',r1,r2,c',r3,r4,r5⟩:=Zct (P:=P) X.cells.toList w b off 0 c e' hb (by simp [hX]; omega) hone
 refine ⟨w',?_,r2,c',r3,r4,fun j=>?_⟩
 ·have hne:¬ X.cells.size ≠ n:=by simp [hX]
  simp only [Instr.storeAt,Instr.sureAddr,Sem.run_bind,Sem.run_pure,Result.andThen_ok,storeVar,Za3 hn,if_neg hne]
  exact r1
 ·have:=r5 j
  simp only [Nat.add_zero,Array.length_toList,hX,Array.getElem?_toList] at this
  exact this
theorem Zkw {w':World} {b:Nat} {c c':Array Value} {e1:TypeId} (h:w.heap[b]?=some (.cells c e1 (0,0))) (h':w'.heap[b]?=some (.cells c' e1 (0,0))) (hs:c'.size=c.size) :
  ∀ (c:Array Value) (e:TypeId),w.heap[b]?=some (.cells c e (0,0))→∃ c',w'.heap[b]?=some (.cells c' e (0,0))∧c'.size=c.size:=by
 intro d f hd
 rw [h] at hd
 simp only [Option.some.injEq,Obj.cells.injEq] at hd
 obtain ⟨rfl,rfl,_⟩:=hd
 exact ⟨c',h',hs⟩
theorem Znd (h:FW G N e k β A st a w) {p v:V} {X Y:Value} (hp:SR k w β A st.u p X) (hv:SR k w β A st.u v Y) {t:TypeId} {n:Nat} (hn:Zbz P t=some n) {st':S} (hs:Zad st p v n=some st') :
  ∃ w',(Instr.storeAt t X Y).run P w=.ok () w'∧FW G N e k β A st' a w':=by
 unfold Zad at hs
 split at hs
 ·rename_i hc
  obtain ⟨hlen,hpos⟩:=hc
  split at hs
  ·-- a local box
   rename_i s z off
   obtain ⟨rfl,hA,hl0,c,e',hb,hz⟩:=(show SR1 k w β A st.u (.lptr s z off) X from hp)
   have hcore:(∀ s z o,v ≠ .lptr s z o)→(∀ i,v ≠ .itr i)→(∀ vs,v ≠ .tuple vs)→v ≠ .undef →
     (if off=0∧n=z then some { st with m:=upd st.m s (some v.cells) } else
      match st.m s with
      | some cs=>if off + n ≤ cs.length then some { st with m:=upd st.m s (some (over cs off v.cells)) } else none
      | none=>none)=some st'→∃ w',(Instr.storeAt t (.pointer (some ⟨β s,off,none⟩)) Y).run P w=.ok () w'∧FW G N e k β A st' a w':=by
    intro n1 n2 n3 n4 hs
    obtain ⟨c1,c2⟩:=hv.cells1 n1 n2 n3 n4
    have hYs:Y.cells.size=n:=c1.trans hlen
    have hone:∀ x ∈ Y.cells.toList,x.oneCell'=true:=Zvm hYs (fun j hj=>by
     obtain ⟨x,hx,_,h1⟩:=c2 j (v.cells[j]'(by omega)) (List.getElem?_eq_getElem _)
     exact ⟨x,hx,h1⟩)
    split at hs
    ·rename_i hfull
     obtain ⟨hoff,hnz⟩:=hfull
     have hs2:=Option.some.inj hs
     clear hs
     subst hs2
     subst hoff
     obtain ⟨w',r1,r2,c',r3,r4,r5⟩:=Zgo (P:=P) (t:=t) (off:=0) hn hYs hb (by omega) hone
     refine ⟨w',r1,h.setBox hA hl0 r2 (Zkw hb r3 r4) (fun hk=>⟨c',e',r3,by omega,fun j y hj=>?_⟩)⟩
     obtain ⟨x,hx,hr,h1⟩:=c2 j y hj
     have hjn:j < n:=by
      rcases Nat.lt_or_ge j v.cells.length with h' | h'
      ·omega
      ·rw [List.getElem?_eq_none h'] at hj; simp at hj
     refine ⟨x,?_,hr.mono (Stays.of hk (fun _ _=>rfl)),h1⟩
     rw [r5,if_pos ⟨by omega,by omega⟩]; simpa using hx
    ·split at hs
     ·rename_i cs hm
      split at hs
      ·rename_i hle
       simp only [Option.some.injEq] at hs; subst hs
       obtain ⟨_,_,c0,e0,hb0,hsz0,hall0⟩:=h.mem s cs hm
       rw [hb] at hb0
       simp only [Option.some.injEq,Obj.cells.injEq] at hb0
       obtain ⟨rfl,rfl,_⟩:=hb0
       obtain ⟨w',r1,r2,c',r3,r4,r5⟩:=Zgo (P:=P) (t:=t) (off:=off) hn hYs hb (by omega) hone
       refine ⟨w',r1,h.setBox hA hl0 r2 (Zkw hb r3 r4) (fun hk=>⟨c',e',r3,by rw [Zce _ _ _ (by omega)]; omega,fun j y hj=>?_⟩)⟩
       rw [Zl8 _ _ _ _ (by omega)] at hj
       rw [r5]
       split at hj
       ·rename_i hin
        rw [if_pos ⟨by omega,by omega⟩]
        obtain ⟨x,hx,hr,h1⟩:=c2 _ y hj
        exact ⟨x,hx,hr.mono (Stays.of hk (fun _ _=>rfl)),h1⟩
       ·rename_i hin
        rw [if_neg (by omega)]
        obtain ⟨x,hx,hr,h1⟩:=hall0 j y hj
        exact ⟨x,hx,hr.mono (Stays.of hk (fun _ _=>rfl)),h1⟩
      ·simp at hs
     ·simp at hs
   split at hs
   ·simp at hs
   ·simp at hs
   ·simp at hs
   ·simp at hs
   ·rename_i m1 m2 m3 m4
    exact hcore (fun s z o hh=>m1 s z o hh) (fun i hh=>m2 i hh) (fun vs hh=>m3 vs hh) m4 hs
  ·-- an object
   rename_i id off
   split at hs
   ·rename_i v0 cs hv0 hg
    split at hs
    ·rename_i hle
     simp only [Option.some.injEq] at hs; subst hs
     cases (show VR k w (.ptr id off) X from hp) with
     | ptr _ _ b hb hid =>
      subst hb
      obtain ⟨c,e',hb,hcl,hcr⟩:=h.objCells hg
      have hvr:=hv.outS hv0
      obtain ⟨c1,c2⟩:=hvr.cells
      have hl0:v0.cells.length=n:=by
       cases v with
       | vec xs c=>cases c <;> simp [V.outS,V.out] at hv0 <;> subst hv0 <;> exact hlen
       | _=>simp [V.outS,V.out] at hv0 <;> subst hv0 <;> exact hlen
      have hYs:Y.cells.size=n:=by have:=c1; simp at this; omega
      have hone:∀ x ∈ Y.cells.toList,x.oneCell'=true:=Zvm hYs (fun j hj=>by
       obtain ⟨x,hx,_,h1⟩:=c2 j (v0.cells[j]'(by omega)) (List.getElem?_eq_getElem _)
       exact ⟨x,by simpa using hx,h1⟩)
      obtain ⟨w',r1,r2,c',r3,r4,r5⟩:=Zgo (P:=P) (t:=t) (off:=off) hn hYs hb (by omega) hone
      refine ⟨w',r1,h.setObj (H.get_some hg) r2 (Zkw hb r3 r4) (fun hk=>?_) (fun id2 ver seen hne hit hor=>?_)⟩
      ·refine ⟨c',e',r3,by rw [Zce _ _ _ (by omega)]; omega,by rw [Zce _ _ _ (by omega)]; simp; omega,fun j y hj=>?_⟩
       rw [Zce _ _ _ (by omega)]
       have hjl:j < cs.length:=by
        rcases Nat.lt_or_ge j cs.length with h' | h'
        ·exact h'
        ·rw [List.getElem?_eq_none (by rw [Zce _ _ _ (by omega)]; exact h')] at hj; simp at hj
       rw [Zl8 _ _ _ _ (by omega)] at hj
       rw [List.getElem?_take,if_pos hjl,Array.getElem?_toList,r5]
       split at hj
       ·rename_i hin
        rw [if_pos ⟨by omega,by omega⟩]
        obtain ⟨x,hx,hr,h1⟩:=c2 _ y hj
        exact ⟨x,by simpa using hx,hr.mono hk,h1⟩
       ·rename_i hin
        rw [if_neg (by omega)]
        obtain ⟨x,hx,hr,h1⟩:=hcr.2 j y hj
        exact ⟨x,by simpa using (Zbf hx).1,hr.mono hk,h1⟩
      ·obtain ⟨since,sb,stepped,a1,a2,a3⟩:=hor
       refine ⟨since,sb,stepped,a1,a2,fun es ver' en clock ho hw=>?_⟩
       simp [H.set,upd] at ho
    ·simp at hs
   ·simp at hs
  ·simp at hs
 ·simp at hs
end
end Go.Ab
namespace Go.Ab
section
variable {G:List (Nat × List V)} {N:Nat × Nat} {e:Entry} {k:Ctx} {β:Nat→Nat} {A:Nat→Prop} {st:S} {a:Act} {w:World} {P:Program} {u:List Nat} {hs:Hints} {o:Oper} {K:Ex→S→Prop}
theorem Zmp {sz:Nat}:∀ {xs:List V},(∀ e ∈ xs,e.cells.length=sz)→∀ (i j:Nat) (e v:V),xs[i]?=some e→e.cells[j]?=some v→(xs.flatMap V.cells)[i * sz + j]?=some v
 | [],_,i,j,e,v,hi,_=>by simp at hi
 | x :: xs,h,i,j,e,v,hi,hj=>by
  have hx:=h x (by simp)
  cases i with
  | zero =>
   simp at hi; subst hi
   simp only [List.flatMap_cons,Nat.zero_mul,Nat.zero_add]
   rw [List.getElem?_append_left]
   ·exact hj
   ·rcases Nat.lt_or_ge j x.cells.length with h' | h'
    ·exact h'
    ·rw [List.getElem?_eq_none h'] at hj; simp at hj
  | succ i =>
   simp only [List.flatMap_cons]
   rw [List.getElem?_append_right (by rw [hx,Nat.add_mul]; omega),hx]
   have:(i + 1) * sz + j - sz=i * sz + j:=by rw [Nat.add_mul]; omega
   rw [this]
   exact Zmp (fun e he=>h e (List.mem_cons_of_mem _ he)) i j e v (by simpa using hi) hj
theorem Zmo {sz:Nat}:∀ {xs:List V},(∀ e ∈ xs,e.cells.length=sz)→∀ (p:Nat) (v:V),(xs.flatMap V.cells)[p]?=some v→∃ i j e,xs[i]?=some e∧e.cells[j]?=some v∧p=i * sz + j∧j < sz
 | [],_,p,v,h=>by simp at h
 | x :: xs,hx,p,v,h=>by
  have hl:=hx x (by simp)
  simp only [List.flatMap_cons,List.getElem?_append,hl] at h
  split at h
  ·rename_i hp; exact ⟨0,p,x,rfl,h,by omega,hp⟩
  ·rename_i hp
   obtain ⟨i,j,e,h1,h2,h3,h4⟩:=Zmo (fun e he=>hx e (List.mem_cons_of_mem _ he)) (p - sz) v h
   exact ⟨i + 1,j,e,by simpa using h1,h2,by rw [Nat.add_mul]; omega,h4⟩
theorem Zdq {sz:Nat}:∀ {xs:List V},(∀ e ∈ xs,e.cells.length=sz)→(xs.flatMap V.cells).length=xs.length * sz
 | [],_=>by simp
 | x :: xs,h=>by
  simp only [List.flatMap_cons,List.length_append,List.length_cons,h x (by simp),Zdq (fun e he=>h e (List.mem_cons_of_mem _ he)),Nat.add_mul]
  omega
theorem Zi6 {xs:List V} {sz:Nat} {c:Cap} {b off cap:Nat} {ys:List Value} (hsz:∀ e ∈ xs,e.cells.length=sz) (h:CRs k w (xs.flatMap V.cells) ys) (hc:c.shared=true)
  (hcell:∀ (j:Nat) (x:Value),ys[j]?=some x→w.cell? ⟨b,off + j,none⟩=some x) (hlim:off + xs.length * sz ≤ k.lim b) (hcap:xs.length ≤ cap) (hf:c=.full→cap=xs.length) :
  VR k w (.vec xs c) (.slice (some ⟨b,off,none⟩) xs.length cap):=by
 refine .vec _ c ⟨b,off,none⟩ _ cap sz (fun i j=>ys.getD (i * sz + j) undef) hc rfl hcap hf (fun i e he=>hsz e (List.mem_of_getElem? he)) ?_ ?_
 ·intro i x j v hx hj
  have hv:=Zmp hsz i j x v hx hj
  obtain ⟨y,hy,_,h1⟩:=h.2 _ v hv
  have hg:ys.getD (i * sz + j) undef=y:=by simp [List.getD,hy]
  rw [hg,Zb7]
  refine ⟨hcell _ y hy,?_,h1⟩
  have hlt:i * sz + j < (xs.flatMap V.cells).length:=by
   rcases Nat.lt_or_ge (i * sz + j) (xs.flatMap V.cells).length with h' | h'
   ·exact h'
   ·rw [List.getElem?_eq_none h'] at hv; simp at hv
  rw [Zdq hsz] at hlt
  show off + (i * sz + j) < k.lim b
  omega
 ·intro i x j v hx hj
  have hv:=Zmp hsz i j x v hx hj
  obtain ⟨y,hy,hr,_⟩:=h.2 _ v hv
  have hg:ys.getD (i * sz + j) undef=y:=by simp [List.getD,hy]
  rw [hg]; exact hr
theorem Ziv {xs:List V} {c:Cap} {X:Value} (h:VR k w (.vec xs c) X) {sz:Nat} (hsz:∀ e ∈ xs,e.cells.length=sz) :
  ∃ base cap,X=.slice base xs.length cap∧xs.length ≤ cap∧(c=.full→cap=xs.length)∧∃ ys:List Value,CRs k w (xs.flatMap V.cells) ys ∧
   (∀ ad,base=some ad→∀ (j:Nat) (x:Value),ys[j]?=some x→w.cell? (ad.add j)=some x∧(ad.add j).off < k.lim ad.block)∧(base=none→xs=[]):=by
 cases h with
 | vecNil _ _=>exact ⟨none,0,rfl,Nat.le_refl _,fun _=>rfl,[],⟨rfl,by simp⟩,fun ad h=>by simp at h,fun _=>rfl⟩
 | vec _ _ ad len cap sz' val hc hlen hcap hf hs hcell hval =>
  subst hlen
  have hss:xs ≠ []→sz'=sz:=by
   intro hne
   cases xs with
   | nil=>exact absurd rfl hne
   | cons x xs=>rw [← hs 0 x rfl,hsz x (by simp)]
  refine ⟨some ad,cap,rfl,hcap,hf,(List.range (xs.length * sz)).map fun p=>val (p / sz) (p % sz),⟨by simp [Zdq hsz],fun p v hp=>?_⟩,fun ad' had p x hp=>?_,fun h=>by simp at h⟩
  ·obtain ⟨i,j,x,h1,h2,h3,h4⟩:=Zmo hsz p v hp
   have hne:xs ≠ []:=by intro h0; subst h0; simp at h1
   have:=hss hne
   subst this
   have e1:p / sz'=i:=by rw [h3]; rw [Nat.mul_comm,Nat.mul_add_div (by omega)]; simp [Nat.div_eq_of_lt h4]
   have e2:p % sz'=j:=by rw [h3]; rw [Nat.mul_comm,Nat.mul_add_mod,Nat.mod_eq_of_lt h4]
   have hlt:p < xs.length * sz':=by
    rcases Nat.lt_or_ge p (xs.flatMap V.cells).length with h' | h'
    ·rwa [Zdq hsz] at h'
    ·rw [List.getElem?_eq_none h'] at hp; simp at hp
   refine ⟨val i j,by simp [hlt,e1,e2],hval i x j v h1 h2,(hcell i x j v h1 h2).2.2⟩
  ·simp only [Option.some.injEq] at had; subst had
   simp only [List.getElem?_map,Option.map_eq_some_iff] at hp
   obtain ⟨q,hq,rfl⟩:=hp
   have hlt:p < xs.length * sz:=by
    rcases Nat.lt_or_ge p (xs.length * sz) with h' | h'
    ·exact h'
    ·rw [List.getElem?_eq_none (by simpa using h')] at hq; simp at hq
   rw [List.getElem?_range hlt] at hq
   simp at hq; subst hq
   have hlt':p < (xs.flatMap V.cells).length:=by rw [Zdq hsz]; exact hlt
   obtain ⟨i,j,x,h1,h2,h3,h4⟩:=Zmo hsz p _ (List.getElem?_eq_getElem hlt')
   have hne:xs ≠ []:=by intro h0; subst h0; simp at h1
   have:=hss hne
   subst this
   have e1:p / sz'=i:=by rw [h3]; rw [Nat.mul_comm,Nat.mul_add_div (by omega)]; simp [Nat.div_eq_of_lt h4]
   have e2:p % sz'=j:=by rw [h3]; rw [Nat.mul_comm,Nat.mul_add_mod,Nat.mod_eq_of_lt h4]
   rw [e1,e2,h3]
   obtain ⟨q1,q2,_⟩:=hcell i x j _ h1 h2
   exact ⟨q1,q2⟩
theorem CRs.append {vs us:List V} {xs ys:List Value} (h:CRs k w vs xs) (h':CRs k w us ys):CRs k w (vs ++ us) (xs ++ ys):=by
 refine ⟨by simp [h.1,h'.1],fun j v hj=>?_⟩
 rw [List.getElem?_append] at hj
 split at hj
 ·rename_i hlt
  obtain ⟨x,hx,hr⟩:=h.2 j v hj
  exact ⟨x,by rw [List.getElem?_append_left (by rw [h.1]; exact hlt)]; exact hx,hr⟩
 ·rename_i hlt
  obtain ⟨x,hx,hr⟩:=h'.2 _ v hj
  exact ⟨x,by rw [List.getElem?_append_right (by rw [h.1]; omega),h.1]; exact hx,hr⟩
theorem Zlm {ag:Bool} {sz:Nat} (ho:oneT sz ag=true):∀ {n:Nat} {cs:List V} {xs:List Value},CRs k w cs xs→cs.length=n * sz→(chunk ag sz n cs).flatMap V.cells=cs∧∀ e ∈ chunk ag sz n cs,e.cells.length=sz
 | 0,cs,xs,h,hl=>by
  have:cs=[]:=by simpa using hl
  subst this
  exact ⟨rfl,by simp [chunk]⟩
 | n + 1,cs,xs,h,hl=>by
  rw [Nat.add_mul,Nat.one_mul] at hl
  have h0:(cs.take sz).length=sz:=by simp; omega
  have hs0:CRs k w (cs.take sz) (xs.take sz):=by simpa using h.slice 0 sz
  have hm:=Zk5 hs0 h0 ho
  have hd:CRs k w (cs.drop sz) (xs.drop sz):=by
   refine ⟨by simp [h.1],fun j v hj=>?_⟩
   rw [List.getElem?_drop] at hj
   obtain ⟨x,hx,hr⟩:=h.2 _ v hj
   exact ⟨x,by rw [List.getElem?_drop]; exact hx,hr⟩
  obtain ⟨i1,i2⟩:=Zlm ho (n:=n) hd (by simp; omega)
  refine ⟨by simp only [chunk,List.flatMap_cons,hm,i1,List.take_append_drop],fun e he=>?_⟩
  simp only [chunk,List.mem_cons] at he
  rcases he with rfl | he
  ·rw [hm]; exact h0
  ·exact i2 e he
theorem Zaz {sz n len cap:Nat} {ad:Addr} {ys:List Value} (hl:ys.length=n * sz) (h:∀ (j:Nat) (x:Value),ys[j]?=some x→w.cell? (ad.add j)=some x) :
  (Builtin.firstCells sz n (.slice (some ad) len cap)).run P w=.ok ys.toArray w:=by
 simp only [Builtin.firstCells]
 rw [← hl]
 exact run_loadCells_list w ad ys h
theorem Zfz (h:FW G N e k β A st a w) {y:V} {Y:Value} (hy:SR k w β A st.u y Y) {n sz:Nat} {cs:List V} (hl:lenV y=some n) (hf:flat st.h y=some cs) (hlen:cs.length=n * sz) (h0:0 < sz) :
  ∃ base cap,Y=.slice base n cap∧∃ ys:List Value,CRs k w cs ys∧(Builtin.firstCells sz n Y).run P w=.ok ys.toArray w:=by
 cases y with
 | vec xs c =>
  simp only [lenV,Option.some.injEq] at hl
  simp only [flat,Option.some.injEq] at hf
  subst hl; subst hf
  have hv:=hy.vec
  have hsz:∀ e ∈ xs,e.cells.length=sz:=by
   cases hv with
   | vecNil _ _=>simp
   | vec _ _ ad len cap sz' val hc hle hcap hff hs hcell hval =>
    have hs':∀ e ∈ xs,e.cells.length=sz':=fun e he=>by
     obtain ⟨i,hi,rfl⟩:=List.mem_iff_getElem.1 he
     exact hs i _ (List.getElem?_eq_getElem hi)
    have:=Zdq hs'
    rw [hlen] at this
    intro e he
    have hpos:0 < xs.length:=by cases xs with | nil=>simp at he | cons _ _=>simp
    have:sz=sz':=Nat.eq_of_mul_eq_mul_left hpos this
    rw [this]; exact hs' e he
  obtain ⟨base,cap,rfl,_,_,ys,hcr,hcell,hnil⟩:=Ziv hv hsz
  refine ⟨base,cap,rfl,ys,hcr,?_⟩
  cases base with
  | none =>
   have:=hnil rfl
   subst this
   have:ys=[]:=by simpa using hcr.1
   subst this
   simp [Builtin.firstCells]
  | some ad=>exact Zaz (by rw [hcr.1,hlen]) (fun j x hj=>(hcell ad rfl j x hj).1)
 | ref id off len z =>
  simp only [lenV,Option.some.injEq] at hl
  subst hl
  simp only [flat] at hf
  split at hf
  ·rename_i cs0 hg
   simp only [Option.some.injEq] at hf; subst hf
   obtain ⟨c,e',hb,hcl,hcr⟩:=h.objCells hg
   cases (show VR k w (.ref id off len z) Y from hy) with
   | ref _ _ _ _ cap b hbb hid hlc hcap =>
    subst hbb
    have hs:=hcr.slice off (len * z)
    refine ⟨_,cap,rfl,_,hs,Zaz (by rw [hs.1]; exact hlen) (fun j x hj=>?_)⟩
    obtain ⟨h1,_⟩:=Zbf hj
    rw [List.getElem?_drop] at h1
    rw [Zb7,Zax hb]
    simpa using (Zbf h1).1
  ·simp at hf
 | _=>simp [lenV] at hl
theorem Zd5 {t0 t1 ty el:TypeId} {sz bytes n len cap:Nat} {ctypes:Array TypeId} {base:Option Addr} {Y:Value} {new old z:List Value} {zv:List V} (h0:ctypes[0]?=some t0) (h1:ctypes[1]?=some t1)
  (hu:P.underlying t0=some (.slice el)) (hu1:P.underlying t1=some (.slice el)) (hn:Zbz P el=some sz) (hb:Zgh P el=some bytes) (hz:Zdv P el=some zv) (hzl:zv.length=sz)
  (hY:∃ yb yc,Y=.slice yb n yc) (hnew:(Builtin.firstCells sz n Y).run P w=.ok new.toArray w) :
  (len + n ≤ cap→(Builtin.append_ ctypes ty #[.slice base len cap,Y]).run P w=(match base with | some ad=>(storeCells (ad.add (len * sz)) new).run P w | none=>.ok () w).andThen fun _ w'=>.ok (.slice base (len + n) cap) w') ∧
  (cap < len + n→len + n ≤ 4294967296→bytes ≤ 4096→(∀ w1,w1.heap=w.heap→(Builtin.firstCells sz len (.slice base len cap)).run P w1=.ok old.toArray w1)→(∀ w1,w1.heap=w.heap→(Builtin.firstCells sz n Y).run P w1=.ok new.toArray w1) →
   ∃ newCap rest,len + n ≤ newCap∧rest.size=(newCap - (len + n)) * sz ∧
    (Builtin.append_ ctypes ty #[.slice base len cap,Y]).run P w=.ok (.slice (some ⟨w.heap.size,0,none⟩) (len + n) newCap) (({ w with drawn:=w.drawn + 1 }:World).alloc (.cells ((old.toArray ++ new.toArray) ++ rest) el))):=by
 obtain ⟨yb,yc,rfl⟩:=hY
 obtain ⟨i,hi,hib⟩:=Zgp (P:=P) (w:=w) hb
 obtain ⟨zx,hzr,hzc⟩:=Zcb (P:=P) (w:=w) (k:=⟨fun _=>0,fun _=>0,0⟩) hz
 have hzs:zx.cells.size=sz:=by have:=hzc.1; simp at this; omega
 have g0:∀ (X Y:Value),(#[X,Y]:Array Value)[0]?=some X:=fun _ _=>rfl
 have g1:∀ (X Y:Value),(#[X,Y]:Array Value)[1]?=some Y:=fun _ _=>rfl
 constructor
 ·intro hle
  simp only [Builtin.append_,h0,h1,g0,g1,Sem.run_bind,Zaa hu,Zaa hu1,Result.andThen_ok,Za3 hn,Sem.run_pure,Builtin.lenOf,Bool.false_eq_true,if_false,if_pos hle,Bool.not_false,if_true,hnew]
  cases base with
  | none=>rfl
  | some ad=>simp only [List.toList_toArray,Sem.run_bind,Sem.run_pure]
 ·intro hgt hmost hbt hold hnew1
  have hinfo:∃ i,(typeInfo el).run P w=.ok i w∧i.bytes=bytes:=⟨i,hi,hib⟩
  have c1:¬ (((len + n:Nat):Int) > IntKind.i64.max∧(False∨i.bytes=0)):=by
   have:IntKind.i64.max=9223372036854775807:=by decide
   rw [this]; omega
  have c2:¬ (Builtin.nextslicecap (len + n) cap * i.bytes > 2 ^ 48):=by
   have hg:=growslice_fits (need:=len + n) (old:=cap) (bytes:=bytes) hgt (by
    have:=Nat.mul_le_mul hmost hbt
    omega)
   rw [hib]; omega
  let t:=w.tape w.drawn (.appendCap (len + n) cap el)
  let newCap:=len + n + t % (2 ^ 63 - (len + n))
  refine ⟨newCap,Builtin.zeroCells zx.cells (newCap - (len + n)),Nat.le_add_right _ _,by simp [Builtin.zeroCells,hzs],?_⟩
  have hch:(choose (.appendCap (len + n) cap el)).run P w=.ok newCap { w with drawn:=w.drawn + 1 }:=by
   simp [run_choose,Question.forced,Question.cut,newCap,t]
  obtain ⟨i',hi',hib'⟩:=Zgp (P:=P) (w:=({ w with drawn:=w.drawn + 1 }:World)) hb
  obtain ⟨zx',hzr',_⟩:=Zcb (P:=P) (w:=({ w with drawn:=w.drawn + 1 }:World)) (k:=⟨fun _=>0,fun _=>0,0⟩) hz
  have hzz:zx'=zx:=by
   unfold Zdv at hz
   obtain ⟨i2,hi2,hz⟩:=Zaf hz
   obtain ⟨x2,hx2,hz⟩:=Zaf hz
   have e1:(zeroValue el).run P w=.ok x2 w:=by simp [zeroValue,typeInfo,hi2,hx2]
   have e2:(zeroValue el).run P ({ w with drawn:=w.drawn + 1 }:World)=.ok x2 { w with drawn:=w.drawn + 1 }:=by simp [zeroValue,typeInfo,hi2,hx2]
   rw [e1] at hzr; rw [e2] at hzr'
   simp only [Result.ok.injEq] at hzr hzr'
   rw [← hzr.1,← hzr'.1]
  subst hzz
  have ho:=hold { w with drawn:=w.drawn + 1 } rfl
  have hn1:=hnew1 { w with drawn:=w.drawn + 1 } rfl
  simp only [Builtin.append_,h0,h1,g0,g1,Sem.run_bind,Zaa hu,Zaa hu1,Result.andThen_ok,Za3 hn,Sem.run_pure,Builtin.lenOf,Bool.false_eq_true,if_false,if_neg (show ¬ len + n ≤ cap by omega),hi,if_neg c1,if_neg c2,
   hch,run_askRoom,hi',ho,Bool.not_false,if_true,hn1,hzr',newRow,run_newObj]
  rfl
end
end Go.Ab
namespace Go.Ab
section
variable {G:List (Nat × List V)} {N:Nat × Nat} {e:Entry} {k:Ctx} {β:Nat→Nat} {A:Nat→Prop} {st:S} {a:Act} {w:World} {P:Program} {u:List Nat} {hs:Hints} {o:Oper} {K:Ex→S→Prop}
def useCap (c:Cap) (u:List Nat):List Nat:=
 match c with
 | .own s=>s :: u
 | _=>u
theorem Zfb (h:FW G N e k β A st a w) {y:V} {yb:Option Addr} {yc:Nat} {n sz:Nat} {cs:List V} {new:List Value} (hy:SR k w β A st.u y (.slice yb n yc))
  (hl:lenV y=some n) (hf:flat st.h y=some cs) (hlen:cs.length=n * sz) (hn0:n ≠ 0) (hnrun:(Builtin.firstCells sz n (.slice yb n yc)).run P w=.ok new.toArray w) :
  ∀ w1:World,w1.heap=w.heap→(Builtin.firstCells sz n (.slice yb n yc)).run P w1=.ok new.toArray w1:=by
 intro w1 hw1
 cases yb with
 | none =>
  simp only [Builtin.firstCells,Sem.run_pure,Result.ok.injEq] at hnrun ⊢
  exact ⟨hnrun.1,trivial⟩
 | some b =>
  cases y with
  | vec ys c' =>
   have hlv:ys.length=n:=by simpa [lenV] using hl
   have hfv:ys.flatMap V.cells=cs:=by simpa [flat] using hf
   have hys:∀ e ∈ ys,e.cells.length=sz:=by
    intro e he
    have hv:=hy.vec
    cases hv with
    | vec _ _ ad len cap sz' val hc hle hcap hff hs hcell hval =>
     have hs':∀ e ∈ ys,e.cells.length=sz':=fun e he=>by
      obtain ⟨i,hi,rfl⟩:=List.mem_iff_getElem.1 he
      exact hs i _ (List.getElem?_eq_getElem hi)
     have h7:=Zdq hs'
     rw [hfv,hlen,hlv] at h7
     have:sz=sz':=Nat.eq_of_mul_eq_mul_left (by omega) h7
     rw [this]; exact hs' e he
   obtain ⟨base2,cap2,heq,_,_,ys2,hcr2,hcell2,_⟩:=Ziv hy.vec hys
   simp only [Value.slice.injEq] at heq
   obtain ⟨hb2,_,_⟩:=heq
   have hcells:=hcell2 b hb2.symm
   have hy2l:ys2.length=n * sz:=by rw [hcr2.1,hfv,hlen]
   have r1:=Zaz (P:=P) (w:=w) (len:=n) (cap:=yc) hy2l (fun j x hj=>(hcells j x hj).1)
   rw [r1] at hnrun
   simp only [Result.ok.injEq,and_true] at hnrun
   rw [← hnrun]
   exact Zaz hy2l (fun j x hj=>by
    have:=(hcells j x hj).1
    simpa [World.cell?,hw1] using this)
  | ref id off len z =>
   simp only [lenV,Option.some.injEq] at hl
   subst hl
   simp only [flat] at hf
   split at hf
   ·rename_i cs0 hg
    simp only [Option.some.injEq] at hf; subst hf
    obtain ⟨c',e',hb',hcl,hcr⟩:=h.objCells hg
    have hy':VR k w (.ref id off len z) (.slice (some b) len yc):=hy
    cases hy' with
    | ref _ _ _ _ cap2 b2 hbb hid hlc hcap2 =>
     subst hbb
     have hs2:=hcr.slice off (len * z)
     have hy2l:(((c'.toList.take cs0.length).drop off).take (len * z)).length=len * sz:=by rw [hs2.1]; exact hlen
     have r1:=Zaz (P:=P) (w:=w) (len:=len) (cap:=yc) (ad:=⟨k.ω id,off,none⟩) hy2l (fun j x hj=>by
      obtain ⟨h1,_⟩:=Zbf hj
      rw [List.getElem?_drop] at h1
      rw [Zb7,Zax hb']
      simpa using (Zbf h1).1)
     rw [r1] at hnrun
     simp only [Result.ok.injEq,and_true] at hnrun
     rw [← hnrun]
     exact Zaz hy2l (fun j x hj=>by
      obtain ⟨h1,_⟩:=Zbf hj
      rw [List.getElem?_drop] at h1
      rw [Zb7]
      have:w1.cell? ⟨k.ω id,off + j,none⟩=w.cell? ⟨k.ω id,off + j,none⟩:=by simp [World.cell?,hw1]
      rw [this,Zax hb']
      simpa using (Zbf h1).1)
   ·simp at hf
  | _=>simp [lenV] at hl
theorem Zxl (h:FW G N e k β A st a w) {xs:List V} {c:Cap} {y:V} {X Y:Value} (hx:SR k w β A st.u (.vec xs c) X) (hy:SR k w β A st.u y Y) {n sz bytes:Nat} {ag:Bool} {cs:List V}
  (hl:lenV y=some n) (hf:flat st.h y=some cs) (hlen:cs.length=n * sz) (h0:0 < sz) (ho:oneT sz ag=true) (hbt:bytes ≤ 4096) (hm:xs.length + n ≤ 4294967296) (hsz:∀ e ∈ xs,e.cells.length=sz) (hn0:n ≠ 0)
  {t0 t1 ty el:TypeId} {ctypes:Array TypeId} {zv:List V} (c0:ctypes[0]?=some t0) (c1:ctypes[1]?=some t1) (hu:P.underlying t0=some (.slice el)) (hu1:P.underlying t1=some (.slice el))
  (hn:Zbz P el=some sz) (hb:Zgh P el=some bytes) (hz:Zdv P el=some zv) (hzl:zv.length=sz) (hd:∀ t,o.dst=some t→InN N t)
  (hcap:c=.full∨∃ s,c=.own s∧s ∉ st.u) :
  ∃ w' R,(Builtin.append_ ctypes ty #[X,Y]).run P w=.ok R w' ∧
   Inv G N e ({ st with u:=useCap c st.u }.put o.dst (.vec (xs ++ chunk ag sz n cs) (.own st.n))).tick (a.put o.dst R) w':=by
 obtain ⟨yb,yc,rfl,new,hnew,hnrun⟩:=Zfz (P:=P) h hy hl hf hlen h0
 obtain ⟨base,cap,rfl,hcle,hfull,old,hold,hocell,honil⟩:=Ziv hx.vec hsz
 have hcap2:VR k w (.vec xs .full) (.slice base xs.length cap)∨∃ s,c=.own s∧OwnOK k w β A s xs (.slice base xs.length cap):=by
  rcases hcap with hc | ⟨s,hc,hsu⟩
  ·subst hc; exact .inl hx
  ·subst hc
   rcases hx.2 hsu with h1 | h1
   ·exact .inr ⟨s,rfl,h1⟩
   ·exact .inl h1
 have hnl:new.length=n * sz:=by rw [hnew.1,hlen]
 have hol:old.length=xs.length * sz:=by rw [hold.1,Zdq hsz]
 obtain ⟨hc1,hc2⟩:=Zlm ho hnew hlen
 have hall:∀ e ∈ xs ++ chunk ag sz n cs,e.cells.length=sz:=by
  intro e he
  rcases List.mem_append.1 he with he | he
  ·exact hsz e he
  ·exact hc2 e he
 have hlen2:(xs ++ chunk ag sz n cs).length=xs.length + n:=by simp [chunk_length]
 have hne2:xs ++ chunk ag sz n cs ≠ []:=by
  intro h9
  have:=congrArg List.length h9
  rw [hlen2] at this; simp at this; omega
 have hocell':∀ w1:World,w1.heap=w.heap→(Builtin.firstCells sz xs.length (.slice base xs.length cap)).run P w1=.ok old.toArray w1:=by
  intro w1 hw1
  cases base with
  | none =>
   have:=honil rfl
   subst this
   have:old=[]:=by simpa using hol
   subst this
   simp [Builtin.firstCells]
  | some ad=>exact Zaz hol (fun j x hj=>by
    have:=(hocell ad rfl j x hj).1
    simpa [World.cell?,hw1] using this)
 have hncell:=Zfb (P:=P) h hy hl hf hlen hn0 hnrun
 obtain ⟨happ1,happ2⟩:=Zd5 (P:=P) (w:=w) (ty:=ty) (len:=xs.length) (cap:=cap) (base:=base) (old:=old) (z:=[]) c0 c1 hu hu1 hn hb hz hzl ⟨yb,yc,rfl⟩ hnrun
 by_cases hin:xs.length + n ≤ cap
 ·-- in place
  rcases hcap2 with hc | ⟨s,hc,hown⟩
  ·have:=hc.full_cap; omega
  ·subst hc
   obtain ⟨hA,ad,cap',sz',heq,hblk,hspot,hszp,hne,hall',hend,hck⟩:=hown
   simp only [Value.slice.injEq,true_and] at heq
   obtain ⟨rfl,hcc⟩:=heq
   subst hcc
   have hss:sz'=sz:=by
    cases xs with
    | nil=>exact absurd rfl hne
    | cons x xs=>rw [← hall' x (by simp),hsz x (by simp)]
   subst hss
   obtain ⟨cb,eb,hcb,hsize⟩:=hck
   have hadd:ad.add (xs.length * sz')=⟨β s,ad.off + xs.length * sz',none⟩:=by rw [Zxp _ _ hspot,hblk]
   have hmul:(xs.length + n) * sz' ≤ cap * sz':=Nat.mul_le_mul_right _ hin
   rw [Nat.add_mul] at hmul
   obtain ⟨w',r1,r2,cb',r3,r4,r5⟩:=Zct (P:=P) new w (β s) (ad.off + xs.length * sz') 0 cb eb hcb (by omega) (fun v hv=>by
    obtain ⟨j,hj,rfl⟩:=List.mem_iff_getElem.1 hv
    obtain ⟨x,hx,_,h1⟩:=hnew.2 j (cs[j]'(by rw [← hnew.1]; exact hj)) (List.getElem?_eq_getElem _)
    rw [List.getElem?_eq_getElem hj] at hx
    simp only [Option.some.injEq] at hx
    rw [hx]; exact h1)
   have hlimpos:0 < k.lim (β s):=by
    rw [← hend]
    have:0 < xs.length:=by cases xs with | nil=>exact absurd rfl hne | cons _ _=>simp
    have:=Nat.mul_pos this hszp
    omega
   obtain ⟨hk,hfw⟩:=h.growOwn (s:=s) (L:=ad.off + (xs.length + n) * sz') (w':=w') hA (by rw [← hend,Nat.add_mul]; omega) hlimpos r2 (Zkw hcb r3 r4) (fun i v hi hv=>by
    rw [Zax hcb] at hv
    rw [Zax r3,r5,if_neg (by omega)]
    exact hv)
   have hallo:=h.alloc s hA
   obtain ⟨hst,hfw2⟩:=hfw.stampNew (b:=β s) hallo.2.1 (by rw [r2.size]; exact hallo.2.2.1) hallo.2.2.2 (fun s' hs' heq=>hs'.2 (h.ainj s' s hs'.1 hA heq))
   have hvr:VR (k.setLim (β s) (ad.off + (xs.length + n) * sz')) w' (.vec (xs ++ chunk ag sz' n cs) .any) (.slice (some ⟨β s,ad.off,none⟩) (xs ++ chunk ag sz' n cs).length cap):=by
    refine Zi6 (ys:=old ++ new) hall (by rw [List.flatMap_append,hc1]; exact (hold.mono hk).append (hnew.mono hk)) rfl (fun j x hj=>?_) (by simp only [Ctx.setLim,Zan,hlen2]; exact Nat.le_refl _) (by rw [hlen2]; exact hin) (by simp)
    rw [List.getElem?_append] at hj
    rw [Zax r3,r5]
    split at hj
    ·rename_i hlt
     rw [hol] at hlt
     rw [if_neg (by omega)]
     have h1:=(hocell ad rfl j x hj).1
     rw [Zxp _ _ hspot,hblk,Zax hcb] at h1
     exact h1
    ·rename_i hlt
     rw [hol] at hlt hj
     have hjl:j - xs.length * sz' < new.length:=by
      rcases Nat.lt_or_ge (j - xs.length * sz') new.length with h' | h'
      ·exact h'
      ·rw [List.getElem?_eq_none h'] at hj; simp at hj
     rw [if_pos ⟨by omega,by omega⟩]
     have:ad.off + j - (ad.off + xs.length * sz' + 0)=j - xs.length * sz':=by omega
     rw [this]; exact hj
   have hade:(some ad:Option Addr)=some ⟨β s,ad.off,none⟩:=by
    congr 1; cases ad; simp only at hblk hspot; subst hblk; subst hspot; rfl
   refine ⟨w',.slice (some ad) (xs.length + n) cap,by rw [happ1 hin]; simp only [hadd,r1,Result.andThen_ok],?_⟩
   rw [Za0]
   refine (hfw2.put hd ?_).inv
   rw [hlen2] at hvr
   rw [hade]
   refine ⟨VR.mono hvr hst.keeps,fun _=>.inl ⟨.inr rfl,⟨β s,ad.off,none⟩,cap,sz',by rw [hlen2],by simp [Zan],rfl,hszp,hne2,hall,by simp only [Ctx.setLim,Zan,hlen2],?_⟩⟩
   rw [Zan]
   exact ⟨cb',eb,r3,by rw [r4]; exact hsize⟩
 ·-- a new block
  obtain ⟨newCap,rest,hge,hrest,hrun⟩:=happ2 (by omega) hm hbt hocell' hncell
  refine ⟨_,_,hrun,?_⟩
  have h1:=h.drew
  have hku:Keeps k k w ({ w with drawn:=w.drawn + 1 }:World):=⟨Nat.le_refl _,fun _ _=>rfl,fun _ _=>Nat.le_refl _,Nat.le_refl _,fun _ _ h _=>h,fun b c e h=>⟨c,h,rfl⟩⟩
  have h2:∃ A',FW G N e k β A' { st with u:=useCap c st.u } a ({ w with drawn:=w.drawn + 1 }:World)∧(∀ s,A' s→A s):=by
   rcases hcap with hc | ⟨s,hc,hsu⟩
   ·subst hc; exact ⟨A,h1,fun _ h=>h⟩
   ·subst hc; exact ⟨A,h1.useMore s,fun _ h=>h⟩
  obtain ⟨A',h2,hAA⟩:=h2
  have h3:=h2.alloc' (.cells ((old.toArray ++ new.toArray) ++ rest) el) ((xs.length + n) * sz)
  obtain ⟨hst,h4⟩:=h3.stampNew (b:=w.heap.size) h.old.keeps.size (by simp) (fun id q hq=>Nat.ne_of_lt (h.wr.obj id q hq).2.1) (fun s hs=>Nat.ne_of_lt (h.alloc s (hAA s hs)).2.2.1)
  have hk3:Keeps k (k.setLim w.heap.size ((xs.length + n) * sz)) w (({ w with drawn:=w.drawn + 1 }:World).alloc (.cells ((old.toArray ++ new.toArray) ++ rest) el)):=hku.trans (Keeps.alloc (w:=({ w with drawn:=w.drawn + 1 }:World)) _ _)
  have hnb:(({ w with drawn:=w.drawn + 1 }:World).alloc (.cells ((old.toArray ++ new.toArray) ++ rest) el)).heap[w.heap.size]?=some (.cells ((old.toArray ++ new.toArray) ++ rest) el (0,0)):=Za6 (w:=({ w with drawn:=w.drawn + 1 }:World))
  have hvr:VR (k.setLim w.heap.size ((xs.length + n) * sz)) (({ w with drawn:=w.drawn + 1 }:World).alloc (.cells ((old.toArray ++ new.toArray) ++ rest) el)) (.vec (xs ++ chunk ag sz n cs) .any) (.slice (some ⟨w.heap.size,0,none⟩) (xs ++ chunk ag sz n cs).length newCap):=by
   refine Zi6 (ys:=old ++ new) hall (by rw [List.flatMap_append,hc1]; exact (hold.mono hk3).append (hnew.mono hk3)) rfl (fun j x hj=>?_) (by simp only [Ctx.setLim,Zan,hlen2]; omega) (by rw [hlen2]; exact hge) (by simp)
   rw [Zax hnb,Nat.zero_add]
   have hjl:j < old.length + new.length:=by
    rcases Nat.lt_or_ge j (old ++ new).length with h' | h'
    ·simpa using h'
    ·rw [List.getElem?_eq_none h'] at hj; simp at hj
   rw [Array.getElem?_append_left (by simpa using hjl)]
   rw [← Array.getElem?_toList]
   simpa using hj
  rw [Za0]
  refine (h4.put hd ?_).inv
  rw [hlen2] at hvr
  refine ⟨VR.mono hvr hst.keeps,fun _=>.inl ⟨.inr rfl,⟨w.heap.size,0,none⟩,newCap,sz,by rw [hlen2],by simp [Zan],rfl,h0,hne2,hall,by simp only [Ctx.setLim,Zan,hlen2]; omega,?_⟩⟩
  rw [Zan]
  refine ⟨_,el,hnb,?_⟩
  simp only [Array.size_append,List.size_toArray,hol,hnl,hrest]
  rw [Nat.sub_mul,Nat.zero_add]
  have:=Nat.mul_le_mul_right sz hge
  rw [Nat.add_mul] at *
  omega
end
end Go.Ab
namespace Go.Ab
def RR1 (k:Ctx) (w:World) (b:Nat) (fb:Prop):V→Value→Prop
 | .vec xs (.own _),x=>VR k w (.vec xs .any) x∧((fb∧OwnOK k w (fun _=>b) (fun _=>True) 0 xs x)∨VR k w (.vec xs .full) x)
 | v,x=>VR k w v x
def RR (k:Ctx) (w:World) (b:Nat) (fb:Prop):V→Value→Prop
 | .tuple vs,x=>∃ xs:Array Value,x=.tuple xs∧xs.size=vs.length∧∀ (j:Nat) (v:V),vs[j]?=some v→∃ y,xs[j]?=some y∧RR1 k w b fb v y
 | v,x=>RR1 k w b fb v x
def Fresh (base:Nat) (k:Ctx) (h:H) (w:World) (b:Nat):Prop:=
 base ≤ b∧b < w.heap.size∧∀ id o,h.objs id=some o→k.ω id ≠ b
def Zbw (G:List (Nat × List V)) (k:Ctx) (h:H) (w:World) (o:Out) (h':H) (en:Ending) (w':World):Prop:=
 ∃ k',WR k' h' w' G∧Old ⟨k,h,w,fun _=>False,[],fun _=>undef,fun _=>none⟩ k' h' w'∧match o with
  | .ret v=>∃ x b fb,en=.returned x∧(fb→Fresh w.heap.size k' h' w' b)∧RR k' w' b fb v x
  | .pan v=>∃ x,en=.panicked [{ v:=x,recovered:=false }]∧VR k' w' v x
def Zgi (k:Ctx) (w:World) (args:List V) (xs:Array Value):Prop:=
 xs.size=args.length∧∀ (j:Nat) (v:V),args[j]?=some v→∃ x,xs[j]?=some x∧VR k w v x
def Zez (P : Program) (f : FuncId) : Prop := ∃ fn, P.funcs[f]? = some fn ∧ fn.body.isSome = true ∧ fn.name ≠ "runtime.NumGoroutine"
def Zby (P:Program) (G:List (Nat × List V)) (call:Zas):Prop:=
 ∀ f args h K,call f args h K→Zez P f∧∀ k w xs,WR k h w G→Zgi k w args xs→Calls P f xs w fun en w'=>∃ o h',K o h'∧Zbw G k h w o h' en w'
section
variable {G:List (Nat × List V)} {N:Nat × Nat} {e:Entry} {k:Ctx} {β:Nat→Nat} {A:Nat→Prop} {st:S} {a:Act} {w:World} {P:Program} {u:List Nat} {hs:Hints} {o:Oper} {K:Ex→S→Prop}
theorem Zp7 (h:FW G N e k β A st a w) {x y:V} {X Y:Value} (hx:SR k w β A st.u x X) (hy:SR k w β A st.u y Y) {n sz bytes len:Nat} {cs oldv:List V} {hnew':H}
  (hl:lenV y=some n) (hf:flat st.h y=some cs) (hlen:cs.length=n * sz) (h0:0 < sz) (hbt:bytes ≤ 4096) (hm:len + n ≤ 4294967296) (hn0:0 < n)
  {t0 t1 ty el:TypeId} {ctypes:Array TypeId} {zv:List V} (c0:ctypes[0]?=some t0) (c1:ctypes[1]?=some t1) (hu:P.underlying t0=some (.slice el)) (hu1:P.underlying t1=some (.slice el))
  (hn:Zbz P el=some sz) (hb:Zgh P el=some bytes) (hz:Zdv P el=some zv) (hzl:zv.length=sz) (hd:∀ t,o.dst=some t→InN N t)
  (hcase:(x=.vec [] .full∧len=0∧oldv=[]∧hnew'=st.h.new (.cells cs))∨(∃ id,x=.ref id 0 len sz∧st.h.get id=some oldv∧oldv.length=len * sz∧hnew'=st.h.move id (.cells (oldv ++ cs)))) :
  ∃ w' R,(Builtin.append_ ctypes ty #[X,Y]).run P w=.ok R w' ∧
   Inv G N e ((st.withH hnew').put o.dst (.ref st.h.next 0 (len + n) sz)).tick (a.put o.dst R) w':=by
 obtain ⟨yb,yc,rfl,new,hnew,hnrun⟩:=Zfz (P:=P) h hy hl hf hlen h0
 have hnl:new.length=n * sz:=by rw [hnew.1,hlen]
 have hncell:=Zfb (P:=P) h hy hl hf hlen (by omega) hnrun
 have hnx:k.nx=st.h.next:=h.wr.nx
 rcases hcase with ⟨rfl,rfl,rfl,rfl⟩ | ⟨id,rfl,hg,hol,rfl⟩
 ·obtain ⟨base,rfl⟩:∃ base,X=.slice base 0 0:=by
   have hx':VR k w (.vec [] .full) X:=hx
   cases hx' with
   | vecNil _ _=>exact ⟨none,rfl⟩
   | vec _ _ ad len cap sz' val hc hle hcap hff hs hcell hval =>
    have:=hff rfl
    subst this
    simp at hle; subst hle
    exact ⟨some ad,rfl⟩
  have hocell':∀ w1:World,w1.heap=w.heap→(Builtin.firstCells sz 0 (.slice base 0 0)).run P w1=.ok ([]:List Value).toArray w1:=by
   intro w1 hw1
   cases base with
   | none=>simp [Builtin.firstCells]
   | some ad=>simp [Builtin.firstCells,loadCells,loadCellsFrom]
  obtain ⟨_,happ2⟩:=Zd5 (P:=P) (w:=w) (ty:=ty) (len:=0) (cap:=0) (base:=base) (old:=[]) (z:=[]) c0 c1 hu hu1 hn hb hz hzl ⟨yb,yc,rfl⟩ hnrun
  obtain ⟨newCap,rest,hge,hrest,hrun⟩:=happ2 (by omega) hm hbt hocell' hncell
  have hku:Keeps k k w ({ w with drawn:=w.drawn + 1 }:World):=⟨Nat.le_refl _,fun _ _=>rfl,fun _ _=>Nat.le_refl _,Nat.le_refl _,fun _ _ h _=>h,fun b c e h=>⟨c,h,rfl⟩⟩
  have hsz:(([]:List Value).toArray ++ new.toArray ++ rest).size=newCap * sz:=by
   simp only [Array.size_append,List.size_toArray,hnl,hrest,List.length_nil,Nat.zero_add]
   rw [Nat.sub_mul]
   have:=Nat.mul_le_mul_right sz hge
   rw [Nat.add_mul] at *
   omega
  have h1:=h.drew.newObj (o:=.cells cs) (ob:=.cells (([]:List Value).toArray ++ new.toArray ++ rest) el) (by
   refine ⟨_,el,rfl,?_,?_⟩
   ·rw [hsz,hlen]; exact Nat.mul_le_mul_right _ (by omega)
   ·have hk:Keeps k ((k.setLim w.heap.size 0).reg w.heap.size) w ((({ w with drawn:=w.drawn + 1 }:World)).alloc (.cells (([]:List Value).toArray ++ new.toArray ++ rest) el)):=
     (hku.trans (Keeps.alloc (w:=({ w with drawn:=w.drawn + 1 }:World)) _ _)).trans (Keeps.reg _ _ _)
    have hcr:=hnew.mono hk
    refine ⟨by simp [hnl,hlen],fun j v hj=>?_⟩
    obtain ⟨y,hy,hr⟩:=hcr.2 j v hj
    have hjl:j < cs.length:=by
     rcases Nat.lt_or_ge j cs.length with h' | h'
     ·exact h'
     ·rw [List.getElem?_eq_none h'] at hj; simp at hj
    refine ⟨y,?_,hr⟩
    rw [List.getElem?_take,if_pos hjl]
    simp only [Array.toList_append,List.nil_append]
    rw [List.getElem?_append_left (by simp [hnl]; omega)]
    exact hy)
  refine ⟨_,_,hrun,?_⟩
  rw [Za0]
  refine (h1.tick.put hd (VR.sr ?_)).inv
  rw [← hnx]
  refine .ref k.nx 0 _ _ newCap _ (by simp [Ctx.reg,Ctx.setLim,Zan]) (by simp [Ctx.reg,Ctx.setLim]) (by omega) ?_
  have:((k.setLim w.heap.size 0).reg w.heap.size).ω k.nx=w.heap.size:=by simp [Ctx.reg,Ctx.setLim,Zan]
  rw [this]
  exact ⟨_,el,Za6 (w:=({ w with drawn:=w.drawn + 1 }:World)),by rw [hsz]; omega⟩
 ·obtain ⟨c,e',hblk,hcl,hcr⟩:=h.objCells hg
  have hlive:=H.get_some hg
  obtain ⟨hidl,hlt,hlim0,_⟩:=h.wr.obj id _ hlive
  have hx':VR k w (.ref id 0 len sz) X:=hx
  cases hx' with
  | ref _ _ _ _ cap b hbb hid hlc hcap =>
   subst hbb
   have hcl':len * sz ≤ c.size:=by rw [← hol]; exact hcl
   have hcapc:cap * sz ≤ c.size:=by
    obtain ⟨c2,e2,h2,h3⟩:=hcap
    rw [hblk] at h2
    simp only [Option.some.injEq,Obj.cells.injEq] at h2
    obtain ⟨rfl,_,_⟩:=h2
    omega
   have hold:CRs k w oldv (c.toList.take oldv.length):=hcr
   have holl:(c.toList.take oldv.length).length=len * sz:=by rw [hold.1,hol]
   have hocell':∀ w1:World,w1.heap=w.heap→(Builtin.firstCells sz len (.slice (some ⟨k.ω id,0,none⟩) len cap)).run P w1=.ok (c.toList.take oldv.length).toArray w1:=by
    intro w1 hw1
    exact Zaz holl (fun j x hj=>by
     rw [Zb7,Nat.zero_add]
     have:w1.cell? ⟨k.ω id,j,none⟩=w.cell? ⟨k.ω id,j,none⟩:=by simp [World.cell?,hw1]
     rw [this,Zax hblk]
     simpa using (Zbf hj).1)
   obtain ⟨happ1,happ2⟩:=Zd5 (P:=P) (w:=w) (ty:=ty) (len:=len) (cap:=cap) (base:=some ⟨k.ω id,0,none⟩) (old:=c.toList.take oldv.length) (z:=[]) c0 c1 hu hu1 hn hb hz hzl ⟨yb,yc,rfl⟩ hnrun
   have hdrop:=h.dropObj id
   have hnobj:∀ id2 q,(upd st.h.objs id none) id2=some q→k.ω id2 ≠ k.ω id:=by
    intro id2 q hq heq
    unfold upd at hq
    split at hq
    ·simp at hq
    ·rename_i hne
     exact hne (h.wr.inj id2 id q _ hq hlive heq)
   have hnβ:∀ s,A s→β s ≠ k.ω id:=fun s hs heq=>(h.alloc s hs).2.2.2 id _ hlive heq.symm
   have hsrc:k.ω id < e.w.heap.size→∃ id0 o0,e.h.objs id0=some o0∧e.k.ω id0=k.ω id:=fun hlt=>h.old.src id _ hlive hlt
   by_cases hin:len + n ≤ cap
   ·have hmul:(len + n) * sz ≤ cap * sz:=Nat.mul_le_mul_right _ hin
    rw [Nat.add_mul] at hmul
    obtain ⟨w',r1,r2,cb',r3,r4,r5⟩:=Zct (P:=P) new w (k.ω id) (len * sz) 0 c e' hblk (by omega) (fun v hv=>by
     obtain ⟨j,hj,rfl⟩:=List.mem_iff_getElem.1 hv
     obtain ⟨x,hx,_,h1⟩:=hnew.2 j (cs[j]'(by rw [← hnew.1]; exact hj)) (List.getElem?_eq_getElem _)
     rw [List.getElem?_eq_getElem hj] at hx
     simp only [Option.some.injEq] at hx
     rw [hx]; exact h1)
    have hk:Keeps k k w w':=Keeps.change r2 hlim0 (Zkw hblk r3 r4)
    have h2:=hdrop.changeFree (w':=w') (b:=k.ω id) r2 hlim0 (Zkw hblk r3 r4) hnobj hnβ hsrc
    have h3:=h2.regObj (b:=k.ω id) (o:=.cells (oldv ++ cs)) (by rw [r2.size]; exact hlt) hlim0 hnobj hnβ hsrc (by
     refine ⟨cb',e',r3,by simp [hol,hlen,r4]; omega,?_⟩
     have hk2:Keeps k (k.reg (k.ω id)) w w':=hk.trans (Keeps.reg _ _ _)
     have hcr2:=(hold.mono hk2).append (hnew.mono hk2)
     refine ⟨by simp [hol,hlen,r4]; omega,fun j v hj=>?_⟩
     obtain ⟨y,hy,hr⟩:=hcr2.2 j v hj
     refine ⟨y,?_,hr⟩
     have hjl:j < (oldv ++ cs).length:=by
      rcases Nat.lt_or_ge j (oldv ++ cs).length with h' | h'
      ·exact h'
      ·rw [List.getElem?_eq_none h'] at hj; simp at hj
     rw [List.getElem?_take,if_pos hjl,Array.getElem?_toList,r5]
     rw [List.getElem?_append] at hy
     split at hy
     ·rename_i hlt2
      rw [holl] at hlt2
      rw [if_neg (by omega)]
      simpa using (Zbf hy).1
     ·rename_i hlt2
      rw [holl] at hlt2 hy
      simp [hol,hlen] at hjl
      rw [if_pos ⟨by omega,by omega⟩]
      exact hy)
    refine ⟨w',.slice (some ⟨k.ω id,0,none⟩) (len + n) cap,by rw [happ1 hin]; simp only [Zb7,Nat.zero_add,r1,Result.andThen_ok],?_⟩
    rw [Za0]
    refine (h3.tick.put hd (VR.sr ?_)).inv
    rw [← hnx]
    refine .ref k.nx 0 _ _ cap _ (by simp [Ctx.reg,Zan]) (by simp [Ctx.reg]) hin ?_
    have:(k.reg (k.ω id)).ω k.nx=k.ω id:=by simp [Ctx.reg,Zan]
    rw [this]
    exact ⟨cb',e',r3,by omega⟩
   ·obtain ⟨newCap,rest,hge,hrest,hrun⟩:=happ2 (by omega) hm hbt hocell' hncell
    have hku:Keeps k k w ({ w with drawn:=w.drawn + 1 }:World):=⟨Nat.le_refl _,fun _ _=>rfl,fun _ _=>Nat.le_refl _,Nat.le_refl _,fun _ _ h _=>h,fun b c e h=>⟨c,h,rfl⟩⟩
    have hsz:((c.toList.take oldv.length).toArray ++ new.toArray ++ rest).size=newCap * sz:=by
     simp only [Array.size_append,List.size_toArray,hnl,hrest,holl]
     rw [Nat.sub_mul]
     have:=Nat.mul_le_mul_right sz hge
     rw [Nat.add_mul] at *
     omega
    have h1:=hdrop.drew.newObj (o:=.cells (oldv ++ cs)) (ob:=.cells ((c.toList.take oldv.length).toArray ++ new.toArray ++ rest) el) (by
     refine ⟨_,el,rfl,?_,?_⟩
     ·rw [hsz]; simp only [List.length_append,hol,hlen,← Nat.add_mul]; exact Nat.mul_le_mul_right _ hge
     ·have hk:Keeps k ((k.setLim w.heap.size 0).reg w.heap.size) w ((({ w with drawn:=w.drawn + 1 }:World)).alloc (.cells ((c.toList.take oldv.length).toArray ++ new.toArray ++ rest) el)):=
       (hku.trans (Keeps.alloc (w:=({ w with drawn:=w.drawn + 1 }:World)) _ _)).trans (Keeps.reg _ _ _)
      have hcr2:=(hold.mono hk).append (hnew.mono hk)
      have htl:(oldv ++ cs).length=((c.toList.take oldv.length) ++ new).length:=by rw [hcr2.1]
      refine ⟨by rw [List.length_take,Nat.min_eq_left]; rw [htl]; simp only [Array.toList_append,List.length_append]; omega,fun j v hj=>?_⟩
      obtain ⟨y,hy,hr⟩:=hcr2.2 j v hj
      have hjl:j < (oldv ++ cs).length:=by
       rcases Nat.lt_or_ge j (oldv ++ cs).length with h' | h'
       ·exact h'
       ·rw [List.getElem?_eq_none h'] at hj; simp at hj
      refine ⟨y,?_,hr⟩
      rw [List.getElem?_take,if_pos hjl]
      simp only [Array.toList_append]
      rw [List.getElem?_append_left (by rw [← htl]; exact hjl)]
      exact hy)
    refine ⟨_,_,hrun,?_⟩
    rw [Za0]
    refine (h1.tick.put hd (VR.sr ?_)).inv
    rw [← hnx]
    refine .ref k.nx 0 _ _ newCap _ (by simp [Ctx.reg,Ctx.setLim,Zan]) (by simp [Ctx.reg,Ctx.setLim]) (by omega) ?_
    have:((k.setLim w.heap.size 0).reg w.heap.size).ω k.nx=w.heap.size:=by simp [Ctx.reg,Ctx.setLim,Zan]
    rw [this]
    exact ⟨_,el,Za6 (w:=({ w with drawn:=w.drawn + 1 }:World)),by rw [hsz]; omega⟩
end
end Go.Ab
namespace Go.Ab
section
variable {G:List (Nat × List V)} {N:Nat × Nat} {e:Entry} {k:Ctx} {β:Nat→Nat} {A:Nat→Prop} {st:S} {a:Act} {w:World} {P:Program} {u:List Nat} {hs:Hints} {o:Oper} {K:Ex→S→Prop}
theorem FW.newBox (h:FW G N e k β A st a w) {cs:List V} {xs:Array Value} {t:TypeId} (hd:∀ t,o.dst=some t→InN N t) (hl:xs.size=cs.length)
  (hc:∀ (j:Nat) (v:V),cs[j]?=some v→∃ x,xs[j]?=some x∧SR1 k w β A st.u v x∧x.oneCell'=true) :
  Inv G N e ({ (st.put o.dst (.lptr st.n cs.length 0)) with m:=upd st.m st.n (some cs) }:S).tick (a.put o.dst (.pointer (some ⟨w.heap.size,0,none⟩))) (w.alloc (.cells xs t)):=by
 have hk:=Keeps.alloc (k:=k) (w:=w) (.cells xs t) 0
 have h1:=h.alloc' (.cells xs t) 0
 obtain ⟨hst,h2⟩:=h1.stampNew (b:=w.heap.size) h.old.keeps.size (by simp) (fun id q hq=>Nat.ne_of_lt (h.wr.obj id q hq).2.1) (fun s hs=>Nat.ne_of_lt (h.alloc s hs).2.2.1)
 have hst0:Stays k (k.setLim w.heap.size 0) w (w.alloc (.cells xs t)) β β A A st.u st.u:=Stays.of hk (fun s hs=>by simp [Ctx.setLim,Zd1 _ _ (Nat.ne_of_lt (h.alloc s hs).2.2.1)])
 have hb:(w.alloc (.cells xs t)).heap[upd β st.n w.heap.size st.n]?=some (.cells xs t (0,0)):=by rw [Zan]; exact Za6
 have h3:=h2.setBox (s:=st.n) (cs:=cs) (w':=w.alloc (.cells xs t)) (.inr rfl) (by rw [Zan]; simp [Ctx.setLim,Zan]) (.refl _ _) (fun c e hc=>⟨c,hc,rfl⟩)
  (fun _=>⟨xs,t,hb,hl,fun j v hj=>let ⟨x,p,q,r⟩:=hc j v hj; ⟨x,p,(q.mono hst0).mono hst,r⟩⟩)
 have h4:=h3.put (d:=o.dst) (v:=.lptr st.n cs.length 0) (x:=.pointer (some ⟨w.heap.size,0,none⟩)) hd ⟨by rw [Zan],.inr rfl,by rw [Zan]; simp [Ctx.setLim,Zan],xs,t,hb,hl⟩
 have:({ (st.put o.dst (.lptr st.n cs.length 0)) with m:=upd st.m st.n (some cs) }:S).tick=({ st.tick with m:=upd st.m st.n (some cs) }:S).put o.dst (.lptr st.n cs.length 0):=by cases o.dst <;> rfl
 rw [this]
 exact h4.inv
theorem FW.bareBox (h:FW G N e k β A st a w) {xs:Array Value} {t:TypeId} {z:Nat} (hd:∀ t,o.dst=some t→InN N t) (hl:xs.size=z) :
  Inv G N e (st.put o.dst (.lptr st.n z 0)).tick (a.put o.dst (.pointer (some ⟨w.heap.size,0,none⟩))) (w.alloc (.cells xs t)):=by
 have h1:=h.alloc' (.cells xs t) 0
 obtain ⟨hst,h2⟩:=h1.stampNew (b:=w.heap.size) h.old.keeps.size (by simp) (fun id q hq=>Nat.ne_of_lt (h.wr.obj id q hq).2.1) (fun s hs=>Nat.ne_of_lt (h.alloc s hs).2.2.1)
 have hb:(w.alloc (.cells xs t)).heap[upd β st.n w.heap.size st.n]?=some (.cells xs t (0,0)):=by rw [Zan]; exact Za6
 rw [Za0]
 exact (h2.put (d:=o.dst) (v:=.lptr st.n z 0) (x:=.pointer (some ⟨w.heap.size,0,none⟩)) hd ⟨by rw [Zan],.inr rfl,by rw [Zan]; simp [Ctx.setLim,Zan],xs,t,hb,hl⟩).inv
theorem FW.newCells (h:FW G N e k β A st a w) {cs:List V} {xs:Array Value} {t:TypeId} (hd:∀ t,o.dst=some t→InN N t) (hc:CRs k w cs xs.toList) {v:V} {x:Value}
  (hv:VR ((k.setLim w.heap.size 0).reg w.heap.size) (w.alloc (.cells xs t)) v x) :
  Inv G N e ((st.withH (st.h.new (.cells cs))).put o.dst v).tick (a.put o.dst x) (w.alloc (.cells xs t)):=by
 have hk:Keeps k ((k.setLim w.heap.size 0).reg w.heap.size) w (w.alloc (.cells xs t)):=(Keeps.alloc _ _).trans (Keeps.reg _ _ _)
 have h1:=h.newObj (o:=.cells cs) (ob:=.cells xs t) ⟨xs,t,rfl,by rw [← hc.1]; simp,by
  have:=hc.mono hk
  have hx:xs.toList.take cs.length=xs.toList:=List.take_of_length_le (by rw [hc.1]; exact Nat.le_refl _)
  rw [hx]; exact this⟩
 rw [Za0]
 exact (h1.tick.put hd hv.sr).inv
theorem Zky (k:Ctx) (b c:Nat):((k.setLim b 0).reg c).ω k.nx=c:=by simp [Ctx.reg,Ctx.setLim,Zan]
theorem Znk (k:Ctx) (b c:Nat):k.nx < ((k.setLim b 0).reg c).nx:=by simp [Ctx.reg,Ctx.setLim]
theorem VR.newPtr (h:FW G N e k β A st a w) (ob:Obj):VR ((k.setLim w.heap.size 0).reg w.heap.size) (w.alloc ob) (.ptr st.h.next 0) (.pointer (some ⟨w.heap.size,0,none⟩)):=by
 rw [← h.wr.nx]
 exact .ptr k.nx 0 _ (Zky _ _ _).symm (Znk _ _ _)
theorem eff_box (h:FW G N e k β A st a w) (hG:∀ g cells,(g,cells) ∈ hs.glob→(g,cells) ∈ G) {t:TypeId} {x:Operand} {x':Arg} (hop:o.op=.box t x) (hx:Zav hs x=some x') (hd:∀ t,o.dst=some t→InN N t) {call:Zas} {ob:Bool}
  (he:eff call st.n st o.dst (.box x' ob) K):Zcn P G N e o a w K:=by
 have hsr:=h.arg hx hG
 have hrun:(execOp a.eval o).run P w=.ok (.value (.pointer (some ⟨w.heap.size,0,none⟩))) (w.alloc (.cells (a.eval x).cells t)):=by
  simp only [execOp,hop]
  exact Zba (by simp [Instr.box,newVar,newRow])
 cases ob with
 | false =>
  have key:(∀ s z o,evA st.ρ x' ≠ .lptr s z o)→(∀ i,evA st.ρ x' ≠ .itr i)→(∀ vs,evA st.ρ x' ≠ .tuple vs)→evA st.ρ x' ≠ .undef →
    K .normal { (st.put o.dst (.lptr st.n (evA st.ρ x').cells.length 0)) with m:=upd st.m st.n (some (evA st.ρ x').cells) }→Zcn P G N e o a w K:=by
   intro n1 n2 n3 n4 hk
   obtain ⟨c1,c2⟩:=hsr.cells1 n1 n2 n3 n4
   exact Zaq hrun hk (h.newBox hd c1 c2)
  simp only [eff] at he
  split at he
  ·exact he.elim
  ·exact he.elim
  ·exact he.elim
  ·exact he.elim
  ·rename_i m1 m2 m3 m4
   exact key (fun s z o hh=>m1 s z o hh) (fun i hh=>m2 i hh) (fun vs hh=>m3 vs hh) m4 he
 | true =>
  simp only [eff] at he
  split at he
  ·rename_i v hv
   have hvr:=hsr.out hv
   exact Zaq hrun he (h.newCells hd hvr.cells (VR.newPtr h _))
  ·exact he.elim
theorem Zh7 (h:FW G N e k β A st a w) {t:TypeId} {z:List V} (hop:o.op=.alloc t) (hz:Zdv P t=some z) (hd:∀ t,o.dst=some t→InN N t) {call:Zas} {ob:Bool}
  (he:eff call st.n st o.dst (.allocz z ob) K):Zcn P G N e o a w K:=by
 obtain ⟨zx,hzr,hzc⟩:=Zcb (P:=P) (w:=w) (k:=k) hz
 have hrun:(execOp a.eval o).run P w=.ok (.value (.pointer (some ⟨w.heap.size,0,none⟩))) (w.alloc (.cells zx.cells t)):=by
  simp only [execOp,hop]
  exact Zba (by simp [Instr.alloc,hzr,newVar,newRow])
 cases ob with
 | false =>
  simp only [eff] at he
  exact Zaq hrun he (h.newBox hd (by simpa using hzc.1) (fun j v hj=>let ⟨x,p,q,r⟩:=hzc.2 j v hj; ⟨x,by simpa using p,q.sr1,r⟩))
 | true =>
  simp only [eff] at he
  exact Zaq hrun he (h.newCells hd hzc (VR.newPtr h _))
theorem eff_bare (h:FW G N e k β A st a w) {t:TypeId} {z:List V} (hop:o.op=.alloc t) (hz:Zdv P t=some z) (hd:∀ t,o.dst=some t→InN N t)
  (he:K .normal (st.put o.dst (.lptr st.n z.length 0))):Zcn P G N e o a w K:=by
 obtain ⟨zx,hzr,hzc⟩:=Zcb (P:=P) (w:=w) (k:=k) hz
 have hrun:(execOp a.eval o).run P w=.ok (.value (.pointer (some ⟨w.heap.size,0,none⟩))) (w.alloc (.cells zx.cells t)):=by
  simp only [execOp,hop]
  exact Zba (by simp [Instr.alloc,hzr,newVar,newRow])
 exact Zaq hrun he (h.bareBox hd (by simpa using hzc.1))
theorem VR.newRef (h:FW G N e k β A st a w) {xs:Array Value} {t:TypeId} {len sz:Nat} (hl:xs.size=len * sz) :
  VR ((k.setLim w.heap.size 0).reg w.heap.size) (w.alloc (.cells xs t)) (.ref st.h.next 0 len sz) (.slice (some ⟨w.heap.size,0,none⟩) len len):=by
 rw [← h.wr.nx]
 refine .ref k.nx 0 len sz len _ (Zky _ _ _).symm (Znk _ _ _) (Nat.le_refl _) ?_
 rw [Zky]
 exact ⟨xs,t,Za6,by omega⟩
theorem eff_bslO (h:FW G N e k β A st a w) (hG:∀ g cells,(g,cells) ∈ hs.glob→(g,cells) ∈ G) {t el:TypeId} {len n:Nat} {z:List V} {parts:Array (Nat × Operand)} {l:List (Nat × Nat × Arg)} (hop:o.op=.buildSlice t len parts)
  (ht:P.underlying t=some (.slice el)) (hn:Zbz P el=some n) (hz:Zdv P el=some z) (hl:Zei hs (fun i=>some (i * n,n)) parts.toList=some l)
  (hle:len * n ≤ 16777216) (h0:0 < n) (hzl:z.length=n) (hd:∀ t,o.dst=some t→InN N t) {call:Zas} (he:eff call st.n st o.dst (.bslO len n z l) K):Zcn P G N e o a w K:=by
 simp only [eff] at he
 split at he
 ·rename_i cs hf
  obtain ⟨ys,g1,g2,g3⟩:=Zgd h hG ht hn (ZT.of hz) hl hle h0 hzl hf
  have hmap:(parts.map fun (i,x)=>(i,a.eval x))=((parts.toList.map fun (i,x)=>(i,a.eval x)).toArray):=Array.ext' (by rw [Array.toList_map])
  refine Zaq (x:=.slice (some ⟨w.heap.size,0,none⟩) len len) (w':=w.alloc (.cells ys el)) ?_ he (h.newCells hd g2 (VR.newRef h (by have:=g2.1; simp at this; omega)))
  simp only [execOp,hop,hmap]
  exact Zba g1
 ·exact he.elim
theorem Zre {ag:Bool} {sz:Nat} {z:List V} (hz:z.length=sz):∀ (n:Nat),chunk ag sz n (List.replicate n z).flatten=List.replicate n (mkEl ag z)
 | 0=>rfl
 | n + 1=>by
  simp only [chunk,List.replicate_succ,List.flatten_cons]
  rw [List.take_append_of_le_length (by omega),List.drop_append_of_le_length (by omega),List.take_of_length_le (by omega),List.drop_of_length_le (by omega),List.nil_append,Zre hz n]
theorem eff_mks (h:FW G N e k β A st a w) (hG:∀ g cells,(g,cells) ∈ hs.glob→(g,cells) ∈ G) {t el:TypeId} {lo co:Operand} {l c:Arg} {n bytes:Nat} {ag:Bool} {z:List V} (hop:o.op=.makeSlice t lo co)
  (hl:Zav hs lo=some l) (hc:Zav hs co=some c) (ht:P.underlying t=some (.slice el)) (hn:Zbz P el=some n) (hb:Zgh P el=some bytes) (hz:ZT P el z) (h0:0 < n) (hzl:z.length=n) (ho:oneT n ag=true)
  (hd:∀ t,o.dst=some t→InN N t) {call:Zas} {ob:Bool} (he:eff call st.n st o.dst (.mks l c n bytes ag z ob) K):Zcn P G N e o a w K:=by
 simp only [eff] at he
 split at he
 ·rename_i lv cv hlv hcv
  split at he
  ·rename_i hcond
   obtain ⟨hl0,hlc,hlm,hbm,hn0⟩:=hcond
   subst hlc
   obtain ⟨i1,_,hX⟩:=Zqq (h.arg hl hG) hlv
   obtain ⟨i2,_,hY⟩:=Zqq (h.arg hc hG) hcv
   obtain ⟨i,hi,hib⟩:=Zgp (P:=P) (w:=w) hb
   obtain ⟨zx,hzr,hzc⟩:=ZT.sound (P:=P) (w:=w) (k:=k) hz
   have hwrap:IntKind.i64.wrap lv=lv:=by
    have:most=4294967296:=rfl
    exact IntWalk.i64_in _ (by omega)
   have hbn:(bytes:Int) * lv ≤ 17592186044416:=by
    have h1:(lv.toNat:Int)=lv:=Int.toNat_of_nonneg hl0
    have h2:bytes * lv.toNat ≤ 4096 * 4294967296:=Nat.mul_le_mul hbm (by have:most=4294967296:=rfl; omega)
    have h3:((bytes * lv.toNat:Nat):Int) ≤ ((17592186044416:Nat):Int):=Int.ofNat_le.2 (by omega)
    rw [Int.natCast_mul,h1] at h3
    exact h3
   have hnl:¬ (lv < 0∨(i.bytes:Int) * lv > 2 ^ 48):=by rw [hib]; omega
   have hmk:∀ (zz:Array Value),zz=(if lv.toNat * n=0 then #[] else zx.cells)→∃ ys:Array Value,ys=(Array.range (lv.toNat * n)).map (zz[· % zz.size]!)∧CRs k w (List.replicate lv.toNat z).flatten ys.toList:=by
    intro zz hzz
    refine ⟨_,rfl,?_⟩
    by_cases hz0:lv.toNat * n=0
    ·have:lv.toNat=0:=by
      rcases Nat.mul_eq_zero.1 hz0 with h1 | h1
      ·exact h1
      ·omega
     rw [this]
     simp [CRs]
    ·rw [if_neg hz0] at hzz
     rw [hzz]
     exact Zi3 hzc hzl h0
   obtain ⟨ys,hys,hcr⟩:=hmk _ rfl
   have hrun:(Instr.makeSlice t (a.eval lo) (a.eval co)).run P w=.ok (.slice (some ⟨w.heap.size,0,none⟩) lv.toNat lv.toNat) (w.alloc (.cells ys el)):=by
    have c1:(decide (lv < 0) || decide ((i.bytes:Int) * lv > 2 ^ 48))=false:=by
     rw [Bool.or_eq_false_iff]; exact ⟨decide_eq_false (by omega),decide_eq_false (by omega)⟩
    have c2:¬ ((decide (lv < 0) || decide ((i.bytes:Int) * lv > 2 ^ 48) || decide (lv < 0) || decide (lv > lv))=true):=by
     intro hh
     simp only [c1,Bool.false_or,Bool.or_eq_true,decide_eq_true_eq] at hh
     omega
    by_cases hz0:lv.toNat * n=0
    ·rw [if_pos hz0] at hys
     simp only [Instr.makeSlice,Sem.run_bind,Zaa ht,Result.andThen_ok,hX,hY,asInt,asIntOf,Sem.run_pure,hi,hwrap,if_neg c2,run_askRoom,Za3 hn,if_pos hz0,newRow,run_newObj]
     rw [hys]; rfl
    ·rw [if_neg hz0] at hys
     simp only [Instr.makeSlice,Sem.run_bind,Zaa ht,Result.andThen_ok,hX,hY,asInt,asIntOf,Sem.run_pure,hi,hwrap,if_neg c2,run_askRoom,Za3 hn,if_neg hz0,hzr,newRow,run_newObj]
     rw [hys]; rfl
   have hrun':(execOp a.eval o).run P w=.ok (.value (.slice (some ⟨w.heap.size,0,none⟩) lv.toNat lv.toNat)) (w.alloc (.cells ys el)):=by
    simp only [execOp,hop]
    exact Zba hrun
   have hfl:(List.replicate lv.toNat z).flatten.length=lv.toNat * n:=by rw [Zfa,hzl]
   cases ob with
   | true =>
    simp only [if_true] at he
    exact Zaq hrun' he (h.newCells hd hcr (VR.newRef h (by have:=hcr.1; simp at this; simp at hfl; omega)))
   | false =>
    simp only [Bool.false_eq_true,if_false] at he
    refine Zaq hrun' he ?_
    have h1:=h.alloc' (.cells ys el) (lv.toNat * n)
    rw [Za0]
    refine (h1.tick.put hd (VR.sr ?_)).inv
    rw [← Zre (ag:=ag) hzl]
    exact Zid (off:=0) (hcr.mono (Keeps.alloc _ _)) hfl ho rfl (fun j x hj=>by rw [Zax Za6]; simpa using hj) (by simp [Ctx.setLim,Zan]) (Nat.le_refl _) (fun _=>rfl)
  ·exact he.elim
 ·exact he.elim
theorem eff_mkM (h:FW G N e k β A st a w) {t:TypeId} (hop:o.op=.makeMap t none) (hd:∀ t,o.dst=some t→InN N t) {call:Zas} (he:eff call st.n st o.dst .mkM K):Zcn P G N e o a w K:=by
 simp only [eff] at he
 have hrun:(execOp a.eval o).run P w=.ok (.value (.map (some w.heap.size))) (w.alloc (.map #[] 0)):=by
  simp only [execOp,hop]
  exact Zba (by simp [Instr.makeMap])
 refine Zaq hrun he ?_
 have h1:=h.newObj (o:=.map [] 0) (ob:=.map #[] 0) ⟨#[],0,rfl,rfl,by simp,by simp,by simp⟩
 rw [Za0]
 refine (h1.tick.put hd (VR.sr ?_)).inv
 rw [← h.wr.nx]
 exact .map k.nx _ (Zky _ _ _).symm (Znk _ _ _)
theorem eff_pan (h:FW G N e k β A st a w) (hG:∀ g cells,(g,cells) ∈ hs.glob→(g,cells) ∈ G) {x:Operand} {x':Arg} (hop:o.op=.panic x) (hx:Zav hs x=some x') {call:Zas} (he:eff call st.n st o.dst (.pan x') K) :
  Zcn P G N e o a w K:=by
 simp only [eff] at he
 split at he
 ·rename_i t v ho
  have hvr:=(h.arg hx hG).out ho
  unfold Zcn Oper.wp
  have hrun:(execOp a.eval o).run P w=.halt (.panic (a.eval x)) w:=by
   simp only [execOp,hop]
   cases hX:a.eval x <;> rw [hX] at hvr <;> cases hvr
   simp [Instr.panic]
  rw [hrun]
  exact ⟨_,_,he,a.eval x,k,rfl,h.defers,h.wr,h.old,hvr⟩
 ·exact he.elim
theorem Zn3 (h:FW G N e k β A st a w) {call:Zas} (hc:Zby P G call) {f:FuncId} {vs:List V} {xs:Array Value} (hrun:Zez P f→(execOp a.eval o).run P w=.ok (.enter f xs) w) (hd:∀ t,o.dst=some t→InN N t)
  (hargs:Zgi k w vs xs) (he:call f vs st.h fun ou h'=>match ou with
   | .ret v=>K .normal ((st.withH h').put o.dst (landV st.n v))
   | .pan v=>K (.pan v) (.blank h')):Zcn P G N e o a w K:=by
 obtain ⟨hgood,hcalls⟩:=hc f vs st.h _ he
 unfold Zcn Oper.wp
 rw [hrun hgood]
 refine (hcalls k w xs h.wr hargs).mono ?_
 rintro en w' ⟨ou,h',hK,k',hw,ho,hres⟩
 cases ou with
 | pan v =>
  obtain ⟨x,rfl,hvr⟩:=hres
  refine ⟨v,h',hK,x,k',rfl,h.defers.mono ho.keeps,hw,?_,hvr⟩
  have:=(h.call hw ho).old
  exact this
 | ret v =>
  obtain ⟨x,b,fb,rfl,hfr,hrr⟩:=hres
  refine ⟨_,hK,?_⟩
  have h1:=h.call hw ho
  rw [Za0]
  by_cases hown:fb
  ·obtain ⟨f1,f2,f3⟩:=hfr hown
   obtain ⟨hst,h2⟩:=h1.stampNew (b:=b) (Nat.le_trans h.old.keeps.size f1) f2 f3 (fun s hs=>Nat.ne_of_lt (Nat.lt_of_lt_of_le (h.alloc s hs).2.2.1 f1))
   refine (h2.put hd ?_).inv
   have one:∀ (v:V) (x:Value),RR1 k' w' b fb v x→SR1 k' w' (upd β st.n b) (fun s=>A s∨s=st.n) st.u (stampV st.n v) x:=by
    intro v x hr
    have hsame:upd β (st.withH h').n b (st.withH h').n=b:=Zan _ _ _
    cases v with
    | vec xs c =>
     cases c with
     | own s =>
      refine ⟨hr.1,fun hu=>?_⟩
      rcases hr.2 with ⟨_,h9⟩ | h9
      ·obtain ⟨_,ad,cap,sz,q1,q2,q3,q4,q5,q6,q7,q8⟩:=h9
       refine .inl ⟨.inr rfl,ad,cap,sz,q1,?_,q3,q4,q5,q6,?_,?_⟩
       ·rw [Zan]; exact q2
       ·rw [Zan]; exact q7
       ·rw [Zan]; exact q8
      ·exact .inr h9
     | any=>exact VR.sr1 (show VR k' w' (.vec xs .any) x from hr)
     | full=>exact VR.sr1 (show VR k' w' (.vec xs .full) x from hr)
    | _=>exact VR.sr1 (show VR k' w' _ x from hr)
   cases v with
   | tuple vs =>
    obtain ⟨xs,hx,hsz,hall⟩:=hrr
    refine ⟨xs,hx,by simp [landV,hsz],fun j v hj=>?_⟩
    simp only [List.getElem?_map,Option.map_eq_some_iff] at hj
    obtain ⟨v0,hv0,rfl⟩:=hj
    obtain ⟨y,hy,hr⟩:=hall j v0 hv0
    exact ⟨y,hy,one v0 y hr⟩
   | vec xs c =>
    have:=one _ _ (show RR1 k' w' b fb (.vec xs c) x from hrr)
    cases c <;> exact this
   | _=>exact VR.sr (show VR k' w' _ x from hrr)
  ·have h2:=h1.tick
   refine (h2.put hd ?_).inv
   have one:∀ (v:V) (x:Value),RR1 k' w' b fb v x→SR1 k' w' β A st.u (stampV st.n v) x:=by
    intro v x hr
    cases v with
    | vec xs c =>
     cases c with
     | own s =>
      refine ⟨hr.1,fun hu=>?_⟩
      rcases hr.2 with ⟨h9,_⟩ | h9
      ·exact absurd h9 hown
      ·exact .inr h9
     | any=>exact VR.sr1 (show VR k' w' (.vec xs .any) x from hr)
     | full=>exact VR.sr1 (show VR k' w' (.vec xs .full) x from hr)
    | _=>exact VR.sr1 (show VR k' w' _ x from hr)
   cases v with
   | tuple vs =>
    obtain ⟨xs,hx,hsz,hall⟩:=hrr
    refine ⟨xs,hx,by simp [landV,hsz],fun j v hj=>?_⟩
    simp only [List.getElem?_map,Option.map_eq_some_iff] at hj
    obtain ⟨v0,hv0,rfl⟩:=hj
    obtain ⟨y,hy,hr⟩:=hall j v0 hv0
    exact ⟨y,hy,one v0 y hr⟩
   | vec xs c =>
    have:=one _ _ (show RR1 k' w' b fb (.vec xs c) x from hrr)
    cases c <;> exact this
   | _=>exact VR.sr (show VR k' w' _ x from hrr)
theorem Zdn {f:FuncId} (hf:Zez P f) (xs:Array Value):(callFunc f xs).run P w=.ok (.enter f xs) w:=by
 obtain ⟨fn,h1,h2,h3⟩:=hf
 have hn : (fn.name == "runtime.NumGoroutine") = false := by simpa using h3
 have hb:fn.body.isNone=false:=by
  cases hb:fn.body with
  | none=>simp [hb] at h2
  | some _=>rfl
 simp only [callFunc,Sem.run_bind,run_program,Result.andThen_ok,h1,hn,hb,Bool.false_eq_true,if_false,Sem.run_pure]
theorem eff_call (h:FW G N e k β A st a w) (hG:∀ g cells,(g,cells) ∈ hs.glob→(g,cells) ∈ G) {call:Zas} (hc:Zby P G call) {f:FuncId} {cargs:Array Operand} {ctypes:Array TypeId} {args:List Arg}
  (hop:o.op=.call { callee:=.value (.func f),args:=cargs,argTypes:=ctypes }) (hargs:Zbs hs cargs.toList=some args) (hd:∀ t,o.dst=some t→InN N t) (he:eff call st.n st o.dst (.call f args) K):Zcn P G N e o a w K:=by
 simp only [eff] at he
 split at he
 ·rename_i vs hvs
  obtain ⟨h1,h2⟩:=Ze5 h hG hargs hvs
  refine Zn3 h hc (xs:=cargs.map a.eval) (fun hgood=>?_) hd ⟨by simpa using h1,fun j v hj=>by
   obtain ⟨x,hx,hr⟩:=h2 j v hj
   exact ⟨x,by simpa using hx,hr⟩⟩ he
  have:execOp a.eval o=callFunc f (cargs.map a.eval):=by
   simp [execOp,hop,resolve,Deferred.ofValue,Act.eval,invoke]
  rw [this]
  exact Zdn hgood _
 ·exact he.elim
theorem Zwu (h:FW G N e k β A st a w) (hG:∀ g cells,(g,cells) ∈ hs.glob→(g,cells) ∈ G) {call:Zas} (hc:Zby P G call) {fo:Operand} {f:Arg} {cargs:Array Operand} {ctypes:Array TypeId} {args:List Arg}
  (hop:o.op=.call { callee:=.value fo,args:=cargs,argTypes:=ctypes }) (hf:Zav hs fo=some f) (hargs:Zbs hs cargs.toList=some args) (hd:∀ t,o.dst=some t→InN N t)
  (he:eff call st.n st o.dst (.callv f args) K):Zcn P G N e o a w K:=by
 simp only [eff] at he
 have hsr:=h.arg hf hG
 split at he
 ·rename_i g p q hfv
  rw [hfv] at hsr
  split at he
  ·rename_i vs hvs
   obtain ⟨h1,h2⟩:=Ze5 h hG hargs hvs
   have hvr:VR k w (.func (.func g) p q) (a.eval fo):=hsr
   cases hX:a.eval fo <;> rw [hX] at hvr <;> cases hvr
   rename_i p' q' vp vq hpv hqv hp hpx hq hqx
   refine Zn3 h hc (xs:=p' ++ cargs.map a.eval ++ q') (fun hgood=>?_) hd ⟨by simp at h1; simp [hp,hq,h1],fun j v hj=>?_⟩ he
   ·have:execOp a.eval o=callFunc g (p' ++ cargs.map a.eval ++ q'):=by
     simp [execOp,hop,resolve,Deferred.ofValue,hX,invoke]
    rw [this]
    exact Zdn hgood _
   ·rw [List.append_assoc,List.getElem?_append] at hj
    rw [Array.append_assoc]
    split at hj
    ·rename_i hlt
     exact ⟨vp j,by rw [Array.getElem?_append_left (by rw [hp]; exact hlt)]; exact hpx j v hj,hpv j v hj⟩
    ·rename_i hlt
     rw [Array.getElem?_append_right (by rw [hp]; omega),hp]
     rw [List.getElem?_append] at hj
     have hcl:(cargs.map a.eval).size=vs.length:=by simpa using h1
     split at hj
     ·rename_i hlt2
      rw [Array.getElem?_append_left (by rw [hcl]; exact hlt2)]
      obtain ⟨x,hx,hr⟩:=h2 _ v hj
      exact ⟨x,by simpa using hx,hr⟩
     ·rename_i hlt2
      rw [Array.getElem?_append_right (by rw [hcl]; omega),hcl]
      exact ⟨vq _,hqx _ v hj,hqv _ v hj⟩
  ·exact he.elim
 ·exact he.elim
end
end Go.Ab
namespace Go.Ab
section
variable {G:List (Nat × List V)} {N:Nat × Nat} {e:Entry} {k:Ctx} {β:Nat→Nat} {A:Nat→Prop} {st:S} {a:Act} {w:World} {P:Program} {u:List Nat} {hs:Hints} {o:Oper} {K:Ex→S→Prop}
theorem Zd4 {r:Nat} {ob ob':Obj} (h:w.heap[r]?=some ob) (hn:∀ c e f,ob ≠ .cells c e f) :
  ∃ w',(setObj r ob').run P w=.ok () w'∧Change w w' r∧w'.heap[r]?=some ob':=by
 have hlt:r < w.heap.size:=(Array.getElem?_eq_some_iff.1 h).1
 refine ⟨{ w with heap:=w.heap.setIfInBounds r ob' },?_,⟨by simp,fun b' hb=>by simp [Ne.symm hb],rfl,rfl,rfl⟩,by simp [hlt]⟩
 cases ob <;> first | exact absurd rfl (hn _ _ _) | simp [setObj,Sem.run,h]
theorem Zj0 {q:KK} {key:V}:∀ {es:List (V × V)} {i j:Nat} {v:V},Zc5 q key es i=some (some (j,v))→i ≤ j∧∃ a,es[j - i]?=some (a,v)∧eqC q key a=some true
 | [],i,j,v,h=>by simp [Zc5] at h
 | (a,v0) :: es,i,j,v,h=>by
  simp only [Zc5] at h
  split at h
  ·rename_i hb
   simp only [Option.some.injEq,Prod.mk.injEq] at h
   obtain ⟨rfl,rfl⟩:=h
   exact ⟨Nat.le_refl _,a,by simp,hb⟩
  ·obtain ⟨h1,a',h2,h3⟩:=Zj0 h
   have:j - i=(j - (i + 1)) + 1:=by omega
   exact ⟨by omega,a',by rw [this]; simpa using h2,h3⟩
  ·simp at h
theorem Zo3 {q:KK} {kt:TypeId} (hq:Zc3 P kt=some q) {key a:V} {X Y:Value} (h:VR k w key X) (h':VR k w a Y) (hb:eqC q key a=some true) (n:Nat):Instr.sameBits n Y X=true:=by
 cases q <;> cases h <;> cases h' <;> simp [eqC] at hb
 ·obtain ⟨h1,h2⟩:=hb
  subst h1; subst h2
  cases n <;> simp [Instr.sameBits]
 ·have hc:∀ (a b:ByteArray),(a == b)=true→(b == a)=true:=by
   intro a b hab
   rw [beq_toListBytes] at hab ⊢
   simp only [beq_iff_eq] at hab ⊢
   exact hab.symm
  cases n <;> simp only [Instr.sameBits] <;> exact hc _ _ hb
 ·subst hb
  cases n <;> simp [Instr.sameBits]
 all_goals (unfold Zc3 at hq; split at hq <;> simp at hq)
theorem Zvz {q:KK} {key:V} {X:Value} (hk:SR k w β A u key X) (hb:∃ a b,eqC q key a=some b):VR k w key X:=by
 obtain ⟨a,b,hb⟩:=hb
 cases key <;> cases q <;> simp [eqC] at hb <;> exact hk
theorem underT {kt:TypeId} {q:KK} (hq:Zc3 P kt=some q):∃ d,P.underlying kt=some d:=by
 unfold Zc3 at hq
 cases hu:P.underlying kt with
 | none=>simp [hu] at hq
 | some d=>exact ⟨d,rfl⟩
theorem Zjx {q:KK} {kt:TypeId} (hq:Zc3 P kt=some q) {key:V} {X:Value} (hk:SR k w β A u key X) {es:List (V × V)} {en:Array MapEntry} {r:Option (Nat × V)} (h2:en.size=es.length)
  (h3:∀ (j:Nat) (a v:V),es[j]?=some (a,v)→∃ e,en[j]?=some e∧VR k w a e.key∧VR k w v e.val) (hf:Zc5 q key es 0=some r) :
  (r=none∧(Instr.findKey kt X en.toList).run P w=.ok none w)∨(∃ j v x,r=some (j,v)∧(Instr.findKey kt X en.toList).run P w=.ok (some (j,x)) w∧j < es.length∧VR k w key X∧VR k w v x ∧
   ∃ a e0,es[j]?=some (a,v)∧en[j]?=some e0∧Instr.sameBits 10000 e0.key X=true):=by
 obtain ⟨dd,hdd⟩:=underT hq
 cases es with
 | nil =>
  simp [Zc5,Zhg hq] at hf; subst hf
  have:en=#[]:=by simpa using h2
  subst this
  refine .inl ⟨rfl,?_⟩
  unfold Instr.findKey
  simp only [Sem.run_bind,Zaa hdd,Result.andThen_ok]
  rfl
 | cons p es =>
  have hkp:VR k w key X:=by
   refine Zvz (q:=q) hk ⟨p.1,?_⟩
   obtain ⟨a',v'⟩:=p
   simp only [Zc5] at hf
   cases hh:eqC q key a' with
   | none=>simp [hh] at hf
   | some b=>exact ⟨b,rfl⟩
  obtain ⟨r',g1,g2⟩:=Zf0 hdd hq hkp (en:=en.toList) (by simpa using h2) (fun j a v hj=>by simpa using h3 j a v hj) hf
  cases r with
  | none =>
   cases r' with
   | some _=>exact g2.elim
   | none=>exact .inl ⟨rfl,Zel hdd g1⟩
  | some jv =>
   obtain ⟨j,v⟩:=jv
   cases r' with
   | none=>exact g2.elim
   | some jx =>
    obtain ⟨j',x⟩:=jx
    obtain ⟨p1,_,p3,p4,_,_⟩:=g2
    subst p1
    obtain ⟨_,a,q1,q2⟩:=Zj0 hf
    simp only [Nat.sub_zero] at q1
    obtain ⟨e0,q3,q4,_⟩:=h3 j' a v q1
    exact .inr ⟨j',v,x,rfl,Zel hdd g1,by simpa using p3,hkp,p4,a,e0,q1,q3,Zo3 hq hkp q4 q2 _⟩
theorem Zl4:∀ {cs:List V} (d:Nat),(∀ v ∈ cs,∃ k a,v=.int k a)→Instr.sameBits (d + 1) (.agg (cs.map intV).toArray) (.agg (cs.map intV).toArray)=true:=by
 intro cs d hi
 simp only [Instr.sameBits,beq_self_eq_true,Bool.true_and]
 induction cs with
 | nil=>rfl
 | cons c cs ih =>
  obtain ⟨k,a,rfl⟩:=hi c List.mem_cons_self
  have:=ih fun v hv=>hi v (List.mem_cons_of_mem _ hv)
  cases d <;> simpa [intV,Instr.sameBits] using this
theorem Zrf {q:KK} {kt:TypeId} (hq:keyT P kt=some q) {key:V} {X:Value} (hk:SR k w β A u key X) {es:List (V × V)} {en:Array MapEntry} {r:Option (Nat × V)} (h2:en.size=es.length)
  (h3:∀ (j:Nat) (a v:V),es[j]?=some (a,v)→∃ e,en[j]?=some e∧VR k w a e.key∧VR k w v e.val) (hf:Zc5 q key es 0=some r) :
  (∀ em d,(Instr.checkKey em (d + 2) kt X).run P w=.ok () w)∧((r=none∧(Instr.findKey kt X en.toList).run P w=.ok none w)∨(∃ j v x,r=some (j,v)∧(Instr.findKey kt X en.toList).run P w=.ok (some (j,x)) w∧j < es.length∧VR k w key X∧VR k w v x ∧
   ∃ a e0,es[j]?=some (a,v)∧en[j]?=some e0∧Instr.sameBits 10000 e0.key X=true)):=by
 rcases Zlc hq with hq | ⟨n,rfl,hr⟩
 ·exact ⟨fun em d=>Zbt hq em (d + 1) X,Zjx hq hk h2 h3 hf⟩
 obtain ⟨cs,rfl,hlen,hint⟩:=Zq6 (Zhk hf)
 have hkv:VR k w (.agg cs) X:=hk
 refine ⟨fun em d=>Zhq hr hlen hkv em d,?_⟩
 obtain ⟨r',g1,g2⟩:=Zhj (P:=P) hr hkv (en:=en.toList) (by simpa using h2) (fun j a v hj=>by simpa using h3 j a v hj) hf
 have g1:=Zdr hr g1
 cases r with
 | none=>cases r' with
  | some _=>exact g2.elim
  | none=>exact .inl ⟨rfl,g1⟩
 | some jv =>
  obtain ⟨j,v⟩:=jv
  cases r' with
  | none=>exact g2.elim
  | some jx =>
   obtain ⟨j',x⟩:=jx
   obtain ⟨p1,_,p3,p4,_,_⟩:=g2
   subst p1
   obtain ⟨_,a,q1,q2⟩:=Zj0 hf
   simp only [Nat.sub_zero] at q1
   obtain ⟨e0,q3,q4,_⟩:=h3 j' a v q1
   obtain ⟨cs',ds,e1,rfl,_,_,he⟩:=Zwn q2
   cases e1
   obtain ⟨_,hd,hE⟩:=Zev he
   have hE:=hE rfl
   subst hE
   refine .inr ⟨j',v,x,rfl,g1,by simpa using p3,hkv,p4,_,e0,q1,q3,?_⟩
   rw [Zq9 hd q4,Zq9 hint hkv]
   exact Zl4 9999 hint
theorem Zwt (h:FW G N e k β A st a w) (hG:∀ g cells,(g,cells) ∈ hs.glob→(g,cells) ∈ G) {t kt el:TypeId} {mo ko vo:Operand} {m key v:Arg} {q:KK} (hop:o.op=.mapUpdate t mo ko vo∨o.op=.insert t mo ko vo)
  (hm:Zav hs mo=some m) (hk:Zav hs ko=some key) (hv:Zav hs vo=some v) (ht:P.underlying t=some (.map kt el)) (hq:keyT P kt=some q) (hd:∀ t,o.dst=some t→InN N t) {call:Zas}
  (he:eff call st.n st o.dst (.mup q m key v) K):Zcn P G N e o a w K:=by
 have hrun0:∀ {w'},(Instr.mapUpdate t (a.eval mo) (a.eval ko) (a.eval vo)).run P w=.ok () w'→(execOp a.eval o).run P w=.ok .skip w':=by
  intro w' hr
  rcases hop with hop | hop <;> simp only [execOp,hop,Sem.run_bind,hr,Result.andThen_ok,Sem.run_pure]
 simp only [eff] at he
 split at he
 ·rename_i v0 key0 hv0 hk0
  have hvr:=(h.arg hv hG).out hv0
  have hkp:=(h.arg hk hG).out hk0
  have hsk:SR k w β A st.u key0 (a.eval ko):=hkp.sr
  have hsm:=h.arg hm hG
  split at he
  ·rename_i h' hmu
   unfold mupV at hmu
   split at hmu
   ·rename_i id hmid
    rw [hmid] at hsm
    cases hX:a.eval mo <;> rw [hX] at hsm <;> cases (show VR k w (.map id) _ from hsm)
    rename_i b hb hid
    subst hb
    split at hmu
    ·rename_i es ver hg
     obtain ⟨en,clock,g1,g2,g3,g4,g5⟩:=h.map hg
     have hlive:=H.mapAt_some hg
     have hnc:∀ c e f,Obj.map en clock ≠ .cells c e f:=by intro c e f hh; cases hh
     split at hmu
     ·rename_i i vold hf
      simp only [Option.some.injEq] at hmu; subst hmu
      obtain ⟨hck,hfr⟩:=Zrf (P:=P) hq hsk g2 g3 hf
      rcases hfr with ⟨hr,_⟩ | ⟨j,v1,x1,hr,hfk,hjl,_,_,a0,e0,q1,q2,q3⟩
      ·simp at hr
      ·simp only [Option.some.injEq,Prod.mk.injEq] at hr
       obtain ⟨rfl,rfl⟩:=hr
       obtain ⟨w',r1,r2,r3⟩:=Zd4 (P:=P) (ob':=.map (en.modify i fun e=>{ e with key:=a.eval ko,val:=a.eval vo }) clock) g1 hnc
       have hrun:(Instr.mapUpdate t (a.eval mo) (a.eval ko) (a.eval vo)).run P w=.ok () w':=by
        rw [hX]
        simp only [Instr.mapUpdate,Sem.run_bind,Zaa ht,Result.andThen_ok,run_getObj_map g1,hck,hfk,q2,Option.map_some,Option.getD_some,Instr.keyThatStays,q3,if_true,Sem.run_pure,r1]
       have hmod:∀ (j:Nat),(en.modify i fun e=>{ e with key:=a.eval ko,val:=a.eval vo })[j]?=if i=j then (en[j]?).map (fun e=>{ e with key:=a.eval ko,val:=a.eval vo }) else en[j]?:=by
        intro j; rw [Array.getElem?_modify]
       have hborn:∀ (j:Nat) (x:MapEntry),(en.modify i fun e=>{ e with key:=a.eval ko,val:=a.eval vo })[j]?=some x→∃ y,en[j]?=some y∧y.born=x.born:=by
        intro j x hx
        rw [hmod] at hx
        split at hx
        ·simp only [Option.map_eq_some_iff] at hx
         obtain ⟨y,hy,rfl⟩:=hx
         exact ⟨y,hy,rfl⟩
        ·exact ⟨x,hx,rfl⟩
       refine Zmu (hrun0 hrun) he ?_
       have h2:=h.setObj (o':=.map (es.set i (key0,v0)) ver) hlive r2 (fun c e hc=>by rw [g1] at hc; simp at hc) (fun hkk=>by
        refine ⟨_,clock,r3,by simp [g2],fun j x y hj=>?_,fun j1 j2 x1 x2 hx1 hx2 hlt=>?_,fun j x hx=>?_⟩
        ·rw [List.getElem?_set] at hj
         split at hj
         ·rename_i hij
          subst hij
          simp only [Option.some.injEq,Prod.mk.injEq] at hj
          obtain ⟨rfl,rfl⟩:=hj
          exact ⟨_,by rw [hmod,if_pos rfl,q2]; rfl,hkp.mono hkk,hvr.mono hkk⟩
         ·rename_i hij
          obtain ⟨e1,p1,p2,p3⟩:=g3 j x y hj
          exact ⟨e1,by rw [hmod,if_neg hij]; exact p1,p2.mono hkk,p3.mono hkk⟩
        ·obtain ⟨y1,p1,p2⟩:=hborn j1 x1 hx1
         obtain ⟨y2,p3,p4⟩:=hborn j2 x2 hx2
         rw [← p2,← p4]; exact g4 j1 j2 y1 y2 p1 p3 hlt
        ·obtain ⟨y1,p1,p2⟩:=hborn j x hx
         rw [← p2]; exact g5 j y1 p1) (fun id2 ver2 seen hne hit hor=>by
        obtain ⟨since,sb,stepped,a1,a2,a3⟩:=hor
        refine ⟨since,sb,stepped,a1,a2,fun es' ver' en' clock' ho hw=>?_⟩
        simp only [H.set,upd,if_true,Option.some.injEq,O.map.injEq] at ho
        obtain ⟨rfl,rfl⟩:=ho
        rw [r3] at hw
        simp only [Option.some.injEq,Obj.map.injEq] at hw
        obtain ⟨rfl,rfl⟩:=hw
        obtain ⟨b1,b2⟩:=a3 es ver en clock hlive g1
        refine ⟨b1,fun hv=>?_⟩
        obtain ⟨c1,c2,c3,c4,c5⟩:=b2 hv
        refine ⟨c1,c2,c3,by simpa using c4,?_⟩
        rw [c5]
        apply List.map_congr_left
        intro j hj
        have hjl':j < es.length:=c4 j (by simpa using hj)
        obtain ⟨e1,p1,_⟩:=g3 j (es[j]).1 (es[j]).2 (List.getElem?_eq_getElem hjl')
        rw [Array.getD_eq_getD_getElem?,Array.getD_eq_getD_getElem?,hmod,p1]
        split <;> rfl)
       rw [Za0]
       exact (h2.tick.putU hd).inv
     ·rename_i hf
      simp only [Option.some.injEq] at hmu; subst hmu
      obtain ⟨hck,hfr⟩:=Zrf (P:=P) hq hsk g2 g3 hf
      rcases hfr with ⟨_,hfk⟩ | ⟨j,v1,x1,hr,_⟩
      ·obtain ⟨w',r1,r2,r3⟩:=Zd4 (P:=P) (ob':=.map (en.push { key:=a.eval ko,val:=a.eval vo,born:=clock }) (clock + 1)) g1 hnc
       have hrun:(Instr.mapUpdate t (a.eval mo) (a.eval ko) (a.eval vo)).run P w=.ok () w':=by
        rw [hX]
        simp only [Instr.mapUpdate,Sem.run_bind,Zaa ht,Result.andThen_ok,run_getObj_map g1,hck,hfk,r1]
       refine Zmu (hrun0 hrun) he ?_
       have hpush:∀ (j:Nat),(en.push { key:=a.eval ko,val:=a.eval vo,born:=clock })[j]?=if j=es.length then some { key:=a.eval ko,val:=a.eval vo,born:=clock } else en[j]?:=by
        intro j; rw [Array.getElem?_push,g2]
       have h2:=h.setObj (o':=.map (es ++ [(key0,v0)]) (ver + 1)) hlive r2 (fun c e hc=>by rw [g1] at hc; simp at hc) (fun hkk=>by
        refine ⟨_,clock + 1,r3,by simp [g2],fun j x y hj=>?_,fun j1 j2 x1 x2 hx1 hx2 hlt=>?_,fun j x hx=>?_⟩
        ·rw [List.getElem?_append] at hj
         split at hj
         ·rename_i hlt
          obtain ⟨e1,p1,p2,p3⟩:=g3 j x y hj
          exact ⟨e1,by rw [hpush,if_neg (by omega)]; exact p1,p2.mono hkk,p3.mono hkk⟩
         ·rename_i hlt
          have hj0:j=es.length:=by
           rcases Nat.lt_or_ge j (es.length + 1) with h' | h'
           ·omega
           ·rw [List.getElem?_eq_none (by simp; omega)] at hj; simp at hj
          subst hj0
          simp only [Nat.sub_self,List.getElem?_cons_zero,Option.some.injEq,Prod.mk.injEq] at hj
          obtain ⟨rfl,rfl⟩:=hj
          exact ⟨_,by rw [hpush,if_pos rfl],hkp.mono hkk,hvr.mono hkk⟩
        ·rw [hpush] at hx1 hx2
         have hj2:j2 ≤ es.length:=by
          split at hx2
          ·omega
          ·have:=(Array.getElem?_eq_some_iff.1 hx2).1; omega
         rw [if_neg (by omega)] at hx1
         split at hx2
         ·simp only [Option.some.injEq] at hx2; subst hx2
          exact g5 j1 x1 hx1
         ·exact g4 j1 j2 x1 x2 hx1 hx2 hlt
        ·rw [hpush] at hx
         split at hx
         ·simp only [Option.some.injEq] at hx; subst hx
          exact Nat.lt_succ_self _
         ·exact Nat.lt_succ_of_lt (g5 j x hx)) (fun id2 ver2 seen hne hit hor=>by
        obtain ⟨since,sb,stepped,a1,a2,a3⟩:=hor
        refine ⟨since,sb,stepped,a1,a2,fun es' ver' en' clock' ho hw=>?_⟩
        simp only [H.set,upd,if_true,Option.some.injEq,O.map.injEq] at ho
        obtain ⟨rfl,rfl⟩:=ho
        obtain ⟨b1,_⟩:=a3 es ver en clock hlive g1
        exact ⟨by omega,fun hv=>by omega⟩)
       rw [Za0]
       exact (h2.tick.putU hd).inv
      ·simp at hr
     ·simp at hmu
    ·simp at hmu
   ·simp at hmu
  ·exact he.elim
 ·exact he.elim
theorem H.set_same {h:H} {id:Nat} {o:O} (hl:h.objs id=some o):h.set id o=h:=by
 have:upd h.objs id (some o)=h.objs:=by funext b; simp only [upd]; split <;> simp_all
 simp only [H.set,this]
theorem Zpn (en:Array MapEntry) (i j:Nat):(en.eraseIdxIfInBounds i)[j]?=(en.toList.eraseIdx i)[j]?:=by
 unfold Array.eraseIdxIfInBounds
 split
 ·rw [← Array.getElem?_toList,Array.toList_eraseIdx]
 ·rename_i hi
  rw [List.eraseIdx_of_length_le (by simpa using hi),Array.getElem?_toList]
theorem eff_mdel (h:FW G N e k β A st a w) (hG:∀ g cells,(g,cells) ∈ hs.glob→(g,cells) ∈ G) {t kt el:TypeId} {mo ko:Operand} {m key:Arg} {q:KK} {ctypes:Array TypeId}
  (hop:o.op=.call { callee:=.builtin .delete,args:=#[mo,ko],argTypes:=ctypes }) (hct:ctypes[0]?=some t)
  (hm:Zav hs mo=some m) (hk:Zav hs ko=some key) (ht:P.underlying t=some (.map kt el)) (hq:Zc3 P kt=some q) (hd:∀ t,o.dst=some t→InN N t) {call:Zas}
  (he:eff call st.n st o.dst (.mdel q m key) K):Zcn P G N e o a w K:=by
 have hrun0:∀ {w'},(Builtin.delete_ ctypes o.type #[a.eval mo,a.eval ko]).run P w=.ok (.tuple #[]) w'→(execOp a.eval o).run P w=.ok (.value (.tuple #[])) w':=by
  intro w' hr
  have:execOp a.eval o=(do pure (Next.value (← Builtin.delete_ ctypes o.type #[a.eval mo,a.eval ko]))):=by
   simp only [execOp,hop,resolve,invoke,builtin,List.map_toArray,List.map_cons,List.map_nil,pure_bind]
  rw [this]
  exact Zba hr
 have g0:∀ (X Y:Value),(#[X,Y]:Array Value)[0]?=some X:=fun _ _=>rfl
 have g1':∀ (X Y:Value),(#[X,Y]:Array Value)[1]?=some Y:=fun _ _=>rfl
 have hput:∀ {k β A st a w},FW G N e k β A st a w→FW G N e k β A (st.put o.dst (.tuple [])) (a.put o.dst (.tuple #[])) w:=fun hf=>hf.put hd ⟨#[],rfl,rfl,by simp⟩
 simp only [eff] at he
 split at he
 ·rename_i h' hmd
  have hsk:=h.arg hk hG
  have hsm:=h.arg hm hG
  unfold Zpd at hmd
  split at hmd
  ·rename_i hmn
   simp only [Option.some.injEq] at hmd; subst hmd
   rw [hmn] at hsm
   have hX:a.eval mo=.map none:=by cases hX:a.eval mo <;> rw [hX] at hsm <;> cases (show VR k w .nilmap _ from hsm); rfl
   refine Zaq (hrun0 (w':=w) ?_) he ?_
   ·simp only [Builtin.delete_,hct,g0,g1',Sem.run_bind,Zaa ht,Result.andThen_ok,hX,Zbt hq,Sem.run_pure]
   ·rw [Za0]; exact (hput h.tick).inv
  ·rename_i id hmid
   rw [hmid] at hsm
   cases hX:a.eval mo <;> rw [hX] at hsm <;> cases (show VR k w (.map id) _ from hsm)
   rename_i b hb hid
   subst hb
   split at hmd
   ·rename_i es ver hg
    obtain ⟨en,clock,g1,g2,g3,g4,g5⟩:=h.map hg
    have hlive:=H.mapAt_some hg
    have hnc:∀ c e f,Obj.map en clock ≠ .cells c e f:=by intro c e f hh; cases hh
    split at hmd
    ·rename_i i vold hf
     simp only [Option.some.injEq] at hmd; subst hmd
     rcases Zjx (P:=P) hq hsk g2 g3 hf with ⟨hr,_⟩ | ⟨j,v1,x1,hr,hfk,hjl,_,_,a0,e0,q1,q2,q3⟩
     ·simp at hr
     ·simp only [Option.some.injEq,Prod.mk.injEq] at hr
      obtain ⟨rfl,rfl⟩:=hr
      obtain ⟨w',r1,r2,r3⟩:=Zd4 (P:=P) (ob':=.map (en.eraseIdxIfInBounds i) clock) g1 hnc
      refine Zaq (hrun0 (w':=w') ?_) he ?_
      ·simp only [Builtin.delete_,hct,g0,g1',Sem.run_bind,Zaa ht,Result.andThen_ok,hX,run_getObj_map g1,Zbt hq,hfk,r1,Sem.run_pure]
      ·have hget:∀ (j:Nat),(en.eraseIdxIfInBounds i)[j]?=en[if j < i then j else j + 1]?:=by
        intro j
        rw [Zpn,List.getElem?_eraseIdx]
        split <;> simp
       have h2:=h.setObj (o':=.map (es.eraseIdx i) (ver + 1)) hlive r2 (fun c e hc=>by rw [g1] at hc; simp at hc) (fun hkk=>by
        refine ⟨_,clock,r3,?_,fun j x y hj=>?_,fun j1 j2 x1 x2 hx1 hx2 hlt=>?_,fun j x hx=>?_⟩
        ·unfold Array.eraseIdxIfInBounds
         rw [dif_pos (by omega),Array.size_eraseIdx,List.length_eraseIdx,if_pos hjl,g2]
        ·rw [List.getElem?_eraseIdx] at hj
         have hj':es[if j < i then j else j + 1]?=some (x,y):=by
          by_cases hji:j < i
          ·rw [if_pos hji] at hj ⊢; exact hj
          ·rw [if_neg hji] at hj ⊢; exact hj
         obtain ⟨e1,p1,p2,p3⟩:=g3 _ x y hj'
         exact ⟨e1,by rw [hget]; exact p1,p2.mono hkk,p3.mono hkk⟩
        ·rw [hget] at hx1 hx2
         exact g4 _ _ x1 x2 hx1 hx2 (by split <;> split <;> omega)
        ·rw [hget] at hx
         exact g5 _ x hx) (fun id2 ver2 seen hne hit hor=>by
        obtain ⟨since,sb,stepped,a1,a2,a3⟩:=hor
        refine ⟨since,sb,stepped,a1,a2,fun es' ver' en' clock' ho hw=>?_⟩
        simp only [H.set,upd,if_true,Option.some.injEq,O.map.injEq] at ho
        obtain ⟨rfl,rfl⟩:=ho
        obtain ⟨b1,_⟩:=a3 es ver en clock hlive g1
        exact ⟨by omega,fun hv=>by omega⟩)
       rw [Za0]
       exact (hput h2.tick).inv
    ·rename_i hf
     simp only [Option.some.injEq] at hmd; subst hmd
     rcases Zjx (P:=P) hq hsk g2 g3 hf with ⟨_,hfk⟩ | ⟨j,v1,x1,hr,_⟩
     ·obtain ⟨w',r1,r2,r3⟩:=Zd4 (P:=P) (ob':=.map en clock) g1 hnc
      refine Zaq (hrun0 (w':=w') ?_) he ?_
      ·simp only [Builtin.delete_,hct,g0,g1',Sem.run_bind,Zaa ht,Result.andThen_ok,hX,run_getObj_map g1,Zbt hq,hfk,r1,Sem.run_pure]
      ·have h2:=h.setObj (o':=.map es ver) hlive r2 (fun c e hc=>by rw [g1] at hc; simp at hc) (fun hkk =>
        ⟨en,clock,r3,g2,fun j x y hj=>let ⟨e1,p1,p2,p3⟩:=g3 j x y hj; ⟨e1,p1,p2.mono hkk,p3.mono hkk⟩,g4,g5⟩) (fun id2 ver2 seen hne hit hor=>by
        obtain ⟨since,sb,stepped,a1,a2,a3⟩:=hor
        refine ⟨since,sb,stepped,a1,a2,fun es' ver' en' clock' ho hw=>?_⟩
        rw [r3] at hw
        simp only [Option.some.injEq,Obj.map.injEq] at hw
        obtain ⟨rfl,rfl⟩:=hw
        rw [H.set_same hlive] at ho
        exact a3 es' ver' en clock ho g1)
       rw [H.set_same hlive] at h2
       rw [Za0]
       exact (hput h2.tick).inv
     ·simp at hr
    ·simp at hmd
   ·simp at hmd
  ·simp at hmd
 ·exact he.elim
theorem eff_rng (h:FW G N e k β A st a w) (hG:∀ g cells,(g,cells) ∈ hs.glob→(g,cells) ∈ G) {t kt el:TypeId} {mo:Operand} {m:Arg} (hop:o.op=.range t mo) (hm:Zav hs mo=some m) (ht:P.underlying t=some (.map kt el))
  (hd:∀ t,o.dst=some t→InN N t) {call:Zas} (he:eff call st.n st o.dst (.rng m) K):Zcn P G N e o a w K:=by
 simp only [eff] at he
 have hsm:=h.arg hm hG
 split at he
 ·rename_i id hmid
  rw [hmid] at hsm
  cases hX:a.eval mo <;> rw [hX] at hsm <;> cases (show VR k w (.map id) _ from hsm)
  rename_i b hb hid
  subst hb
  split at he
  ·rename_i es ver hg
   obtain ⟨en,clock,g1,g2,g3,g4,g5⟩:=h.map hg
   have hlive:=H.mapAt_some hg
   obtain ⟨l1,l2,_,_⟩:=h.wr.obj id _ hlive
   have hrun:(execOp a.eval o).run P w=.ok (.value (.pointer (some ⟨w.heap.size,0,none⟩))) (w.alloc (.mapIter (some (k.ω id)) clock #[] clock)):=by
    simp only [execOp,hop]
    exact Zba (by simp [Instr.range,Zaa ht,hX,run_getObj_map g1])
   refine Zaq hrun he ?_
   have hid':id ≠ k.nx:=by rw [h.wr.nx]; exact Nat.ne_of_lt l1
   have hωid:((k.setLim w.heap.size 0).reg w.heap.size).ω id=k.ω id:=by
    simp only [Ctx.reg,Ctx.setLim,Zd1 _ _ hid']
   have h1:=h.newObj (o:=.iter id ver []) (ob:=.mapIter (some (k.ω id)) clock #[] clock) (by
    refine ⟨clock,#[],clock,by rw [hωid],by have:=h.wr.nx; simp [Ctx.reg,Ctx.setLim]; omega,fun es' ver' en' clock' ho hw=>?_⟩
    rw [hωid,Zb4 l2,g1] at hw
    simp only [Option.some.injEq,Obj.map.injEq] at hw
    obtain ⟨rfl,rfl⟩:=hw
    have hne:id ≠ st.h.next:=Nat.ne_of_lt l1
    simp only [H.new,Zd1 _ _ hne] at ho
    rw [hlive] at ho
    simp only [Option.some.injEq,O.map.injEq] at ho
    obtain ⟨rfl,rfl⟩:=ho
    exact ⟨Nat.le_refl _,fun _=>⟨rfl,rfl,List.nodup_nil,by simp,rfl⟩⟩)
   rw [Za0]
   refine (h1.tick.put hd ?_).inv
   rw [← h.wr.nx]
   exact ⟨by rw [Zky],Znk _ _ _⟩
  ·exact he.elim
 ·exact he.elim
theorem FW.iter (h:FW G N e k β A st a w) {i id ver:Nat} {seen:List Nat} {es:List (V × V)} (hi:st.h.objs i=some (.iter id ver seen)) (hg:st.h.mapAt id=some (es,ver)) :
  ∃ en clock sb,w.heap[k.ω i]?=some (.mapIter (some (k.ω id)) clock sb clock)∧w.heap[k.ω id]?=some (.map en clock)∧en.size=es.length ∧
   (∀ (j:Nat) (a v:V),es[j]?=some (a,v)→∃ e,en[j]?=some e∧VR k w a e.key∧VR k w v e.val)∧(∀ (i j:Nat) (a b:MapEntry),en[i]?=some a→en[j]?=some b→i < j→a.born < b.born) ∧
   (∀ (i:Nat) (a:MapEntry),en[i]?=some a→a.born < clock)∧seen.Nodup∧(∀ j ∈ seen,j < es.length)∧sb.toList=seen.reverse.map (fun j=>(en.getD j default).born)∧id < k.nx:=by
 obtain ⟨_,_,_,since,sb,stepped,h1,h2,h3⟩:=h.wr.obj i _ hi
 obtain ⟨en,clock,g1,g2,g3,g4,g5⟩:=h.map hg
 obtain ⟨_,h4⟩:=h3 es ver en clock (H.mapAt_some hg) g1
 obtain ⟨rfl,rfl,p1,p2,p3⟩:=h4 rfl
 exact ⟨en,stepped,sb,h1,g1,g2,g3,g4,g5,p1,p2,p3,h2⟩
theorem Zkv {r:Nat} {ob:Obj} (h:w.heap[r]?=some ob) (hn:∀ c e f,ob ≠ .cells c e f):(getObj r).run P w=.ok ob w:=by
 cases ob <;> first | exact absurd rfl (hn _ _ _) | simp [getObj,Sem.run,h]
theorem born_inj {en:Array MapEntry} (g4:∀ (i j:Nat) (a b:MapEntry),en[i]?=some a→en[j]?=some b→i < j→a.born < b.born) {i j:Nat} {x y:MapEntry} (hx:en[i]?=some x) (hy:en[j]?=some y) (hb:x.born=y.born):i=j:=by
 rcases Nat.lt_trichotomy i j with h | h | h
 ·have:=g4 i j x y hx hy h; omega
 ·exact h
 ·have:=g4 j i y x hy hx h; omega
theorem eff_ent (h:FW G N e k β A st a w) (hG:∀ g cells,(g,cells) ∈ hs.glob→(g,cells) ∈ G) {io:Operand} {it:Arg} (hop:o.op=.entry io) (hi:Zav hs io=some it)
  (hd:∀ t,o.dst=some t→InN N t) {call:Zas} (he:eff call st.n st o.dst (.ent it) K):Zcn P G N e o a w K:=by
 simp only [eff] at he
 have hsi:=h.arg hi hG
 split at he
 ·rename_i i hit
  rw [hit] at hsi
  obtain ⟨hX,hid⟩:=(show SR1 k w β A st.u (.itr i) (a.eval io) from hsi)
  split at he
  ·rename_i id ver j seen hobj
   split at he
   ·rename_i es ver' hg
    split at he
    ·rename_i kx vx hj
     obtain ⟨hver,hk⟩:=he
     subst hver
     obtain ⟨en,clock,sb,g1,g2,g3,g4,g5,g6,g7,g8,g9,_⟩:=h.iter hobj hg
     obtain ⟨e0,q1,q2,q3⟩:=g4 j kx vx hj
     have hback:sb.back?=some e0.born:=by
      have:sb.toList=(seen.reverse.map fun j=>(en.getD j default).born) ++ [e0.born]:=by
       rw [g9]; simp [Array.getD_eq_getD_getElem?,q1]
      have h2:sb=((seen.reverse.map fun j=>(en.getD j default).born) ++ [e0.born]).toArray:=by rw [← this]
      rw [h2]; simp
     have hfind:en.find? (fun e=>e.born == e0.born)=some e0:=by
      rw [← Array.find?_toList]
      rw [List.find?_eq_some_iff_getElem]
      refine ⟨by simp,j,(by have:=(Array.getElem?_eq_some_iff.1 q1).1; simpa using this),?_,?_⟩
      ·have:=(Array.getElem?_eq_some_iff.1 q1).2; simpa using this
      ·intro j' hj'
       have hlt:j' < en.size:=by have:=(Array.getElem?_eq_some_iff.1 q1).1; omega
       have:=g5 j' j en[j'] e0 (Array.getElem?_eq_getElem hlt) q1 hj'
       simp; omega
     have hrun:(execOp a.eval o).run P w=.ok (.value (.tuple #[e0.key,e0.val])) w:=by
      simp only [execOp,hop]
      refine Zba ?_
      rw [hX]
      have r1:=Zkv (P:=P) g1 (by intro c e f hh; cases hh)
      have r2:=run_getObj_map (P:=P) g2
      simp only [Instr.entry,Sem.run_bind,r1,Result.andThen_ok,hback,r2,bne_self_eq_false,Bool.false_eq_true,if_false,hfind,Sem.run_pure]
     refine Zaq hrun hk ?_
     rw [Za0]
     refine (h.tick.put hd ?_).inv
     refine ⟨#[e0.key,e0.val],rfl,rfl,fun j v hj=>?_⟩
     match j with
     | 0=>simp at hj; subst hj; exact ⟨e0.key,rfl,q2.sr1⟩
     | 1=>simp at hj; subst hj; exact ⟨e0.val,rfl,q3.sr1⟩
     | j + 2=>simp at hj
    ·exact he.elim
   ·exact he.elim
  ·exact he.elim
 ·exact he.elim
end
end Go.Ab
namespace Go.Ab
section
variable {G:List (Nat × List V)} {N:Nat × Nat} {e:Entry} {k:Ctx} {β:Nat→Nat} {A:Nat→Prop} {st:S} {a:Act} {w:World} {P:Program} {u:List Nat} {hs:Hints} {o:Oper} {K:Ex→S→Prop}
theorem Zqw (n:Nat) (hn:0 < n):∃ i w1,(choose (.mapNext n)).run P w=.ok i w1∧i < n∧(w1=w∨w1={ w with drawn:=w.drawn + 1 }):=by
 by_cases h1:n ≤ 1
 ·exact ⟨0,w,by simp [run_choose,Question.forced,h1],hn,.inl rfl⟩
 ·exact ⟨w.tape w.drawn (.mapNext n) % n,{ w with drawn:=w.drawn + 1 },by simp [run_choose,Question.forced,h1,Question.cut],Nat.mod_lt _ hn,.inr rfl⟩
theorem eff_nxt (h:FW G N e k β A st a w) (hG:∀ g cells,(g,cells) ∈ hs.glob→(g,cells) ∈ G) {io:Operand} {it:Arg} (hop:o.op=.next io false) (hi:Zav hs io=some it)
  (hd:∀ t,o.dst=some t→InN N t) {call:Zas} (he:eff call st.n st o.dst (.nxt it) K):Zcn P G N e o a w K:=by
 simp only [eff] at he
 have hsi:=h.arg hi hG
 split at he
 ·rename_i i hit
  rw [hit] at hsi
  obtain ⟨hX,hid⟩:=(show SR1 k w β A st.u (.itr i) (a.eval io) from hsi)
  split at he
  ·rename_i id ver seen hobj
   split at he
   ·rename_i es ver' hg
    obtain ⟨hver,hover,hstep⟩:=he
    subst hver
    obtain ⟨en,clock,sb,g1,g2,g3,g4,g5,g6,g7,g8,g9,g10⟩:=h.iter hobj hg
    have hcond:(!sb.isEmpty && !en.isEmpty && en.all (fun x=>decide (x.born ≥ clock)))=false:=by
     by_cases h0:en.size=0
     ·have:en=#[]:=by simpa using h0
      subst this; simp
     ·have hlt:0 < en.size:=by omega
      have hb:=g6 0 en[0] (Array.getElem?_eq_getElem hlt)
      have:en.all (fun x=>decide (x.born ≥ clock))=false:=by
       rw [Array.all_eq_false]
       exact ⟨0,hlt,by simp; omega⟩
      rw [this]; simp
    have hleft:(en.filter fun x=>!sb.contains x.born).filter (fun x=>decide (x.born < clock))=en.filter fun x=>!sb.contains x.born:=by
     rw [Array.filter_eq_self]
     intro x hx
     rw [Array.mem_filter] at hx
     obtain ⟨j,hj,rfl⟩:=Array.mem_iff_getElem.1 hx.1
     exact decide_eq_true (g6 j _ (Array.getElem?_eq_getElem hj))
    have hnew:(en.filter fun x=>!sb.contains x.born).filter (fun x=>decide (x.born ≥ clock))=#[]:=by
     rw [Array.filter_eq_empty_iff]
     intro x hx
     rw [Array.mem_filter] at hx
     obtain ⟨j,hj,rfl⟩:=Array.mem_iff_getElem.1 hx.1
     have:=g6 j _ (Array.getElem?_eq_getElem hj)
     simp; omega
    have hseen:∀ (j:Nat) (x:MapEntry),en[j]?=some x→(sb.contains x.born=true ↔ j ∈ seen):=by
     intro j x hx
     rw [Array.contains_iff_mem,← Array.mem_toList_iff,g9]
     simp only [List.mem_map,List.mem_reverse]
     constructor
     ·rintro ⟨j',hj',heq⟩
      have hlt:j' < en.size:=by rw [g3]; exact g8 j' hj'
      have hy:en[j']?=some en[j']:=Array.getElem?_eq_getElem hlt
      rw [Array.getD_eq_getD_getElem?,hy] at heq
      have:=born_inj g5 hx hy heq.symm
      rw [this]; exact hj'
     ·intro hj
      exact ⟨j,hj,by rw [Array.getD_eq_getD_getElem?,hx]; rfl⟩
    have r1:=Zkv (P:=P) g1 (by intro c e f hh; cases hh)
    have r2:=run_getObj_map (P:=P) g2
    have hex:execOp a.eval o=(do pure (Next.value (← Instr.next (a.eval io) false o.type))):=by simp only [execOp,hop]
    by_cases hemp:(en.filter fun x=>!sb.contains x.born)=#[]
    ·-- over
     have hall:∀ j,j < es.length→j ∈ seen:=by
      intro j hj
      have hlt:j < en.size:=by rw [g3]; exact hj
      rw [Array.filter_eq_empty_iff] at hemp
      have:=hemp en[j] (Array.getElem_mem hlt)
      simp only [Bool.not_eq_true',Bool.not_eq_false] at this
      exact (hseen j _ (Array.getElem?_eq_getElem hlt)).1 (by simpa using this)
     refine Zaq (x:=.tuple #[.bool false]) (w':=w) ?_ (hover hall) ?_
     ·rw [hex]
      refine Zba ?_
      rw [hX]
      obtain ⟨c,w1,hc1,hc2,hc3⟩:=Zqw (P:=P) (w:=w) 1 (by omega)
      have hc0:c=0:=by omega
      subst hc0
      have hw1:(choose (.mapNext 1)).run P w=.ok 0 w:=by simp [run_choose,Question.forced]
      simp only [Instr.next,Sem.run_bind,r1,Result.andThen_ok,r2,hcond,Bool.false_eq_true,if_false,hleft,hnew,Array.append_empty]
      have hsz:(#[none]:Array (Option MapEntry)).size=1:=rfl
      have hg0:(#[none]:Array (Option MapEntry))[0]?=some none:=rfl
      simp only [hemp,Array.isEmpty_empty,if_true,Array.map_empty,Array.append_empty,hsz,hw1,Result.andThen_ok,hg0,Sem.run_pure]
     ·rw [Za0]
      refine (h.tick.put (d:=o.dst) (v:=.tuple [.bool false]) (x:=.tuple #[.bool false]) hd ⟨#[.bool false],rfl,rfl,fun j v hj=>?_⟩).inv
      match j with
      | 0=>simp at hj; subst hj; exact ⟨.bool false,rfl,(VR.bool false).sr1⟩
      | j + 1=>simp at hj
    ·have hpos:0 < (en.filter fun x=>!sb.contains x.born).size:=by
      rcases Nat.eq_zero_or_pos (en.filter fun x=>!sb.contains x.born).size with h0 | h0
      ·exact absurd (by simpa using h0) hemp
      ·exact h0
     obtain ⟨c,w1,hc1,hc2,hc3⟩:=Zqw (P:=P) (w:=w) (en.filter fun x=>!sb.contains x.born).size hpos
     have hmem:(en.filter fun x=>!sb.contains x.born)[c] ∈ en.filter fun x=>!sb.contains x.born:=Array.getElem_mem hc2
     generalize hx0:(en.filter fun x=>!sb.contains x.born)[c]=x0 at hmem
     rw [Array.mem_filter] at hmem
     obtain ⟨j,hjl,hjx⟩:=Array.mem_iff_getElem.1 hmem.1
     have hjx':en[j]?=some x0:=by rw [Array.getElem?_eq_getElem hjl,hjx]
     have hjn:j ∉ seen:=by
      intro hj
      have:=(hseen j x0 hjx').2 hj
      rw [this] at hmem; simp at hmem
     have hjes:j < es.length:=by rw [← g3]; exact hjl
     obtain ⟨e0,q1,q2,q3⟩:=g4 j es[j].1 es[j].2 (List.getElem?_eq_getElem hjes)
     rw [hjx'] at q1
     simp only [Option.some.injEq] at q1
     subst q1
     have hw1h:w1.heap=w.heap:=by rcases hc3 with rfl | rfl <;> rfl
     have hfw1:FW G N e k β A st a w1:=by
      rcases hc3 with rfl | rfl
      ·exact h
      ·exact h.drew
     obtain ⟨w',s1,s2,s3⟩:=Zd4 (P:=P) (w:=w1) (ob':=.mapIter (some (k.ω id)) clock (sb.push x0.born) clock) (by rw [hw1h]; exact g1) (by intro c e f hh; cases hh)
     refine Zaq (x:=.tuple #[.bool true,x0.key,x0.val]) (w':=w') ?_ (hstep j _ _ (List.getElem?_eq_getElem hjes) hjn) ?_
     ·rw [hex]
      refine Zba ?_
      rw [hX]
      have hne:(en.filter fun x=>!sb.contains x.born).isEmpty=false:=by simpa using hemp
      have hcand:((#[]:Array (Option MapEntry)) ++ (en.filter fun x=>!sb.contains x.born).map some).size=(en.filter fun x=>!sb.contains x.born).size:=by simp
      have hget:((#[]:Array (Option MapEntry)) ++ (en.filter fun x=>!sb.contains x.born).map some)[c]?=some (some x0):=by
       simp only [Array.empty_append,Array.getElem?_map,Array.getElem?_eq_getElem hc2,hx0,Option.map_some]
      simp only [Instr.next,Sem.run_bind,r1,Result.andThen_ok,r2,hcond,Bool.false_eq_true,if_false,hleft,hnew,hne,Array.append_empty,hcand,hc1,hget,s1,Sem.run_pure]
     ·have hne:id ≠ i:=by intro heq; subst heq; have:=H.mapAt_some hg; rw [hobj] at this; simp at this
      have hωne:k.ω id ≠ k.ω i:=fun heq=>hne (h.wr.inj _ _ _ _ (H.mapAt_some hg) hobj heq)
      have h2:=hfw1.setObj (o':=.iter id ver' (j :: seen)) hobj s2 (fun c e hc=>by rw [hw1h,g1] at hc; simp at hc) (fun hkk=>by
       refine ⟨clock,sb.push x0.born,clock,s3,g10,fun es' ver2 en' clock' ho hw=>?_⟩
       simp only [H.set,Zd1 _ _ hne] at ho
       rw [H.mapAt_some hg] at ho
       simp only [Option.some.injEq,O.map.injEq] at ho
       obtain ⟨rfl,rfl⟩:=ho
       rw [s2.other _ hωne,hw1h,g2] at hw
       simp only [Option.some.injEq,Obj.map.injEq] at hw
       obtain ⟨rfl,rfl⟩:=hw
       refine ⟨Nat.le_refl _,fun _=>⟨rfl,rfl,List.nodup_cons.2 ⟨hjn,g7⟩,fun j' hj'=>?_,?_⟩⟩
       ·rcases List.mem_cons.1 hj' with rfl | hj'
        ·exact hjes
        ·exact g8 j' hj'
       ·simp [g9,Array.getD_eq_getD_getElem?,hjx']) (fun id2 ver2 seen2 hne2 hit2 hor=>by
       obtain ⟨since,sb2,stepped,a1,a2,a3⟩:=hor
       refine ⟨since,sb2,stepped,a1,a2,fun es' ver3 en' clock' ho hw=>?_⟩
       simp [H.set,upd] at ho)
      rw [Za0]
      have hkk:Keeps k k w w':=by
       refine Keeps.change (b:=k.ω i) ⟨s2.size.trans (by rw [hw1h]),fun b' hb'=>by rw [s2.other b' hb',hw1h],?_⟩ (h.wr.obj i _ hobj).2.2.1 (fun c e hc=>by rw [g1] at hc; simp at hc)
       rcases hc3 with rfl | rfl <;> exact s2.misc
      refine (h2.tick.put (d:=o.dst) (v:=.tuple [.bool true,es[j].1,es[j].2]) (x:=.tuple #[.bool true,x0.key,x0.val]) hd ⟨#[.bool true,x0.key,x0.val],rfl,rfl,fun j v hj=>?_⟩).inv
      match j with
      | 0=>simp at hj; subst hj; exact ⟨.bool true,rfl,(VR.bool true).sr1⟩
      | 1=>simp at hj; subst hj; exact ⟨x0.key,rfl,(q2.mono hkk).sr1⟩
      | 2=>simp at hj; subst hj; exact ⟨x0.val,rfl,(q3.mono hkk).sr1⟩
      | j + 3=>simp at hj
   ·exact he.elim
  ·exact he.elim
 ·exact he.elim
end
end Go.Ab
namespace Go.Ab
section
variable {G:List (Nat × List V)} {N:Nat × Nat} {e:Entry} {k:Ctx} {β:Nat→Nat} {A:Nat→Prop} {st:S} {a:Act} {w:World} {P:Program} {u:List Nat} {hs:Hints} {o:Oper} {K:Ex→S→Prop}
theorem Zmt {t el:TypeId} (h:Zpp P t=some el):P.underlying t=some (.slice el):=by
 unfold Zpp at h
 split at h
 ·rename_i e' hu; simp only [Option.some.injEq] at h; subst h; exact hu
 ·simp at h
theorem Zrr (h:FW G N e k β A st a w) {y:V} {Y:Value} (hy:SR k w β A st.u y Y) {sz bytes:Nat} {cs:List V}
  (hl:lenV y=some 0) (hf:flat st.h y=some cs) (hlen:cs.length=0 * sz) (h0:0 < sz)
  {t0 t1 ty el:TypeId} {ctypes:Array TypeId} {zv:List V} (c0:ctypes[0]?=some t0) (c1:ctypes[1]?=some t1) (hu:P.underlying t0=some (.slice el)) (hu1:P.underlying t1=some (.slice el))
  (hn:Zbz P el=some sz) (hb:Zgh P el=some bytes) (hz:Zdv P el=some zv) (hzl:zv.length=sz) {base:Option Addr} {len cap:Nat} (hle:len ≤ cap) :
  (Builtin.append_ ctypes ty #[.slice base len cap,Y]).run P w=.ok (.slice base len cap) w:=by
 obtain ⟨yb,yc,rfl,new,hnew,hnrun⟩:=Zfz (P:=P) h hy hl hf hlen h0
 have hnil:new=[]:=by
  have:=hnew.1
  rw [hlen] at this
  simpa using this
 subst hnil
 have happ:=(Zd5 (P:=P) (w:=w) (ty:=ty) (len:=len) (cap:=cap) (base:=base) (old:=[]) (z:=[]) c0 c1 hu hu1 hn hb hz hzl ⟨yb,yc,rfl⟩ hnrun).1 (by omega)
 have hst0:∀ ad:Addr,(storeCells ad []:Sem Unit).run P w=.ok () w:=fun ad=>by simp [storeCells]
 rw [happ]
 cases base <;> simp [hst0]
theorem eff_app (h:FW G N e k β A st a w) (hG:∀ g cells,(g,cells) ∈ hs.glob→(g,cells) ∈ G) {t0 t1 el:TypeId} {xo yo:Operand} {x y:Arg} {ctypes:Array TypeId} {n bytes:Nat} {ag ob:Bool} {z:List V}
  (hop:o.op=.call { callee:=.builtin .append,args:=#[xo,yo],argTypes:=ctypes }) (c0:ctypes[0]?=some t0) (c1:ctypes[1]?=some t1) (hx:Zav hs xo=some x) (hy:Zav hs yo=some y)
  (hu:P.underlying t0=some (.slice el)) (hu1:P.underlying t1=some (.slice el)) (hn:Zbz P el=some n) (hb:Zgh P el=some bytes) (hz:Zdv P el=some z) (hzl:z.length=n) (ho:oneT n ag=true)
  (hd:∀ t,o.dst=some t→InN N t) {call:Zas} (he:eff call st.n st o.dst (.app x y n bytes ag ob) K):Zcn P G N e o a w K:=by
 have hrun0:∀ {R w'},(Builtin.append_ ctypes o.type #[a.eval xo,a.eval yo]).run P w=.ok R w'→(execOp a.eval o).run P w=.ok (.value R) w':=by
  intro R w' hr
  have:execOp a.eval o=(do pure (Next.value (← Builtin.append_ ctypes o.type #[a.eval xo,a.eval yo]))):=by
   simp only [execOp,hop,resolve,invoke,builtin,List.map_toArray,List.map_cons,List.map_nil,pure_bind]
  rw [this]
  exact Zba hr
 simp only [eff] at he
 split at he
 ·rename_i v st' hap
  have hsx:=h.arg hx hG
  have hsy:=h.arg hy hG
  unfold appV at hap
  split at hap
  ·rename_i kk cs hl hf
   split at hap
   ·rename_i hc
    obtain ⟨hlen,h0,hbt⟩:=hc
    split at hap
    ·-- elements
     split at hap
     ·rename_i xs c hxs
      rw [hxs] at hsx
      split at hap
      ·rename_i hc2
       obtain ⟨hmo,hall⟩:=hc2
       have hmo':xs.length + kk ≤ 4294967296:=hmo
       split at hap
       ·rename_i hk0
        subst hk0
        simp only [Option.some.injEq,Prod.mk.injEq] at hap
        obtain ⟨rfl,rfl⟩:=hap
        obtain ⟨yb,yc,rfl',new,hnew,hnrun⟩:=Zfz (P:=P) h hsy hl hf hlen h0
        have hvx:=hsx.vec
        obtain ⟨base,cap,hX,hcle,hfull,old,hold,hocell,honil⟩:=Ziv hvx hall
        have happ:=(Zd5 (P:=P) (w:=w) (ty:=o.type) (len:=xs.length) (cap:=cap) (base:=base) (old:=old) (z:=[]) c0 c1 hu hu1 hn hb hz hzl ⟨yb,yc,rfl'⟩ hnrun).1 (by omega)
        have hnil:new=[]:=by
         have:=hnew.1
         rw [hlen] at this
         simpa using this
        subst hnil
        have hst0:∀ ad:Addr,(storeCells ad []:Sem Unit).run P w=.ok () w:=fun ad=>by simp [storeCells]
        refine Zaq (x:=.slice base xs.length cap) (w':=w) (hrun0 ?_) he ?_
        ·rw [hX,happ]
         cases base <;> simp [hst0]
        ·rw [Za0]
         rw [hxs]
         refine (h.tick.put hd ?_).inv
         rw [← hX]; exact hsx
       ·rename_i hk0
        split at hap
        ·simp only [Option.some.injEq,Prod.mk.injEq] at hap
         obtain ⟨rfl,rfl⟩:=hap
         obtain ⟨w',R,r1,r2⟩:=Zxl (P:=P) (o:=o) (ty:=o.type) h hsx hsy hl hf hlen h0 ho hbt hmo' hall hk0 c0 c1 hu hu1 hn hb hz hzl hd (.inl rfl)
         exact Zaq (hrun0 r1) he r2
        ·rename_i s'
         split at hap
         ·simp at hap
         ·rename_i hsu
          simp only [Option.some.injEq,Prod.mk.injEq] at hap
          obtain ⟨rfl,rfl⟩:=hap
          obtain ⟨w',R,r1,r2⟩:=Zxl (P:=P) (o:=o) (ty:=o.type) h hsx hsy hl hf hlen h0 ho hbt hmo' hall hk0 c0 c1 hu hu1 hn hb hz hzl hd (.inr ⟨s',rfl,hsu⟩)
          exact Zaq (hrun0 r1) he r2
        ·simp at hap
      ·simp at hap
     ·simp at hap
    ·-- an object
     split at hap
     ·rename_i hxs
      rw [hxs] at hsx
      split at hap
      ·rename_i hc2
       simp only [Option.some.injEq,Prod.mk.injEq] at hap
       obtain ⟨rfl,rfl⟩:=hap
       have hm:kk ≤ 4294967296:=hc2.1
       obtain ⟨w',R,r1,r2⟩:=Zp7 (P:=P) (o:=o) (ty:=o.type) (len:=0) (oldv:=[]) h hsx hsy hl hf hlen h0 hbt (by omega) hc2.2 c0 c1 hu hu1 hn hb hz hzl hd (.inl ⟨rfl,rfl,rfl,rfl⟩)
       rw [Nat.zero_add] at r2
       exact Zaq (hrun0 r1) he r2
      ·split at hap
       ·rename_i hk0
        subst hk0
        simp only [Option.some.injEq,Prod.mk.injEq] at hap
        obtain ⟨rfl,rfl⟩:=hap
        obtain ⟨base,hX⟩:∃ base,a.eval xo=.slice base 0 0:=by
         have hx':VR k w (.vec [] .full) (a.eval xo):=hsx
         generalize a.eval xo=X at hx'
         cases hx' with
         | vecNil _ _=>exact ⟨none,rfl⟩
         | vec _ _ ad len cap sz' val hc hle hcap hff hs hcell hval =>
          have:=hff rfl
          subst this
          simp at hle; subst hle
          exact ⟨some ad,rfl⟩
        have r1:=Zrr (P:=P) (ty:=o.type) h hsy hl hf hlen h0 c0 c1 hu hu1 hn hb hz hzl (base:=base) (len:=0) (cap:=0) (Nat.le_refl _)
        refine Zaq (x:=.slice base 0 0) (w':=w) (hrun0 (by rw [hX]; exact r1)) he ?_
        rw [Za0]
        refine (h.tick.put hd ?_).inv
        rw [← hX]; exact hsx
       ·simp at hap
     ·rename_i id len zz hxs
      rw [hxs] at hsx
      split at hap
      ·rename_i old hg
       split at hap
       ·rename_i hc2
        obtain ⟨g1,g2,g3,g4⟩:=hc2
        subst g2
        simp only [Option.some.injEq,Prod.mk.injEq] at hap
        obtain ⟨rfl,rfl⟩:=hap
        have hm:len + kk ≤ 4294967296:=g3
        obtain ⟨w',R,r1,r2⟩:=Zp7 (P:=P) (o:=o) (ty:=o.type) (len:=len) (oldv:=old) h hsx hsy hl hf hlen h0 hbt hm g4 c0 c1 hu hu1 hn hb hz hzl hd (.inr ⟨id,rfl,hg,g1,rfl⟩)
        exact Zaq (hrun0 r1) he r2
       ·split at hap
        ·rename_i hk0
         subst hk0
         simp only [Option.some.injEq,Prod.mk.injEq] at hap
         obtain ⟨rfl,rfl⟩:=hap
         obtain ⟨base,cap,hX,hle⟩:∃ base cap,a.eval xo=.slice base len cap∧len ≤ cap:=by
          have hx':VR k w (.ref id 0 len zz) (a.eval xo):=hsx
          generalize a.eval xo=X at hx'
          cases hx' with
          | ref _ _ _ _ cap b hbb hid hlc hcap=>exact ⟨_,cap,rfl,hlc⟩
         have r1:=Zrr (P:=P) (ty:=o.type) h hsy hl hf hlen h0 c0 c1 hu hu1 hn hb hz hzl (base:=base) (len:=len) (cap:=cap) hle
         refine Zaq (x:=.slice base len cap) (w':=w) (hrun0 (by rw [hX]; exact r1)) he ?_
         rw [Za0]
         refine (h.tick.put hd ?_).inv
         rw [← hX]; exact hsx
        ·simp at hap
      ·simp at hap
     ·rename_i s' hxs
      rw [hxs] at hsx
      split at hap
      ·simp at hap
      ·rename_i hsu
       split at hap
       ·rename_i hc2
        simp only [Option.some.injEq,Prod.mk.injEq] at hap
        obtain ⟨rfl,rfl⟩:=hap
        have hm:kk ≤ 4294967296:=hc2.1
        have hsx':SR k w β A st.u (.vec [] .full) (a.eval xo):=((show SR1 k w β A st.u (.vec [] (.own s')) (a.eval xo) from hsx).2 hsu).resolve_left (fun hq=>by obtain ⟨_,_,_,_,_,_,_,_,hne,_⟩:=hq; exact hne rfl)
        obtain ⟨w',R,r1,r2⟩:=Zp7 (P:=P) (o:=o) (ty:=o.type) (len:=0) (oldv:=[]) h hsx' hsy hl hf hlen h0 hbt (by omega) hc2.2 c0 c1 hu hu1 hn hb hz hzl hd (.inl ⟨rfl,rfl,rfl,rfl⟩)
        rw [Nat.zero_add] at r2
        exact Zaq (hrun0 r1) he r2
       ·simp at hap
     ·simp at hap
   ·simp at hap
  ·simp at hap
 ·exact he.elim
theorem Zrg (h:FW G N e k β A st a w) (hG:∀ g cells,(g,cells) ∈ hs.glob→(g,cells) ∈ G) {op:BinOp} {t yt:TypeId} {x y:Operand} {x':Arg} {neg:Bool} (hop:o.op=.binOp op t x y yt) (hx:Zav hs x=some x')
  (hsl:Zml P t=true) (hnil:Zv6 y=true) (hneg:(op=.eql∧neg=false)∨(op=.neq∧neg=true)) (hd:∀ t,o.dst=some t→InN N t) {call:Zas} (he:eff call st.n st o.dst (.nilS x' neg) K):Zcn P G N e o a w K:=by
 have hu:∃ el,P.underlying t=some (.slice el):=by
  unfold Zml at hsl
  split at hsl
  ·rename_i el hu; exact ⟨el,hu⟩
  ·simp at hsl
 obtain ⟨el,hu⟩:=hu
 have hy:a.eval y=.slice none 0 0:=by
  unfold Zv6 at hnil
  split at hnil
  ·rfl
  ·simp at hnil
 have hrun:∀ (b:Option Addr) (l c:Nat),a.eval x=.slice b l c→(execOp a.eval o).run P w=.ok (.value (.bool (if b.isNone then !neg else neg))) w:=by
  intro b l c hb
  have e1:(underlying t).run P w=.ok (.slice el) w:=Zaa hu
  have:execOp a.eval o=(do pure (Next.value (← (do eqGuard op t x y (a.eval x) (a.eval y); Go.binOp op t (a.eval x) (a.eval y):Sem Value)))):=by simp only [execOp,hop]
  rw [this]
  refine Zba ?_
  rw [hb,hy]
  have e2:(Op.equalIn (9999 + 1) t (.slice b l c) (.slice none 0 0)).run P w=.ok b.isNone w:=by
   rw [Op.equalIn]
   simp only [Sem.run_bind,e1,Result.andThen_ok]
   cases b <;> rfl
  have hg:(eqGuard op t x y (.slice b l c) (.slice none 0 0)).run P w=.ok () w:=by
   rcases hneg with ⟨rfl,_⟩ | ⟨rfl,_⟩ <;> simp [eqGuard]
  rw [Sem.run_bind,hg]
  simp only [Result.andThen_ok]
  rcases hneg with ⟨rfl,rfl⟩ | ⟨rfl,rfl⟩
  ·simp only [Go.binOp,Op.equal,Op.maxDepth,Sem.run_bind,Sem.run_map,Sem.run_pure,e2,Result.andThen_ok]
   cases b <;> rfl
  ·simp only [Go.binOp,Op.equal,Op.maxDepth,Sem.run_bind,Sem.run_map,Sem.run_pure,e2,Result.andThen_ok]
   cases b <;> rfl
 have hput:∀ b:Bool,Inv G N e (st.put o.dst (.bool b)).tick (a.put o.dst (.bool b)) w:=fun b=>by
  rw [Za0]
  exact (h.tick.put hd (VR.sr (.bool b))).inv
 have hsx:=h.arg hx hG
 simp only [eff] at he
 split at he
 ·rename_i xs c hxs
  rw [hxs] at hsx
  generalize hX:a.eval x=X at hsx hrun
  cases hsx.vec with
  | vecNil _ _=>exact Zaq (hrun _ _ _ rfl) (he.1 rfl) (by simpa using hput _)
  | vec _ _ ad _ cap sz val _ _ _ _ _ _ _=>exact Zaq (hrun _ _ _ rfl) he.2 (by simpa using hput _)
 ·rename_i id off len sz hxs
  rw [hxs] at hsx
  generalize hX:a.eval x=X at hsx hrun
  cases (show VR k w _ _ from hsx) with
  | ref _ _ _ _ cap b hb hid hl hc=>exact Zaq (hrun _ _ _ rfl) he (by simpa using hput _)
 ·exact he.elim
theorem Zwr (h:FW G N e k β A st a w) (hG:∀ g cells,(g,cells) ∈ hs.glob→(g,cells) ∈ G) {t:TypeId} {xo yo:Operand} {x y:Arg} {n:Nat} (hop:o.op=.store t xo yo) (hx:Zav hs xo=some x) (hy:Zav hs yo=some y)
  (hn:Zbz P t=some n) (hd:∀ t,o.dst=some t→InN N t) {call:Zas} (he:eff call st.n st o.dst (.store x y n) K):Zcn P G N e o a w K:=by
 simp only [eff] at he
 split at he
 ·rename_i st' hs'
  obtain ⟨w',r1,r2⟩:=Znd (P:=P) h (h.arg hx hG) (h.arg hy hG) hn hs'
  refine Zmu (w':=w') ?_ he ?_
  ·simp only [execOp,hop,Sem.run_bind,r1,Result.andThen_ok,Sem.run_pure]
  ·rw [Za0]; exact (r2.tick.putU hd).inv
 ·exact he.elim
theorem two_of {l:Array Operand} {x y:Arg} (h:Zbs hs l.toList=some [x,y]):∃ p q,l=#[p,q]∧Zav hs p=some x∧Zav hs q=some y:=by
 obtain ⟨p,q,h1,h2,h3⟩:=Zkq h
 have:l=l.toList.toArray:=by simp
 rw [h1] at this
 exact ⟨p,q,this,h2,h3⟩
theorem Zws (h:FW G N e k β A st a w) (hG:∀ g cells,(g,cells) ∈ hs.glob→(g,cells) ∈ G) {call:Zas} (hc:Zby P G call) {kk:Go.Ab.K} (ht:trK P hs o=some kk) (hnr:isRd kk=false) (hd:∀ t,o.dst=some t→InN N t)
  (he:eff call st.n st o.dst kk K):Zcn P G N e o a w K:=by
 unfold trK at ht
 split at ht
 case h_4 t hop =>
  obtain ⟨z,hz,ht⟩:=Zaf ht
  repeat' split at ht
  all_goals (simp only [Option.some.injEq] at ht; subst ht)
  ·exact Zh7 h hop hz hd he
  ·simp [isRd] at hnr
  ·exact Zh7 h hop hz hd he
  ·simp [isRd] at hnr
  ·exact Zh7 h hop hz hd he
 case h_5 t x hop =>
  obtain ⟨x',hx,ht⟩:=Zaf ht
  simp only [Option.some.injEq] at ht; subst ht
  exact eff_box h hG hop hx hd he
 case h_7 t len parts hop =>
  obtain ⟨el,hel,ht⟩:=Zaf ht
  obtain ⟨n,hn,ht⟩:=Zaf ht
  obtain ⟨z,hz,ht⟩:=Zaf ht
  obtain ⟨ps,hps,ht⟩:=Zaf ht
  obtain ⟨ag,hag,ht⟩:=Zaf ht
  split at ht
  ·rename_i hcc
   obtain ⟨h1,h2,h3,h4⟩:=hcc
   split at ht
   ·simp only [Option.some.injEq] at ht; subst ht
    exact eff_bslO h hG hop (Zmt hel) hn hz hps h1 h2 h3 hd he
   ·simp only [Option.some.injEq] at ht; subst ht; simp [isRd] at hnr
  ·simp at ht
 case h_9 t x y hop =>
  obtain ⟨_,_,ht⟩:=Zaf ht
  obtain ⟨x',hx,ht⟩:=Zaf ht
  obtain ⟨y',hy,ht⟩:=Zaf ht
  obtain ⟨n,hn,ht⟩:=Zaf ht
  simp only [Option.some.injEq] at ht; subst ht
  exact Zwr h hG hop hx hy hn hd he
 case h_16 t hop =>
  simp only [Option.some.injEq] at ht; subst ht
  exact eff_mkM h hop hd he
 case h_17 t l c hop =>
  obtain ⟨el,hel,ht⟩:=Zaf ht
  obtain ⟨n,hn,ht⟩:=Zaf ht
  obtain ⟨z,hz,ht⟩:=Zaf ht
  obtain ⟨ag,hag,ht⟩:=Zaf ht
  split at ht
  ·rename_i hcc
   obtain ⟨h1,h2,h3⟩:=hcc
   obtain ⟨l',hl,ht⟩:=Zaf ht
   obtain ⟨c',hcc,ht⟩:=Zaf ht
   obtain ⟨bt,hb,ht⟩:=Zaf ht
   simp only [Option.some.injEq] at ht; subst ht
   exact eff_mks h hG hop hl hcc (Zmt hel) hn hb (ZT.wz hz) h1 (weakZ_len.trans h2) h3 hd he
  ·simp at ht
 case h_24 t m i x hop =>
  split at ht
  ·rename_i kt el hu
   obtain ⟨q,hq,ht⟩:=Zaf ht
   obtain ⟨m',hm,ht⟩:=Zaf ht
   obtain ⟨i',hi,ht⟩:=Zaf ht
   obtain ⟨x',hx,ht⟩:=Zaf ht
   simp only [Option.some.injEq] at ht; subst ht
   exact Zwt h hG (.inl hop) hm hi hx hu hq hd he
  ·simp at ht
 case h_25 t m i x hop =>
  split at ht
  ·rename_i kt el hu
   obtain ⟨q,hq,ht⟩:=Zaf ht
   obtain ⟨m',hm,ht⟩:=Zaf ht
   obtain ⟨i',hi,ht⟩:=Zaf ht
   obtain ⟨x',hx,ht⟩:=Zaf ht
   simp only [Option.some.injEq] at ht; subst ht
   exact Zwt h hG (.inr hop) hm hi hx hu hq hd he
  ·simp at ht
 case h_26 t x hop =>
  split at ht
  ·rename_i kt el hu
   obtain ⟨x',hx,ht⟩:=Zaf ht
   simp only [Option.some.injEq] at ht; subst ht
   exact eff_rng h hG hop hx hu hd he
  ·simp at ht
 case h_27 x hop =>
  obtain ⟨x',hx,ht⟩:=Zaf ht
  simp only [Option.some.injEq] at ht; subst ht
  exact eff_nxt h hG hop hx hd he
 case h_28 x hop =>
  obtain ⟨x',hx,ht⟩:=Zaf ht
  simp only [Option.some.injEq] at ht; subst ht
  exact eff_ent h hG hop hx hd he
 case h_32 x hop =>
  obtain ⟨x',hx,ht⟩:=Zaf ht
  simp only [Option.some.injEq] at ht; subst ht
  exact eff_pan h hG hop hx he
 case h_11 op t x y yt hop =>
  split at ht
  ·rename_i hsl
   split at ht
   ·rename_i hnil
    split at ht
    ·simp only [Option.map_eq_some_iff] at ht
     obtain ⟨x',hx,rfl⟩:=ht
     exact Zrg h hG hop hx hsl hnil (.inl ⟨rfl,rfl⟩) hd he
    ·simp only [Option.map_eq_some_iff] at ht
     obtain ⟨x',hx,rfl⟩:=ht
     exact Zrg h hG hop hx hsl hnil (.inr ⟨rfl,rfl⟩) hd he
    ·simp at ht
   ·simp at ht
  ·obtain ⟨ek,hek,ht⟩:=Zaf ht
   split at ht
   ·simp at ht
   ·obtain ⟨x',hx,ht⟩:=Zaf ht
    obtain ⟨y',hy,ht⟩:=Zaf ht
    simp only [Option.some.injEq] at ht; subst ht; simp [isRd] at hnr
 case h_31 c hop =>
  unfold Zkp at ht
  obtain ⟨args,hargs,ht⟩:=Zaf ht
  obtain ⟨callee,cargs,ctypes⟩:=c
  simp only at ht hargs
  split at ht
  ·obtain ⟨fn,hfn,ht⟩:=Zaf ht
   split at ht
   ·simp only [Option.some.injEq] at ht; subst ht
    exact eff_call h hG hc hop hargs hd he
   ·split at ht
    ·split at ht
     ·simp only [Option.some.injEq] at ht; subst ht; simp [isRd] at hnr
     ·simp at ht
    ·simp at ht
  ·obtain ⟨x',hx,ht⟩:=Zaf ht
   simp only [Option.some.injEq] at ht; subst ht
   exact Zwu h hG hc hop hx hargs hd he
  ·simp at ht
  ·split at ht
   ·obtain ⟨t0,ht0,ht⟩:=Zaf ht
    split at ht <;> simp only [Option.some.injEq,reduceCtorEq] at ht <;> subst ht <;> simp [isRd] at hnr
   ·simp only [Option.some.injEq] at ht; subst ht; simp [isRd] at hnr
   ·simp only [Option.some.injEq] at ht; subst ht; simp [isRd] at hnr
   ·obtain ⟨t0,ht0,ht⟩:=Zaf ht
    obtain ⟨t1,ht1,ht⟩:=Zaf ht
    obtain ⟨el,hel,ht⟩:=Zaf ht
    obtain ⟨n,hn,ht⟩:=Zaf ht
    obtain ⟨ag,hag,ht⟩:=Zaf ht
    obtain ⟨z,hz,ht⟩:=Zaf ht
    obtain ⟨e',he',ht⟩:=Zaf ht
    split at ht
    ·rename_i hcc
     obtain ⟨h1,h2,h3⟩:=hcc
     obtain ⟨bt,hbt,ht⟩:=Zaf ht
     simp only [Option.some.injEq] at ht; subst ht
     obtain ⟨p,q,rfl,hp,hq⟩:=two_of hargs
     subst h3
     exact eff_app h hG hop ht0 ht1 hp hq (Zmt hel) (Zmt he') hn hbt hz h2 h1 hd he
    ·simp at ht
   ·obtain ⟨t0,ht0,ht⟩:=Zaf ht
    split at ht
    ·rename_i kt el hu
     obtain ⟨q,hq,ht⟩:=Zaf ht
     simp only [Option.some.injEq] at ht; subst ht
     obtain ⟨p,r,rfl,hp,hr⟩:=two_of hargs
     exact eff_mdel h hG hop ht0 hp hr hu hq hd he
    ·simp at ht
   ·simp at ht
 all_goals (exfalso)
 all_goals (repeat (first | (simp at ht; done) | (obtain ⟨_,_,ht⟩:=Zaf ht)))
 all_goals (try (repeat' split at ht))
 all_goals (repeat (first | (simp at ht; done) | (obtain ⟨_,_,ht⟩:=Zaf ht)))
 all_goals (try (repeat' split at ht))
 all_goals (repeat (first | (simp at ht; done) | (obtain ⟨_,_,ht⟩:=Zaf ht)))
 all_goals (simp only [Option.some.injEq] at ht; subst ht; simp [isRd] at hnr)
theorem Znp (h:FW G N e k β A st a w) (hG:∀ g cells,(g,cells) ∈ hs.glob→(g,cells) ∈ G) {call:Zas} (hc:Zby P G call) {io:IOp} (ht:trK P hs o=some io.k) (hdst:io.dst=o.dst) (hd:∀ t,o.dst=some t→InN N t)
  (he:op1 call st.n io st K):Zcn P G N e o a w K:=by
 unfold op1 at he
 rw [hdst] at he
 split at he
 ·-- bare
  rename_i size hk
  rw [hk] at ht
  unfold trK at ht
  split at ht
  case h_4 t hop =>
   obtain ⟨z,hz,ht⟩:=Zaf ht
   repeat' split at ht
   all_goals first
    | (simp at ht; done)
    | (injection ht with ht; injection ht with ht; subst ht; exact eff_bare h hop hz hd he)
  case h_31 c hop =>
   unfold Zkp at ht
   obtain ⟨args,hargs,ht⟩:=Zaf ht
   obtain ⟨callee,cargs,ctypes⟩:=c
   simp only at ht hargs
   repeat' split at ht
   all_goals (try (simp at ht; done))
   all_goals (try (obtain ⟨_,_,ht⟩:=Zaf ht))
   all_goals (try (repeat' split at ht))
   all_goals (try (simp at ht; done))
   all_goals (repeat (first | (simp at ht; done) | (obtain ⟨_,_,ht⟩:=Zaf ht)))
   all_goals (try (repeat' split at ht))
   all_goals (try (simp at ht; done))
   all_goals (repeat (first | (simp at ht; done) | (obtain ⟨_,_,ht⟩:=Zaf ht)))
  all_goals (repeat (first | (simp at ht; done) | (obtain ⟨_,_,ht⟩:=Zaf ht)))
  all_goals (try (repeat' split at ht))
  all_goals (repeat (first | (simp at ht; done) | (obtain ⟨_,_,ht⟩:=Zaf ht)))
  all_goals (try (repeat' split at ht))
  all_goals (repeat (first | (simp at ht; done) | (obtain ⟨_,_,ht⟩:=Zaf ht)))
 ·rename_i kk hnb
  split at he
  ·-- a reading
   split at he
   ·rename_i v hv
    obtain ⟨x,w',k',r1,r2,r3⟩:=Zqz h hG ht hv
    refine Zaq r1 he ?_
    rw [Za0]
    exact (r2.tick.put hd r3).inv
   ·exact he.elim
  ·rename_i hnr
   exact Zws h hG hc ht (by simpa using hnr) hd he
end
end Go.Ab
namespace Go.Ab
section
variable {G:List (Nat × List V)} {N:Nat × Nat} {e:Entry} {k:Ctx} {β:Nat→Nat} {A:Nat→Prop} {st:S} {a:Act} {w:World} {P:Program} {u:List Nat} {hs:Hints} {o:Oper} {K:Ex→S→Prop}
structure Both (P:Program) (hs:Hints) (N:Nat × Nat) (all:Array Oper) (o:Oper) (io:IOp):Prop where
 k:trK P hs o=some io.k
 dst:io.dst=o.dst
 lt:∀ t,o.dst=some t→InN N t
 guard:match o.guard with
  | none=>io.guard=none
  | some (j,want)=>∃ oj g,all[j]?=some oj∧oj.dst=some g∧io.guard=some (g,want)
theorem Zm9 {all:Array Oper} {io:IOp} (ht:trOp P hs all o=some io) (hd:∀ t,o.dst=some t→InN N t):Both P hs N all o io:=by
 unfold trOp at ht
 obtain ⟨kk,hk,ht⟩:=Zaf ht
 split at ht
 ·rename_i hg
  simp only [Option.some.injEq] at ht; subst ht
  exact ⟨hk,rfl,hd,by rw [hg]⟩
 ·rename_i j want hg
  obtain ⟨oj,hoj,ht⟩:=Zaf ht
  obtain ⟨g,hgd,ht⟩:=Zaf ht
  simp only [Option.some.injEq] at ht; subst ht
  exact ⟨hk,rfl,hd,by rw [hg]; exact ⟨oj,g,hoj,hgd,rfl⟩⟩
theorem Zwa {xs:Array Value} {t:Nat} {b:Bool} (h:xs.getD t undef=.bool b):xs[t]?=some (.bool b):=by
 rw [Array.getD_eq_getD_getElem?] at h
 cases hx:xs[t]? with
 | none=>rw [hx] at h; simp [undef] at h
 | some x=>rw [hx] at h; simpa using h
theorem sr_skip {x:Value} {u:List Nat} (h:SR k w β A u (.tuple []) x):x=.tuple #[]:=by
 obtain ⟨xs,h1,h2,_⟩:=h
 rw [h1]
 congr 1
 exact Array.eq_empty_of_size_eq_zero h2
theorem FW.putS (h:FW G N e k β A st a w) (hd:∀ t,o.dst=some t→InN N t):FW G N e k β A (st.put o.dst (.tuple [])) (a.put o.dst undef) w:=
 h.put hd ⟨#[],rfl,rfl,by simp⟩
theorem Zc9 (h:FW G N e k β A st a w) {all:Array Oper} {io:IOp} (hb:Both P hs N all o io) {b:Bool} (hw:Zb9 st io=some b):Region.wanted o (yielded all a.tmps)=b:=by
 have hg:=hb.guard
 unfold Zb9 at hw
 unfold Region.wanted
 cases ho:o.guard with
 | none =>
  rw [ho] at hg
  simp only at hg
  rw [hg] at hw
  simpa using hw
 | some jw =>
  obtain ⟨j,want⟩:=jw
  rw [ho] at hg
  obtain ⟨oj,g,h1,h2,h3⟩:=hg
  rw [h3] at hw
  simp only at hw ⊢
  unfold Zir at hw
  split at hw
  ·rename_i b' hb'
   simp only [Option.some.injEq] at hw
   have hs:=h.slot g
   rw [hb'] at hs
   have hv:=Zje hs
   have hy:yielded all a.tmps j=some b':=by
    simp only [yielded,h1,Option.bind_some,h2,Zwa hv]
   rw [hy,← hw]
   simp
  ·rename_i hb'
   have hs:=h.slot g
   rw [hb'] at hs
   have hv:=sr_skip hs
   have hy:yielded all a.tmps j=none:=by
    simp only [yielded,h1,Option.bind_some,h2]
    rw [Array.getD_eq_getD_getElem?] at hv
    cases hx:a.tmps[g]? with
    | none=>rfl
    | some x=>rw [hx] at hv; simp at hv; rw [hv]
   simp only [Option.some.injEq] at hw
   rw [hy,← hw]
   simp
  ·cases hw
theorem Oper.wp_monoQ {K K':Act→World→Prop} {Q Q':Exit→Act→World→Prop} (h:∀ a w,K a w→K' a w) (hp:∀ c a w,Q (.panic c) a w→Q' (.panic c) a w) (ho:∀ a w,Q .outgrown a w→Q' .outgrown a w)
  (hh:o.wp P a w K Q):o.wp P a w K' Q':=by
 unfold Oper.wp at *
 generalize (execOp a.eval o).run P w=r at *
 cases r with
 | ok n w' =>
  cases n <;> simp only [Oper.upon] at hh ⊢ <;>
   first
    | exact h _ _ hh
    | (refine Calls.mono hh (fun en w'' he=>?_)
       cases en <;> first | exact h _ _ he | exact hp _ _ _ he | (obtain ⟨a0,w0,h0⟩:=he; exact ⟨a0,w0,ho _ _ h0⟩))
    | exact Rows.mono hh (fun _ _ he=>h _ _ he)
 | halt x w'=>cases x <;> simp only [Oper.upon] at hh ⊢ <;> first | exact hp _ _ _ hh | exact hh
theorem op_step (h:FW G N e k β A st a w) (hG:∀ g cells,(g,cells) ∈ hs.glob→(g,cells) ∈ G) {call:Zas} (hc:Zby P G call) {all:Array Oper} {io:IOp} {i:Nat} (hi:all[i]?=some o) (hb:Both P hs N all o io) {nx:S→Prop}
  {next:Act→World→Prop} (hnext:∀ st' a' w',nx st'→Inv G N e st' a' w'→next a' w')
  (he:match Zb9 st io with
   | some true=>op1 call st.n io st (Ex.then (fun st'=>nx st'.tick) K)
   | some false=>nx (st.put io.dst (.tuple [])).tick
   | none=>False):wpOp P all (QK G N e K) i next a w:=by
 unfold wpOp
 rw [hi]
 simp only
 split at he
 ·rename_i hw
  rw [Zc9 h hb hw]
  simp only [if_true]
  refine .inl ?_
  have:=Znp h hG hc hb.k hb.dst hb.lt he
  unfold Zcn at this
  refine Oper.wp_monoQ ?_ ?_ ?_ this
  ·rintro a' w' ⟨st',h1,h2⟩
   exact hnext _ _ _ h1 h2
  ·rintro c a w ⟨v,h',h1,h2,h3⟩
   exact ⟨v,h',h1,h2,h3⟩
  ·exact fun a w hq=>hq.elim
 ·rename_i hw
  rw [Zc9 h hb hw]
  simp only [Bool.false_eq_true,if_false]
  refine hnext _ _ _ he ?_
  rw [Za0,hb.dst]
  exact (h.tick.putS hb.lt).inv
 ·exact he.elim
theorem Znn (hG:∀ g cells,(g,cells) ∈ hs.glob→(g,cells) ∈ G) {call:Zas} (hc:Zby P G call) {all:Array Oper} (hall:Zhm N all=true) :
  ∀ (l:List Oper) (ios:List IOp) (i:Nat) (st:S) (a:Act) (w:World),(∀ (j:Nat),l[j]?=all[i + j]?)→Zue P hs all l=some ios→ops call ios st K→Inv G N e st a w →
   wpOps P all (QK G N e K) (List.range' i l.length) a w
 | [],ios,i,st,a,w,_,ht,he,hinv=>by
  simp [Zue] at ht; subst ht
  exact ⟨st,he,hinv⟩
 | o :: l,ios,i,st,a,w,hl,ht,he,hinv=>by
  simp only [Zue] at ht
  split at ht
  ·rename_i io ios' h1 h2
   simp only [Option.some.injEq] at ht; subst ht
   have hi:all[i]?=some o:=by simpa using (hl 0).symm
   have hdl:∀ t,o.dst=some t→InN N t:=by
    intro t ht
    have hm:o ∈ all:=Array.mem_of_getElem? hi
    have:=(Array.all_eq_true' ).1 hall o hm
    rw [ht] at this
    simpa using this
   obtain ⟨k,β,A,hf⟩:=hinv
   simp only [List.length_cons,List.range'_succ,wpOps_cons]
   refine op_step hf hG hc hi (Zm9 h1 hdl) (nx:=fun st'=>ops call ios' st' K) (fun st' a' w' hk hinv'=>?_) ?_
   ·exact Znn hG hc hall l ios' (i + 1) st' a' w' (fun j=>by have:=hl (j + 1); simpa [Nat.add_assoc,Nat.add_comm 1 j] using this) h2 hk hinv'
   ·simp only [ops] at he
    exact he
  ·simp at ht
end
end Go.Ab
namespace Go.Ab
section
variable {G:List (Nat × List V)} {N:Nat × Nat} {e:Entry} {k:Ctx} {β:Nat→Nat} {A:Nat→Prop} {st:S} {a:Act} {w:World} {P:Program} {u:List Nat} {hs:Hints} {o:Oper} {K:Ex→S→Prop}
def βof (β:Nat→Nat) (mp:List (Option Nat × Nat)) (i:Nat):Nat:=β (((mp.map (·.1)).getD i none).getD 0)
def Aof (A:Nat→Prop) (mp:List (Option Nat × Nat)) (i:Nat):Prop:=∃ s,(mp.map (·.1))[i]?=some (some s)∧A s
structure MpOK (mp:List (Option Nat × Nat)):Prop where
 snd:∀ (i:Nat) (p:Option Nat × Nat),mp[i]?=some p→p.2=i
 nodup:∀ (i j s:Nat),(mp.map (·.1))[i]?=some (some s)→(mp.map (·.1))[j]?=some (some s)→i=j
theorem Zhf {mp:List (Option Nat × Nat)} {o:Option Nat} {t i s:Nat} (h:((mp ++ [(o,t)]).map (·.1))[i]?=some (some s)):(mp.map (·.1))[i]?=some (some s)∨(i=mp.length∧o=some s):=by
 rw [List.map_append,List.getElem?_append] at h
 split at h
 ·exact .inl h
 ·rename_i hlt
  rw [List.length_map] at h hlt
  have:i=mp.length:=by
   rcases Nat.lt_or_ge i (mp.length + 1) with h' | h'
   ·omega
   ·rw [List.getElem?_eq_none (by simp; omega)] at h; simp at h
  subst this
  simp at h
  exact .inr ⟨rfl,h⟩
theorem Zqs {mp:List (Option Nat × Nat)} (h:MpOK mp) {o:Option Nat} (i:Nat) (p:Option Nat × Nat) (hp:(mp ++ [(o,mp.length)])[i]?=some p):p.2=i:=by
 rw [List.getElem?_append] at hp
 split at hp
 ·exact h.snd i p hp
 ·rename_i hlt
  have:i=mp.length:=by
   rcases Nat.lt_or_ge i (mp.length + 1) with h' | h'
   ·omega
   ·rw [List.getElem?_eq_none (by simp; omega)] at hp; simp at hp
  subst this
  simp at hp
  rw [← hp]
theorem MpOK.push0 {mp:List (Option Nat × Nat)} (h:MpOK mp):MpOK (mp ++ [(none,mp.length)]):=by
 refine ⟨Zqs h,fun i j s hi hj=>?_⟩
 rcases Zhf hi with hi | ⟨_,hi⟩
 ·rcases Zhf hj with hj | ⟨_,hj⟩
  ·exact h.nodup i j s hi hj
  ·cases hj
 ·cases hi
theorem Zu0 {mp:List (Option Nat × Nat)} {s i:Nat} (hs:Ze0 mp s=none) (hi:(mp.map (·.1))[i]?=some (some s)):False:=by
 simp only [Ze0,Option.map_eq_none_iff,List.find?_eq_none] at hs
 rw [List.getElem?_map,Option.map_eq_some_iff] at hi
 obtain ⟨p,hp,he⟩:=hi
 have:=hs p (List.mem_of_getElem? hp)
 simp [he] at this
theorem MpOK.push {mp:List (Option Nat × Nat)} (h:MpOK mp) {s:Nat} (hs:Ze0 mp s=none):MpOK (mp ++ [(some s,mp.length)]):=by
 refine ⟨Zqs h,fun i j s' hi hj=>?_⟩
 ·rcases Zhf hi with hi | ⟨hi0,hi⟩
  ·rcases Zhf hj with hj | ⟨hj0,hj⟩
   ·exact h.nodup i j s' hi hj
   ·cases hj; exact (Zu0 hs hi).elim
  ·rcases Zhf hj with hj | ⟨hj0,hj⟩
   ·cases hi; exact (Zu0 hs hj).elim
   ·omega
theorem Zgj {mp:List (Option Nat × Nat)} {i s:Nat} (hi:(mp.map (·.1))[i]?=some (some s)):βof β mp i=β s:=by
 simp only [βof,List.getD_eq_getElem?_getD,hi,Option.getD_some]
theorem MpOK.seek {mp:List (Option Nat × Nat)} (h:MpOK mp) {s t:Nat} (hs:Ze0 mp s=some t):(mp.map (·.1))[t]?=some (some s)∧βof β mp t=β s:=by
 simp only [Ze0,Option.map_eq_some_iff] at hs
 obtain ⟨p,hp,rfl⟩:=hs
 have hm:=List.mem_of_find?_eq_some hp
 have he:p.1=some s:=by simpa using List.find?_some hp
 obtain ⟨i,hi,hpi⟩:=List.mem_iff_getElem.1 hm
 have hsn:=h.snd i p (by rw [List.getElem?_eq_getElem hi,hpi])
 subst hsn
 have hk:(mp.map (·.1))[p.2]?=some (some s):=by rw [List.getElem?_map,List.getElem?_eq_getElem hi,hpi]; simp [he]
 exact ⟨hk,Zgj hk⟩
theorem Zmk {mp:List (Option Nat × Nat)} (s:Nat):((mp ++ [(some s,mp.length)]).map (·.1))[mp.length]?=some (some s):=by
 rw [List.map_append,List.getElem?_append_right (by simp)]
 simp
theorem Zqg {mp:List (Option Nat × Nat)} (s:Nat):βof β (mp ++ [(some s,mp.length)]) mp.length=β s:=Zgj (Zmk s)
theorem Zvy {mp mp':List (Option Nat × Nat)} (hp:mp <+: mp') {i s:Nat} (hi:(mp.map (·.1))[i]?=some (some s)):(mp'.map (·.1))[i]?=some (some s):=by
 obtain ⟨r,rfl⟩:=hp
 rw [List.map_append,List.getElem?_append_left]
 ·exact hi
 ·rcases Nat.lt_or_ge i (mp.map (·.1)).length with h' | h'
  ·exact h'
  ·rw [List.getElem?_eq_none h'] at hi; simp at hi
theorem Zm8 {mp mp':List (Option Nat × Nat)} (hp:mp <+: mp') {i:Nat} (hi:Aof A mp i):Aof A mp' i:=let ⟨s,h,h2⟩:=hi; ⟨s,Zvy hp h,h2⟩
theorem Zos {mp mp':List (Option Nat × Nat)} (hp:mp <+: mp') {i:Nat} (hi:Aof A mp i):βof β mp' i=βof β mp i:=by
 obtain ⟨s,h,_⟩:=hi
 rw [Zgj h,Zgj (Zvy hp h)]
theorem SR1.pre {mp mp':List (Option Nat × Nat)} (hp:mp <+: mp') {v:V} {x:Value} (h:SR1 k w (βof β mp) (Aof A mp) [] v x):SR1 k w (βof β mp') (Aof A mp') [] v x:=by
 have hst:Stays k k w w (βof β mp) (βof β mp') (Aof A mp) (Aof A mp') [] []:=by
  exact ⟨Keeps.refl _ _,fun s hs=>.inl (Zm8 hp hs),fun s hs=>Zos hp hs,fun _ h=>h,fun _ _ _=>rfl,fun s hs h0=>⟨Zm8 hp hs,h0⟩⟩
 exact h.mono hst
theorem Zhv {mp mp':List (Option Nat × Nat)} (hm:MpOK mp) {v v':V} {x:Value} (h:SR1 k w β A u v x) (hr:renV u mp v=(v',mp')) :
  mp <+: mp'∧MpOK mp'∧SR1 k w (βof β mp') (Aof A mp') [] v' x:=by
 have hplain:v.plain=true→v'=v→mp'=mp→mp <+: mp'∧MpOK mp'∧SR1 k w (βof β mp') (Aof A mp') [] v' x:=by
  intro h1 h2 h3
  subst h2; subst h3
  rw [SR1.of_plain h1] at h
  exact ⟨List.prefix_refl _,hm,h.sr1⟩
 cases v with
 | vec xs c =>
  cases c with
  | own s =>
   simp only [renV] at hr
   split at hr
   ·simp only [Prod.mk.injEq] at hr
    obtain ⟨rfl,rfl⟩:=hr
    exact ⟨List.prefix_refl _,hm,h.1⟩
   ·rename_i hu
    rcases h.2 hu with h9 | h9
    rotate_left
    ·split at hr
     ·rename_i t ht
      simp only [Prod.mk.injEq] at hr
      obtain ⟨rfl,rfl⟩:=hr
      exact ⟨List.prefix_refl _,hm,h.1,fun _=>.inr h9⟩
     ·rename_i hn
      simp only [Prod.mk.injEq] at hr
      obtain ⟨rfl,rfl⟩:=hr
      exact ⟨List.prefix_append _ _,hm.push hn,h.1,fun _=>.inr h9⟩
    obtain ⟨hA,ad,cap,sz,q1,q2,q3,q4,q5,q6,q7,q8⟩:=h9
    split at hr
    ·rename_i t ht
     simp only [Prod.mk.injEq] at hr
     obtain ⟨rfl,rfl⟩:=hr
     obtain ⟨s1,s2⟩:=hm.seek (β:=β) ht
     exact ⟨List.prefix_refl _,hm,h.1,fun _=>.inl ⟨⟨s,s1,hA⟩,ad,cap,sz,q1,by rw [s2]; exact q2,q3,q4,q5,q6,by rw [s2]; exact q7,by rw [s2]; exact q8⟩⟩
    ·rename_i hn
     simp only [Prod.mk.injEq] at hr
     obtain ⟨rfl,rfl⟩:=hr
     have s2:=Zqg (β:=β) (mp:=mp) s
     exact ⟨List.prefix_append _ _,hm.push hn,h.1,fun _=>.inl ⟨⟨s,Zmk s,hA⟩,ad,cap,sz,q1,by rw [s2]; exact q2,q3,q4,q5,q6,by rw [s2]; exact q7,by rw [s2]; exact q8⟩⟩
  | any=>simp only [renV,Prod.mk.injEq] at hr; exact hplain rfl hr.1.symm hr.2.symm
  | full =>
   simp only [renV,Prod.mk.injEq] at hr
   obtain ⟨rfl,rfl⟩:=hr
   exact ⟨List.prefix_append _ _,hm.push0,VR.any h,fun _=>.inr h⟩
 | lptr s z o =>
  simp only [renV,Prod.mk.injEq] at hr
  obtain ⟨rfl,rfl⟩:=hr
  exact ⟨List.prefix_refl _,hm,trivial⟩
 | tuple vs =>
  simp only [renV,Prod.mk.injEq] at hr
  obtain ⟨rfl,rfl⟩:=hr
  exact ⟨List.prefix_refl _,hm,trivial⟩
 | itr id =>
  simp only [renV,Prod.mk.injEq] at hr
  obtain ⟨rfl,rfl⟩:=hr
  exact ⟨List.prefix_refl _,hm,h⟩
 | undef =>
  simp only [renV,Prod.mk.injEq] at hr
  obtain ⟨rfl,rfl⟩:=hr
  exact ⟨List.prefix_refl _,hm,trivial⟩
 | _=>simp only [renV,Prod.mk.injEq] at hr; exact hplain rfl hr.1.symm hr.2.symm
theorem Zjl:∀ {vs vs':List V} {mp mp':List (Option Nat × Nat)},MpOK mp→Ze4 u mp vs=(vs',mp')→(∀ v ∈ vs,∃ x,SR1 k w β A u v x) →
  mp <+: mp'∧MpOK mp'∧vs'.length=vs.length∧∀ (j:Nat) (v':V),vs'[j]?=some v'→∃ v,vs[j]?=some v∧∀ x,SR1 k w β A u v x→SR1 k w (βof β mp') (Aof A mp') [] v' x
 | [],vs',mp,mp',hm,hr,_=>by
  simp only [Ze4,Prod.mk.injEq] at hr
  obtain ⟨rfl,rfl⟩:=hr
  exact ⟨List.prefix_refl _,hm,rfl,by simp⟩
 | v :: vs,vs',mp,mp',hm,hr,hx=>by
  simp only [Ze4] at hr
  cases hr1:renV u mp v with
  | mk a1 mp1 =>
   rw [hr1] at hr
   simp only at hr
   cases hr2:Ze4 u mp1 vs with
   | mk as mp2 =>
    rw [hr2] at hr
    simp only [Prod.mk.injEq] at hr
    obtain ⟨rfl,rfl⟩:=hr
    obtain ⟨x0,hx0⟩:=hx v (by simp)
    obtain ⟨p1,p2,_⟩:=Zhv (k:=k) (w:=w) (β:=β) hm hx0 hr1
    obtain ⟨q1,q2,q3,q4⟩:=Zjl p2 hr2 (fun v' hv'=>hx v' (List.mem_cons_of_mem _ hv'))
    refine ⟨p1.trans q1,q2,by simp [q3],fun j v' hj=>?_⟩
    cases j with
    | zero =>
     simp at hj; subst hj
     refine ⟨v,by simp,fun x hxx=>?_⟩
     obtain ⟨_,_,r3⟩:=Zhv (k:=k) (w:=w) (β:=β) hm hxx hr1
     exact r3.pre q1
    | succ j =>
     obtain ⟨v0,h1,h2⟩:=q4 j v' (by simpa using hj)
     exact ⟨v0,by simpa using h1,h2⟩
structure KeptOK (k:Ctx) (w:World) (β:Nat→Nat) (A:Nat→Prop) (a:Act) (q:Kept):Prop where
 mp:MpOK q.mp
 slot:∀ (t:Nat),SR1 k w (βof β q.mp) (Aof A q.mp) [] (q.ρ t) (a.tmps.getD t undef)∧∀ vs,q.ρ t ≠ .tuple vs
 mem:∀ (s:Nat) (cs:List V),q.m s=some cs→Aof A q.mp s∧k.lim (βof β q.mp s)=0∧∃ c e,w.heap[βof β q.mp s]?=some (.cells c e (0,0))∧c.size=cs.length ∧
  ∀ (j:Nat) (v:V),cs[j]?=some v→∃ x,c[j]?=some x∧SR1 k w (βof β q.mp) (Aof A q.mp) [] v x∧x.oneCell'=true
theorem KeptOK.grow {q:Kept} (h:KeptOK k w β A a q) {mp':List (Option Nat × Nat)} (hp:q.mp <+: mp') (hm:MpOK mp'):KeptOK k w β A a ⟨q.ρ,q.m,mp'⟩:=by
 refine ⟨hm,fun t=>⟨(h.slot t).1.pre hp,(h.slot t).2⟩,fun s cs hs=>?_⟩
 obtain ⟨h1,h2,c,e,h3,h4,h5⟩:=h.mem s cs hs
 have hb:=Zos (β:=β) hp h1
 exact ⟨Zm8 hp h1,by show k.lim (βof β mp' s)=0; rw [hb]; exact h2,c,e,by show w.heap[βof β mp' s]?=_; rw [hb]; exact h3,h4,fun j v hj=>let ⟨x,p,q,r⟩:=h5 j v hj; ⟨x,p,q.pre hp,r⟩⟩
theorem KeptOK.setSlot {q:Kept} (h:KeptOK k w β A a q) {t:Nat} {v:V} (hv:SR1 k w (βof β q.mp) (Aof A q.mp) [] v (a.tmps.getD t undef)) (hn:∀ vs,v ≠ .tuple vs):KeptOK k w β A a ⟨upd q.ρ t v,q.m,q.mp⟩:=by
 refine ⟨h.mp,fun t'=>?_,h.mem⟩
 simp only [upd]
 split
 ·rename_i ht; rw [ht]; exact ⟨hv,hn⟩
 ·exact h.slot t'
theorem Zkk {mp mp':List (Option Nat × Nat)} {v v':V} (hr:renV u mp v=(v',mp')):∀ vs,v' ≠ .tuple vs:=by
 intro vs hv
 subst hv
 cases v with
 | vec xs c =>
  cases c <;> simp only [renV] at hr
  ·simp at hr
  ·simp at hr
  ·repeat' split at hr
   all_goals simp at hr
 | _=>simp [renV] at hr
theorem Zoc (h:FW G N e k β A st a w) {q:Kept} (hq:KeptOK k w β A a q) (t:Nat):KeptOK k w β A a (Zll st q t):=by
 have hsl:=h.slot t
 unfold Zll
 split
 ·rename_i s z o hρ
  rw [hρ] at hsl
  obtain ⟨hx,hA,hl,c,e',hc,hz⟩:=(show SR1 k w β A st.u (.lptr s z o) _ from hsl)
  split
  ·rename_i s' hs'
   obtain ⟨s1,s2⟩:=hq.mp.seek (β:=β) hs'
   exact hq.setSlot ⟨by rw [s2]; exact hx,⟨s,s1,hA⟩,by rw [s2]; exact hl,c,e',by rw [s2]; exact hc,hz⟩ (by simp)
  ·rename_i hn
   split
   ·rename_i cs hm
    obtain ⟨_,_,c2,e2,hc2,hsz,hall⟩:=h.mem s cs hm
    have hm1:=hq.mp.push hn
    cases hr:Ze4 st.u (q.mp ++ [(some s,q.mp.length)]) cs with
    | mk cs' mp' =>
     have hex:∀ v ∈ cs,∃ x,SR1 k w β A st.u v x:=by
      intro v hv
      obtain ⟨j,hj,rfl⟩:=List.mem_iff_getElem.1 hv
      obtain ⟨x,_,hx,_⟩:=hall j _ (List.getElem?_eq_getElem hj)
      exact ⟨x,hx⟩
     obtain ⟨p1,p2,p3,p4⟩:=Zjl (k:=k) (w:=w) (β:=β) hm1 hr hex
     have hpre:q.mp <+: mp':=(List.prefix_append _ _).trans p1
     have hlt0:Aof A (q.mp ++ [(some s,q.mp.length)]) q.mp.length:=⟨s,Zmk s,hA⟩
     have hb:βof β mp' q.mp.length=β s:=by rw [Zos p1 hlt0,Zqg]
     have hlt:Aof A mp' q.mp.length:=Zm8 p1 hlt0
     have h1:=hq.grow hpre p2
     have h2:=h1.setSlot (t:=t) (v:=.lptr q.mp.length z o) ⟨by rw [hb]; exact hx,hlt,by rw [hb]; exact hl,c,e',by rw [hb]; exact hc,hz⟩ (by simp)
     refine ⟨h2.mp,h2.slot,fun s2 cs2 hs2=>?_⟩
     simp only [upd] at hs2
     split at hs2
     ·rename_i heq
      simp only [Option.some.injEq] at hs2
      subst heq; subst hs2
      refine ⟨hlt,by show k.lim (βof β mp' _)=0; rw [hb]; exact hl,c2,e2,by show w.heap[βof β mp' _]?=_; rw [hb]; exact hc2,by rw [p3]; exact hsz,fun j v hj=>?_⟩
      obtain ⟨v0,g1,g2⟩:=p4 j v hj
      obtain ⟨x,g3,g4,g5⟩:=hall j v0 g1
      exact ⟨x,g3,g2 x g4,g5⟩
     ·exact h2.mem s2 cs2 hs2
   ·exact hq
 ·rename_i v hnl
  cases hr:renV st.u q.mp (st.ρ t) with
  | mk v' mp' =>
   by_cases htup:∃ vs,st.ρ t=.tuple vs
   ·obtain ⟨vs,hvs⟩:=htup
    rw [hvs] at hr
    simp only [renV,Prod.mk.injEq] at hr
    obtain ⟨rfl,rfl⟩:=hr
    exact hq.setSlot trivial (by simp)
   ·have hsl1:SR1 k w β A st.u (st.ρ t) (a.tmps.getD t undef):=by
     rw [SR.eq1 (fun vs hv=>htup ⟨vs,hv⟩)] at hsl; exact hsl
    obtain ⟨p1,p2,p3⟩:=Zhv (k:=k) (w:=w) (β:=β) hq.mp hsl1 hr
    exact (hq.grow p1 p2).setSlot p3 (Zkk hr)
theorem Zp1 {live:List Nat} (hres:∀ s,¬ e.res s) (h:Inv G N e st a w):Inv G N e (clear live st) a w:=by
 obtain ⟨k,β,A,h⟩:=h
 have h0:KeptOK k w β A a ⟨fun _=>.undef,fun _=>none,[]⟩:=⟨⟨by simp,by simp⟩,fun t=>⟨trivial,by simp⟩,by simp⟩
 have hall:∀ (l:List Nat) (q:Kept),KeptOK k w β A a q→KeptOK k w β A a (l.foldl (Zll st) q):=by
  intro l
  induction l with
  | nil=>intro q hq; exact hq
  | cons t l ih=>intro q hq; exact ih _ (Zoc h hq t)
 have hq:=hall live _ h0
 unfold clear
 generalize live.foldl (Zll st) ⟨fun _=>.undef,fun _=>none,[]⟩=q at hq
 obtain ⟨ρ,m,mp⟩:=q
 refine ⟨k,βof β mp,Aof A mp,fun t=>?_,h.size,h.defers,hq.mem,fun s hs=>?_,fun s s' hs hs' heq=>?_,fun s hs=>absurd hs (hres s),h.wr,h.old⟩
 ·rw [SR.eq1 (hq.slot t).2]; exact (hq.slot t).1
 ·obtain ⟨s0,hk,hA⟩:=hs
  obtain ⟨_,p2,p3,p4⟩:=h.alloc _ hA
  rw [Zgj hk]
  refine ⟨?_,p2,p3,p4⟩
  rcases Nat.lt_or_ge s (mp.map (·.1)).length with h' | h'
  ·simpa using h'
  ·rw [List.getElem?_eq_none h'] at hk; simp at hk
 ·obtain ⟨s0,hk,hA⟩:=hs
  obtain ⟨s1,hk',hA'⟩:=hs'
  rw [Zgj hk,Zgj hk'] at heq
  have:=h.ainj _ _ hA hA' heq
  subst this
  exact hq.mp.nodup _ _ _ hk hk'
end
end Go.Ab
